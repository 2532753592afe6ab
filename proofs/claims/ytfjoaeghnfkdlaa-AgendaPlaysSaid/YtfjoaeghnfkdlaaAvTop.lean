/- From the row's readings to abstract values, and back. No condition. -/
import Derived.Test.YtfjoaeghnfkdlaaAvFnH
import Derived.Test.YtfjoaeghnfkdlaaRep
namespace Go.Proofs.Ytfjoaeghnfkdlaa
set_option linter.unusedSimpArgs false
set_option linter.unusedVariables false
set_option maxRecDepth 100000
set_option linter.unusedVariables false
set_option linter.unusedSimpArgs false
open Go.RowKit
def eI (x : Int) : List AV := [.int .i64 x]
def eU (x : Int) : List AV := [.int .u32 x]
def eB (x : Bool) : List AV := [.bool x]
/-- What is known of a world. -/
def sg (w : World) : Sig := fun a => w.cell? a
/-- A datum's cells read as these. -/
def Br {α : Type} (R : Cod α) (f : α → List AV) : Prop := ∀ w cs x, R w cs x → L2 (VR0 (sg w)) (f x) cs
theorem br_int : Br (cInt .i64) eI := fun w cs x ⟨h1, h2⟩ => by subst h1; exact (L2.nil _).cons (.int _ _ (rangeP_wf.2 h2))
theorem br_u32 : Br (cInt .u32) eU := fun w cs x ⟨h1, h2⟩ => by subst h1; exact (L2.nil _).cons (.int _ _ (rangeP_wf.2 h2))
theorem br_bool : Br cBool eB := fun w cs x h1 => by cases h1; exact (L2.nil _).cons (.bool _)
theorem br_row {α : Type} {R : Cod α} {f : α → List AV} {k : Nat} (hR : Br R f) (hk : ∀ x, (f x).length = k) {w : World} {A : Option Addr} {xs : List α} {c : Nat} (h : Row R k w A xs) (hl : xs.length ≤ c) (hm : c ≤ maxLen) :
    VR0 (sg w) (.lst k (xs.map f)) (.slice A xs.length c) := by
  cases xs with
  | nil => exact .empty _ _ _ hm
  | cons x0 xr =>
    obtain ⟨b, off, rfl, hrow⟩ := h (by simp)
    generalize hxs : x0 :: xr = xs at *
    have hex : ∀ i, i < xs.length → ∃ cs : List Value, L2 (VR0 (sg w)) (f (xs.getD i x0)) cs ∧ cs.length = k ∧ ∀ j v, cs[j]? = some v → w.cell? ⟨b, off + i * k + j, none⟩ = some v := fun i hi => by
      obtain ⟨cs, h1, h2, h3⟩ := hrow i xs[i] (List.getElem?_eq_getElem hi)
      exact ⟨cs, by simpa [hi] using hR w cs _ h1, h2, h3⟩
    obtain ⟨g, hg⟩ := Go.Deep.choose_lt hex
    have hs : ∀ c ∈ xs.map f, c.length = k := fun c hc => by obtain ⟨x, _, rfl⟩ := List.mem_map.1 hc; exact hk x
    have hfl : (xs.map f).flatten.length = xs.length * k := by rw [flatten_length hs, List.length_map]
    have hat : ∀ (j : Nat) (a : AV), (xs.map f).flatten[j]? = some a → ∃ v, w.cell? ⟨b, off + j, none⟩ = some v ∧ VR0 (sg w) a v := fun j a hj => by
      have hjl : j < xs.length * k := by rw [← hfl]; exact (List.getElem?_eq_some_iff.1 hj).1
      have hk0 : 0 < k := Nat.pos_of_ne_zero fun e => by subst e; simp at hjl
      have hi : j / k < xs.length := Nat.div_lt_of_lt_mul (by rw [Nat.mul_comm]; exact hjl)
      have hm : j % k < k := Nat.mod_lt _ hk0
      obtain ⟨h1, h2, h3⟩ := hg (j / k) hi
      have hc : (xs.map f)[j / k]? = some (f (xs.getD (j / k) x0)) := by simp [hi]
      have hlen : j % k < (f (xs.getD (j / k) x0)).length := by rw [hk]; exact hm
      have h4 := flatten_get hs hc (List.getElem?_eq_getElem hlen)
      rw [Nat.mul_comm, Nat.div_add_mod] at h4
      rw [h4] at hj; cases hj
      obtain ⟨v, hv, hv2⟩ := h1.get (List.getElem?_eq_getElem hlen)
      refine ⟨v, ?_, hv2⟩
      have := h3 _ v hv
      rwa [Nat.add_assoc, Nat.mul_comm, Nat.div_add_mod] at this
    have : (.slice (some ⟨b, off, none⟩) xs.length c : Value) = .slice (some ⟨b, off, none⟩) (xs.map f).length c := by simp
    rw [this]
    refine .lst _ _ _ _ _ (fun j => (w.cell? ⟨b, off + j, none⟩).getD undef) (by simpa using hl) hm hs (fun j a hj => ?_) fun j a hj => ?_
    · obtain ⟨v, h1, _⟩ := hat j a hj
      simp [sg, h1]
    · obtain ⟨v, h1, h2⟩ := hat j a hj
      rw [h1]; exact h2
/-- The whole: a law that returns true at these arguments. -/
theorem top {P : Program} {f : FuncId} {args : List AV} {vs : List Value} {W : World} (hf : Fn P f args (.bool true)) (hv : L2 (VR0 (sg W)) args vs) :
    Calls P f vs.toArray W fun e W' => e = .returned (.bool true) ∧ Below W.heap.size W W' := by
  refine (hf.2 (sg W) (fun _ => undef) W vs (fun _ _ h => h) (hv.mono fun _ _ h => .base _ _ h)).mono ?_
  rintro e w' ⟨u, σ', rfl, h1, h2⟩
  exact ⟨by rw [VR.bool_inv (ι := fun _ => undef) (.base _ _ h1)], ⟨h2.os, h2.tape, h2.output, h2.size, fun k hk => h2.old k hk (by simp)⟩⟩
theorem v_slice {α : Type} {R : Cod α} {f : α → List AV} {k : Nat} (hR : Br R f) (hk : ∀ x, (f x).length = k) {w : World} {A : Option Addr} {xs : List α} {c : Nat} (h : Row R k w A xs) (hl : xs.length ≤ c) (hm : c ≤ 9223372036854775807) : VR0 (sg w) (.lst k (xs.map f)) (.slice A xs.length c) :=
  br_row hR hk h hl (by simpa only [maxLen] using hm)
theorem v_int {w : World} {k : IntKind} {x : Int} (h : (Lit.int k x).wf = true) : VR0 (sg w) (.int k x) (.int k x) := .int _ _ (rangeP_wf.2 h)
theorem v_struct {α : Type} {R : Cod α} {f : α → List AV} (hR : Br R f) {w : World} {cs : List Value} {x : α} (h : R w cs x) : VR0 (sg w) (.agg (f x)) (.agg cs.toArray) := .agg _ _ (hR w cs x h).1 (hR w cs x h).2
/-- A flat struct held against another one. -/
theorem ok_eqS {P : Program} {s : Slots} {h : Heap} {o : Oper} {α : Type} [DecidableEq α] (cells : α → List Value) (e : α → List AV) {t yt : TypeId} {X Y : Operand} {op : BinOp} {x y : α} (hop : op = .eql ∨ op = .neq)
    (hex : ∀ σ ι x vs, L2 (VR σ ι) (e x) vs → vs = cells x) (hrun : ∀ w, (Op.equalIn 10000 t (.agg (cells x).toArray) (.agg (cells y).toArray)).run P w = .ok (decide (x = y)) w)
    (hgd : ∀ (xs ys : Array Value) w, (eqGuard op t X Y (.agg xs) (.agg ys)).run P w = .ok () w)
    (ho : o.op = .binOp op t X Y yt) (hx : evA s X = .agg (e x)) (hy : evA s Y = .agg (e y)) : OkO P o s h (.bool (if op = .eql then decide (x = y) else !decide (x = y))) := by
  refine ok_of_run fun E σ ι a w hr hv => ?_
  have hX := hv X (by rw [ho]; simp [Op.operands])
  have hY := hv Y (by rw [ho]; simp [Op.operands])
  rw [hx] at hX
  rw [hy] at hY
  obtain ⟨us, h1, h2⟩ := hX.agg_inv
  obtain ⟨vs, h3, h4⟩ := hY.agg_inv
  rw [hex _ _ _ _ h2] at h1
  rw [hex _ _ _ _ h4] at h3
  refine ⟨_, ?_, .base _ _ (.bool _)⟩
  have h5 : (Op.equal t (.agg (cells x).toArray) (.agg (cells y).toArray)).run P w = .ok (decide (x = y)) w := hrun w
  unfold execOp
  simp only [ho, h1, h3, Sem.run_bind, hgd, Result.andThen_ok]
  rcases hop with rfl | rfl
  · simp only [binOp, Sem.run_bind, h5, Result.andThen_ok, Sem.run_pure, if_true]
  · simp only [binOp, Sem.run_bind, h5, Result.andThen_ok, Sem.run_pure, reduceCtorEq, if_false]
/-- The numbers of a list's elements are numbers of their kinds. -/
theorem wlist {P : Program} {n : Md} {c : Code} {Q : Exit → Slots → Heap → Prop} {s : Slots} {h : Heap} {α : Type} {sz : Nat} {l : List α} {f : α → List AV} (t : Nat) (hg : get s t = .lst sz (l.map f)) (hk : (∀ x ∈ l, ∀ k m, AV.int k m ∈ f x → rangeP k m) → W P n c Q s h) : W P n c Q s h := ⟨by
  intro E σ ι a w hr ht
  have hv := ht.at_ t
  rw [hg] at hv
  obtain ⟨A, cap, _, _, _, h4⟩ := hv.lst_inv
  refine (hk fun x hx k m hm => ?_).out E σ ι a w hr ht
  rcases h4 with h4 | ⟨b, off, g, _, h5, h6, h7⟩
  · have : l = [] := by simpa using h4
    subst this; cases hx
  · have hmem : AV.int k m ∈ (l.map f).flatten := List.mem_flatten.2 ⟨f x, List.mem_map_of_mem hx, hm⟩
    obtain ⟨j, hj⟩ := List.getElem?_of_mem hmem
    have := h7 j _ hj
    exact (VR.base (ι := ι) _ _ this).int_inv.2⟩
theorem wagg {P : Program} {n : Md} {c : Code} {Q : Exit → Slots → Heap → Prop} {s : Slots} {h : Heap} {cs : List AV} (t : Nat) (hg : get s t = .agg cs) (hk : (∀ k m, AV.int k m ∈ cs → rangeP k m) → W P n c Q s h) : W P n c Q s h := ⟨by
  intro E σ ι a w hr ht
  have hv := ht.at_ t
  rw [hg] at hv
  obtain ⟨vs, _, h2⟩ := hv.agg_inv
  refine (hk fun k m hm => ?_).out E σ ι a w hr ht
  obtain ⟨j, hj⟩ := List.getElem?_of_mem hm
  obtain ⟨v, _, hR⟩ := h2.get hj
  exact hR.int_inv.2⟩
theorem ints_range {l : List Int} (h : ∀ x ∈ l, ∀ k m, AV.int k m ∈ eI x → rangeP k m) (i : Nat) : -9223372036854775808 ≤ l.getD i default ∧ l.getD i default ≤ 9223372036854775807 := by
  by_cases hi : i < l.length
  · have := h l[i] (List.getElem_mem hi) .i64 l[i] (by simp [eI])
    simp only [rangeP] at this
    simpa [hi] using this
  · simp [hi]
end Go.Proofs.Ytfjoaeghnfkdlaa
