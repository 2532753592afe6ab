/- How slices and structs in memory read as lists and tuples: the words that the contracts use; no condition. -/
import Derived.Test.YtkkmageogkkchaaGreatT5
import Derived.Deep.Slices
import Derived.Deep.Draws
import Derived.OpenShut
import Derived.Laws.OwnMore
import Derived.WalkKit
set_option linter.unusedSimpArgs false
set_option linter.unusedVariables false
set_option maxHeartbeats 1000000
namespace Go.Proofs.YtkkmageogkkchaaGreat
set_option maxRecDepth 100000
open Go.RowKit Go.ChangeShapes Go.WideShapes

abbrev Cod (α : Type) := World → List Value → α → Prop

def Ext (w w' : World) : Prop := ∀ a v, w.cell? a = some v → w'.cell? a = some v
theorem Ext.refl (w : World) : Ext w w := fun _ _ h => h
theorem Ext.trans {a b c : World} (h : Ext a b) (k : Ext b c) : Ext a c := fun p v hp => k p v (h p v hp)
theorem Ext.below {w w' : World} (h : Below w.heap.size w w') : Ext w w' := fun a v hv => (h.cell (World.block_lt_of_cell? w a hv)).trans hv
theorem Ext.drew (w : World) : Ext w w.drew := fun _ _ h => h

def Row' {α : Type} (R : Cod α) (k : Nat) (w : World) (b off : Nat) (xs : List α) : Prop :=
  ∀ i x, xs[i]? = some x → ∃ cs, R w cs x ∧ cs.length = k ∧ ∀ j v, cs[j]? = some v → w.cell? ⟨b, off + i * k + j, none⟩ = some v
def Row {α : Type} (R : Cod α) (k : Nat) (w : World) (A : Option Addr) (xs : List α) : Prop :=
  0 < xs.length → ∃ b off, A = some ⟨b, off, none⟩ ∧ Row' R k w b off xs
def cSlice {α : Type} (R : Cod α) (k : Nat) : Cod (List α) := fun w cs xs => ∃ A c, cs = [.slice A xs.length c] ∧ xs.length ≤ c ∧ c ≤ maxLen ∧ Row R k w A xs
def cInt (k : IntKind) : Cod Int := fun _ cs x => cs = [.int k x] ∧ (Lit.int k x).wf = true
def cBool : Cod Bool := fun _ cs x => cs = [.bool x]

def Mono {α : Type} (R : Cod α) : Prop := ∀ w w' cs x, Ext w w' → R w cs x → R w' cs x
theorem Mono.int (k : IntKind) : Mono (cInt k) := fun _ _ _ _ _ h => h
theorem Mono.bool : Mono cBool := fun _ _ _ _ _ h => h
theorem Row'.ext {α : Type} {R : Cod α} {k b off : Nat} {w w' : World} {xs : List α} (hR : Mono R) (h : Row' R k w b off xs) (he : Ext w w') : Row' R k w' b off xs := by
  intro i x hx
  obtain ⟨cs, h1, h2, h3⟩ := h i x hx
  exact ⟨cs, hR _ _ _ _ he h1, h2, fun j v hv => he _ _ (h3 j v hv)⟩
theorem Row.ext {α : Type} {R : Cod α} {k : Nat} {w w' : World} {A : Option Addr} {xs : List α} (hR : Mono R) (h : Row R k w A xs) (he : Ext w w') : Row R k w' A xs := by
  intro hp
  obtain ⟨b, off, h1, h2⟩ := h hp
  exact ⟨b, off, h1, h2.ext hR he⟩
theorem Mono.slice {α : Type} {R : Cod α} (hR : Mono R) (k : Nat) : Mono (cSlice R k) := fun _ _ _ _ he ⟨A, c, h1, h2, h3, h4⟩ => ⟨A, c, h1, h2, h3, h4.ext hR he⟩
theorem Row.nil {α : Type} (R : Cod α) (k : Nat) (w : World) (A : Option Addr) : Row R k w A [] := fun h => absurd h (by simp)
theorem Row'.take {α : Type} {R : Cod α} {k b off : Nat} {w : World} {xs : List α} (h : Row' R k w b off xs) (n : Nat) : Row' R k w b off (xs.take n) := by
  intro i x hx
  rw [List.getElem?_take] at hx
  split at hx
  · exact h i x hx
  · cases hx
theorem Row.take {α : Type} {R : Cod α} {k : Nat} {w : World} {A : Option Addr} {xs : List α} (h : Row R k w A xs) (n : Nat) : Row R k w A (xs.take n) := by
  intro hp
  obtain ⟨b, off, h1, h2⟩ := h (by rw [List.length_take] at hp; omega)
  exact ⟨b, off, h1, h2.take n⟩
theorem Row'.drop {α : Type} {R : Cod α} {k b off : Nat} {w : World} {xs : List α} (h : Row' R k w b off xs) (n : Nat) : Row' R k w b (off + n * k) (xs.drop n) := by
  intro i x hx
  rw [List.getElem?_drop] at hx
  obtain ⟨cs, h1, h2, h3⟩ := h _ x hx
  refine ⟨cs, h1, h2, fun j v hv => ?_⟩
  have := h3 j v hv
  rwa [show off + (n + i) * k + j = off + n * k + i * k + j by rw [Nat.add_mul]; omega] at this

theorem Row'.int {ik : IntKind} {w : World} {b off : Nat} {xs : List Int} (h : Row' (cInt ik) 1 w b off xs) (i : Nat) (hi : i < xs.length) :
    w.cell? ⟨b, off + i, none⟩ = some (.int ik xs[i]) ∧ (Lit.int ik xs[i]).wf = true := by
  obtain ⟨cs, ⟨rfl, hw⟩, _, h3⟩ := h i xs[i] (List.getElem?_eq_getElem hi)
  have := h3 0 _ rfl
  simp only [Nat.mul_one, Nat.add_zero] at this
  exact ⟨this, hw⟩
theorem Row'.bool {w : World} {b off : Nat} {xs : List Bool} (h : Row' cBool 1 w b off xs) (i : Nat) (hi : i < xs.length) :
    w.cell? ⟨b, off + i, none⟩ = some (.bool xs[i]) := by
  obtain ⟨cs, rfl, _, h3⟩ := h i xs[i] (List.getElem?_eq_getElem hi)
  have := h3 0 _ rfl
  simp only [Nat.mul_one, Nat.add_zero] at this
  exact this

/-! ## From the row's readings to these words -/
def Opens {α : Type} (P : Program) (e : TypeId) (R : Cod α) : Prop :=
  ∀ (H : Type) (enc : TypeId × Value → H) (w : World) (base : Nat) (spare : Nat → Bool) (held : Bool) (fuel : Nat) (cs : List Value) (x : DataW H × List MemPlace), DataW.trod enc P w base spare held fuel e cs = some x → ∃ y : α, R w cs y
theorem Opens.int {P : Program} {e : TypeId} {k : IntKind} (hu : P.underlying e = some (.int k)) : Opens P e (cInt k) := by
  intro H enc w base spare held fuel cs x h
  obtain ⟨n, h1, _, h3⟩ := DataW.trod_int hu h
  exact ⟨n, h1, h3⟩
theorem Opens.bool {P : Program} {e : TypeId} (hu : P.underlying e = some .bool) : Opens P e cBool := by
  intro H enc w base spare held fuel cs x h
  obtain ⟨n, h1, _⟩ := DataW.trod_bool hu h
  exact ⟨n, h1⟩
theorem Opens.slice {α : Type} [Inhabited α] {P : Program} {t e : TypeId} {R : Cod α} {k : Nat} (ht : P.underlying t = some (.slice e)) (hC : P.cellsOf e = k) (hk : 0 < k) (hR : Opens P e R) : Opens P t (cSlice R k) := by
  intro H enc w base spare held fuel cs x h
  rcases Go.Deep.open_slice ht h with ⟨rfl, _⟩ | ⟨a, len, cap, m, n, D, Pl, rfl, _, hl, hm, hmm, _, hel⟩
  · exact ⟨[], none, 0, rfl, by simp, by simp, Row.nil _ _ _ _⟩
  · have hle : len ≤ m := by rw [hmm]; split <;> omega
    have hex : ∀ i, i < len → ∃ y : α, ∃ cs', R w cs' y ∧ cs'.length = k ∧ ∀ j v, cs'[j]? = some v → w.cell? ((a.add (i * k)).add j) = some v := by
      intro i hi
      obtain ⟨cs', h1, h2⟩ := hel i (by omega)
      obtain ⟨y, hy⟩ := hR _ _ _ _ _ _ _ _ _ h2
      rw [hC] at h1
      obtain ⟨_, hcl, hat⟩ := World.cells?_some h1
      refine ⟨y, cs', hy, hcl, fun j v hv => ?_⟩
      have hj : j < k := by
        have := (List.getElem?_eq_some_iff.1 hv).1
        omega
      rw [hat j hj, hv]
    obtain ⟨f, hf⟩ := Go.Deep.choose_lt hex
    refine ⟨(List.range len).map f, some a, cap, by simp, by simpa using hl, hm, fun hp => ?_⟩
    obtain ⟨b, off, spot⟩ := a
    have h0 : 0 < len := by simpa using hp
    obtain ⟨cs0, _, hl0, hc0⟩ := hf 0 h0
    have hs : spot = none := by
      have h1 : cs0[0]? = some (cs0[0]'(by omega)) := List.getElem?_eq_getElem (by omega)
      have := hc0 0 _ h1
      simpa [Addr.add] using World.cell?_spot this
    subst hs
    refine ⟨b, off, rfl, fun i y hy => ?_⟩
    have hi : i < len := by
      have := (List.getElem?_eq_some_iff.1 hy).1
      simpa using this
    obtain ⟨cs', h1, h2, h3⟩ := hf i hi
    have hy' : f i = y := by simpa [hi] using hy
    subst hy'
    refine ⟨cs', h1, h2, fun j v hv => ?_⟩
    have := h3 j v hv
    rwa [Go.Deep.add_add, Go.WideShapes.add_plain, ← Nat.add_assoc] at this

theorem takeHead {cs : List Value} {o k : Nat} {v : Value} (h : (cs.drop o).take k = [v]) : cs[o]? = some v := by
  cases k with
  | zero => simp at h
  | succ k =>
    cases hd : cs.drop o with
    | nil => rw [hd] at h; simp at h
    | cons a r =>
      rw [hd] at h
      simp at h
      have : (cs.drop o)[0]? = some v := by rw [hd, h.1]; rfl
      rwa [List.getElem?_drop, Nat.add_zero] at this
theorem list_of_cells {cs : List Value} (l : List Value) (hlen : cs.length = l.length) (h : ∀ i, i < l.length → cs[i]? = l[i]?) : cs = l := by
  apply List.ext_getElem?
  intro i
  by_cases hi : i < l.length
  · exact h i hi
  · rw [List.getElem?_eq_none (by omega), List.getElem?_eq_none (by omega)]

theorem open_struct_arg {α : Type} {H : Type} {enc : TypeId × Value → H} {P : Program} {W : World} {t : TypeId} {fs : Array Field} {r : Reach} {b0 : Nat} {R : Cod α} {v : Value} {d : DataW H} {p : List MemPlace} {sp : Nat → Bool}
    (ht : P.underlying t = some (.struct fs)) (hO : Opens P t R) (hv : Value.okWide P W r b0 t v) (h : DataW.Trod enc P W 0 sp true t v d p) :
    ∃ cs x, v = .agg (List.toArray cs) ∧ R W cs x := by
  obtain ⟨cs, rfl, _⟩ := okWide_struct ht hv
  obtain ⟨fuel, hf⟩ := h
  obtain ⟨x, hx⟩ := hO _ _ _ _ _ _ _ _ _ hf
  exact ⟨cs.toList, x, by simp, by simpa [Value.cells] using hx⟩
end Go.Proofs.YtkkmageogkkchaaGreat
namespace Go.Proofs.YtkkmageogkkchaaGreat
set_option maxRecDepth 100000
open Go.RowKit
def eI (x : Int) : List AV := [.int .i64 x]
def eU (x : Int) : List AV := [.int .u32 x]
def eB (x : Bool) : List AV := [.bool x]
def sg (w : World) : Sig := fun a => w.cell? a
def Br {α : Type} (R : Cod α) (f : α → List AV) : Prop := ∀ w cs x, R w cs x → L2 (VR0 (sg w)) (f x) cs
theorem br_int : Br (cInt .i64) eI := fun w cs x ⟨h1, h2⟩ => by subst h1; exact (L2.nil _).cons (.int _ _ (rangeP_wf.2 h2))
theorem br_u32 : Br (cInt .u32) eU := fun w cs x ⟨h1, h2⟩ => by subst h1; exact (L2.nil _).cons (.int _ _ (rangeP_wf.2 h2))
theorem br_row {α : Type} {R : Cod α} {f : α → List AV} {k : Nat} (hR : Br R f) (hk : ∀ x, (f x).length = k) {w : World} {A : Option Addr} {xs : List α} {c : Nat} (h : Row R k w A xs) (hl : xs.length ≤ c) (hm : c ≤ maxLen) :
    VR0 (sg w) (.lst k (xs.map f)) (.slice A xs.length c) := by
  cases xs with
  | nil => exact .empty _ _ _ hm
  | cons x0 xr =>
    obtain ⟨b, off, rfl, hrow⟩ := h (by simp)
    generalize hxs : x0 :: xr = xs at *
    have hex : ∀ i, i < xs.length → ∃ cs : List Value, L2 (VR0 (sg w)) (f (xs.getD i x0)) cs ∧ cs.length = k ∧ ∀ j v, cs[j]? = some v → w.cell? ⟨b, off + i * k + j, none⟩ = some v := fun i hi => by
      obtain ⟨cs, h1, h2, h3⟩ := hrow i xs[i] (List.getElem?_eq_getElem hi)
      exact ⟨cs, by simpa [hi] using hR w cs _ h1, h2, h3⟩
    obtain ⟨g, hg⟩ := Go.Deep.choose_lt hex
    have hs : ∀ c ∈ xs.map f, c.length = k := fun c hc => by obtain ⟨x, _, rfl⟩ := List.mem_map.1 hc; exact hk x
    have hfl : (xs.map f).flatten.length = xs.length * k := by rw [flatten_length hs, List.length_map]
    have hat : ∀ (j : Nat) (a : AV), (xs.map f).flatten[j]? = some a → ∃ v, w.cell? ⟨b, off + j, none⟩ = some v ∧ VR0 (sg w) a v := fun j a hj => by
      have hjl : j < xs.length * k := by rw [← hfl]; exact (List.getElem?_eq_some_iff.1 hj).1
      have hk0 : 0 < k := Nat.pos_of_ne_zero fun e => by subst e; simp at hjl
      have hi : j / k < xs.length := Nat.div_lt_of_lt_mul (by rw [Nat.mul_comm]; exact hjl)
      have hm : j % k < k := Nat.mod_lt _ hk0
      obtain ⟨h1, h2, h3⟩ := hg (j / k) hi
      have hc : (xs.map f)[j / k]? = some (f (xs.getD (j / k) x0)) := by simp [hi]
      have hlen : j % k < (f (xs.getD (j / k) x0)).length := by rw [hk]; exact hm
      have h4 := flatten_get hs hc (List.getElem?_eq_getElem hlen)
      rw [Nat.mul_comm, Nat.div_add_mod] at h4
      rw [h4] at hj; cases hj
      obtain ⟨v, hv, hv2⟩ := h1.get (List.getElem?_eq_getElem hlen)
      refine ⟨v, ?_, hv2⟩
      have := h3 _ v hv
      rwa [Nat.add_assoc, Nat.mul_comm, Nat.div_add_mod] at this
    have : (.slice (some ⟨b, off, none⟩) xs.length c : Value) = .slice (some ⟨b, off, none⟩) (xs.map f).length c := by simp
    rw [this]
    refine .lst _ _ _ _ _ (fun j => (w.cell? ⟨b, off + j, none⟩).getD undef) (by simpa using hl) hm hs (fun j a hj => ?_) fun j a hj => ?_
    · obtain ⟨v, h1, _⟩ := hat j a hj
      simp [sg, h1]
    · obtain ⟨v, h1, h2⟩ := hat j a hj
      rw [h1]; exact h2
theorem top {P : Program} {f : FuncId} {args : List AV} {vs : List Value} {W : World} (hf : Fn P f args (.bool true)) (hv : L2 (VR0 (sg W)) args vs) :
    Calls P f vs.toArray W fun e W' => e = .returned (.bool true) ∧ Below W.heap.size W W' := by
  refine (hf.2 (sg W) (fun _ => undef) W vs (fun _ _ h => h) (hv.mono fun _ _ h => .base _ _ h)).mono ?_
  rintro e w' ⟨u, σ', rfl, h1, h2⟩
  exact ⟨by rw [VR.bool_inv (ι := fun _ => undef) (.base _ _ h1)], ⟨h2.os, h2.tape, h2.output, h2.size, fun k hk => h2.old k hk (by simp)⟩⟩
theorem v_struct {α : Type} {R : Cod α} {f : α → List AV} (hR : Br R f) {w : World} {cs : List Value} {x : α} (h : R w cs x) : VR0 (sg w) (.agg (f x)) (.agg cs.toArray) := .agg _ _ (hR w cs x h).1 (hR w cs x h).2
theorem ok_eqS {P : Program} {s : Slots} {h : Heap} {o : Oper} {α : Type} [DecidableEq α] (cells : α → List Value) (e : α → List AV) {t yt : TypeId} {X Y : Operand} {op : BinOp} {x y : α} (hop : op = .eql ∨ op = .neq)
    (hex : ∀ σ ι x vs, L2 (VR σ ι) (e x) vs → vs = cells x) (hrun : ∀ w, (Op.equalIn 10000 t (.agg (cells x).toArray) (.agg (cells y).toArray)).run P w = .ok (decide (x = y)) w)
    (hgd : ∀ (xs ys : Array Value) w, (eqGuard op t X Y (.agg xs) (.agg ys)).run P w = .ok () w)
    (ho : o.op = .binOp op t X Y yt) (hx : evA s X = .agg (e x)) (hy : evA s Y = .agg (e y)) : OkO P o s h (.bool (if op = .eql then decide (x = y) else !decide (x = y))) := by
  refine ok_of_run fun E σ ι a w hr hv => ?_
  have hX := hv X (by rw [ho]; simp [Op.operands])
  have hY := hv Y (by rw [ho]; simp [Op.operands])
  rw [hx] at hX
  rw [hy] at hY
  obtain ⟨us, h1, h2⟩ := hX.agg_inv
  obtain ⟨vs, h3, h4⟩ := hY.agg_inv
  rw [hex _ _ _ _ h2] at h1
  rw [hex _ _ _ _ h4] at h3
  refine ⟨_, ?_, .base _ _ (.bool _)⟩
  have h5 : (Op.equal t (.agg (cells x).toArray) (.agg (cells y).toArray)).run P w = .ok (decide (x = y)) w := hrun w
  unfold execOp
  simp only [ho, h1, h3, Sem.run_bind, hgd, Result.andThen_ok]
  rcases hop with rfl | rfl
  · simp only [binOp, Sem.run_bind, h5, Result.andThen_ok, Sem.run_pure, if_true]
  · simp only [binOp, Sem.run_bind, h5, Result.andThen_ok, Sem.run_pure, reduceCtorEq, if_false]
theorem wlist {P : Program} {n : Md} {c : Code} {Q : Exit → Slots → Heap → Prop} {s : Slots} {h : Heap} {α : Type} {sz : Nat} {l : List α} {f : α → List AV} (t : Nat) (hg : get s t = .lst sz (l.map f)) (hk : (∀ x ∈ l, ∀ k m, AV.int k m ∈ f x → rangeP k m) → W P n c Q s h) : W P n c Q s h := ⟨by
  intro E σ ι a w hr ht
  have hv := ht.at_ t
  rw [hg] at hv
  obtain ⟨A, cap, _, _, _, h4⟩ := hv.lst_inv
  refine (hk fun x hx k m hm => ?_).out E σ ι a w hr ht
  rcases h4 with h4 | ⟨b, off, g, _, h5, h6, h7⟩
  · have : l = [] := by simpa using h4
    subst this; cases hx
  · have hmem : AV.int k m ∈ (l.map f).flatten := List.mem_flatten.2 ⟨f x, List.mem_map_of_mem hx, hm⟩
    obtain ⟨j, hj⟩ := List.getElem?_of_mem hmem
    have := h7 j _ hj
    exact (VR.base (ι := ι) _ _ this).int_inv.2⟩
theorem wagg {P : Program} {n : Md} {c : Code} {Q : Exit → Slots → Heap → Prop} {s : Slots} {h : Heap} {cs : List AV} (t : Nat) (hg : get s t = .agg cs) (hk : (∀ k m, AV.int k m ∈ cs → rangeP k m) → W P n c Q s h) : W P n c Q s h := ⟨by
  intro E σ ι a w hr ht
  have hv := ht.at_ t
  rw [hg] at hv
  obtain ⟨vs, _, h2⟩ := hv.agg_inv
  refine (hk fun k m hm => ?_).out E σ ι a w hr ht
  obtain ⟨j, hj⟩ := List.getElem?_of_mem hm
  obtain ⟨v, _, hR⟩ := h2.get hj
  exact hR.int_inv.2⟩
end Go.Proofs.YtkkmageogkkchaaGreat
namespace Go.Proofs.YtkkmageogkkchaaGreat
set_option maxRecDepth 100000
open Go.RowKit
theorem parts_eq {α : Type} {xs ys : List α} (hl : xs.length = ys.length) : (∀ k, k < xs.length → xs[k]? = ys[k]?) → xs = ys := by
  intro h
  apply List.ext_getElem?
  intro i
  by_cases hi : i < xs.length
  · exact h i hi
  · rw [List.getElem?_eq_none (by omega), List.getElem?_eq_none (by omega)]
theorem get_next {α : Type} [Inhabited α] {xs ys : List α} {k : Nat} (h : xs.getD k default = ys.getD k default) (h1 : k < xs.length) (h2 : k < ys.length) (he : ∀ j, j < k → xs[j]? = ys[j]?) : ∀ j, j < k + 1 → xs[j]? = ys[j]? := fun j hj => by
  rcases Nat.lt_succ_iff_lt_or_eq.1 hj with h' | rfl
  · exact he j h'
  · rw [List.getElem?_eq_getElem h1, List.getElem?_eq_getElem h2]
    simpa [h1, h2] using h
theorem pl_Ints (xs ys : List Int) : Fn Tryz.prog 36 [.lst 1 (xs.map eI), .lst 1 (ys.map eI)] (.bool (decide (xs = ys))) := by
  refine fnb Tryz.func36 (entered_of (by kernel_rfl)) rfl rfl rfl ?_
  repeat' (first | refine sA ?_ | ((first | apply kM | apply kN); (iterate 3 (· exact rfl)); (· first | exact ya)) | refine sG ?_ | (refine sK ?_ ?_ <;> intro hc <;> (try simp only [KL, sL, reduceCtorEq] at hc) <;> (try (exfalso; omega))))
  · exact retq rfl (congrArg AV.bool (decide_eq_false fun e => hc (by rw [e])).symm)
  · refine wloop (fun k : Nat => ([(0, .lst 1 (xs.map eI)), (1, .lst 1 (ys.map eI)), (12, .int .i64 xs.length), (13, .int .i64 k)], [])) (fun k => k ≤ xs.length ∧ ∀ j, j < k → xs[j]? = ys[j]?) (fun k => xs.length - k) 0 ⟨by omega, fun j hj => by omega⟩ les leh (fun k hk => ?_)
    obtain ⟨hk, he⟩ := hk
    refine wrange 12 rfl (fun hr => ?_)
    simp only [rangeP] at hr
    have hl : xs.length = ys.length := by omega
    repeat' (first | refine sA ?_ | ((first | apply kM | apply kN); (iterate 3 (· exact rfl)); (· first | exact ya)) | refine sG ?_ | (refine sK ?_ ?_ <;> intro hc <;> (try simp only [KL, sL, reduceCtorEq] at hc) <;> (try (exfalso; omega))))
    · exact retq rfl (congrArg AV.bool (decide_eq_false fun e => hc (by rw [e])).symm)
    · exact ⟨k + 1, ⟨by omega, get_next hc (by omega) (by omega) he⟩, by omega, les, leh⟩
    · exact retq rfl (congrArg AV.bool (decide_eq_true (parts_eq hl fun j hj => he j (by omega))).symm)
end Go.Proofs.YtkkmageogkkchaaGreat
namespace Go.Proofs.YtkkmageogkkchaaGreat
set_option maxRecDepth 100000
open Go.RowKit
section
variable {P : Program} {n : Md} {Q : Exit → Slots → Heap → Prop} {s : Slots} {h : Heap} {ops : Array Oper} {rest : List Oper} {o : Oper} {K : Slots → Prop}
theorem flatten_set {β : Type} {sz : Nat} : ∀ {xs : List (List β)} {i j : Nat} {c ws : List β}, (∀ c ∈ xs, c.length = sz) → xs[i]? = some c → j + ws.length ≤ sz →
    (xs.set i (c.take j ++ ws ++ c.drop (j + ws.length))).flatten = xs.flatten.take (i * sz + j) ++ ws ++ xs.flatten.drop (i * sz + j + ws.length)
  | [], i, j, c, ws, _, hi, _ => by simp at hi
  | x :: xs, 0, j, c, ws, hsz, hi, hl => by
    simp at hi; subst hi
    have h1 : x.length = sz := hsz x (by simp)
    simp only [List.set_cons_zero, List.flatten_cons, Nat.zero_mul, Nat.zero_add]
    rw [List.take_append_of_le_length (by omega), List.drop_append_of_le_length (by omega)]
    simp
  | x :: xs, i + 1, j, c, ws, hsz, hi, hl => by
    have h1 : x.length = sz := hsz x (by simp)
    have ih := flatten_set (xs := xs) (i := i) (j := j) (c := c) (ws := ws) (fun c hc => hsz c (by simp [hc])) (by simpa using hi) hl
    simp only [List.set_cons_succ, List.flatten_cons, ih]
    have e1 : (i + 1) * sz + j = x.length + (i * sz + j) := by rw [h1, Nat.add_mul]; omega
    have e2 : (i + 1) * sz + j + ws.length = x.length + (i * sz + j + ws.length) := by rw [h1, Nat.add_mul]; omega
    have t1 : ∀ (k : Nat) (r : List β), (x ++ r).take (x.length + k) = x ++ r.take k := fun k r => by rw [List.take_append, List.take_of_length_le (by omega), Nat.add_sub_cancel_left]
    have t2 : ∀ (k : Nat) (r : List β), (x ++ r).drop (x.length + k) = r.drop k := fun k r => by rw [List.drop_append, List.drop_of_length_le (by omega), Nat.add_sub_cancel_left, List.nil_append]
    rw [e2, e1, t1, t2, List.append_assoc, List.append_assoc, List.append_assoc]
theorem a1_storeE {α : Type} [Inhabited α] {t e' : TypeId} {x y : Operand} {id sz i j : Nat} {l : List α} {f : α → List AV} {v : AV} (x' : α) (ho : o.op = .store t x y) (hx : evA s x = .eptr id sz i j)
    (hg : hget h id = some (.row e' sz (l.map f))) (hv : evA s y = v) (hq : celQ v = true) (hp : pureL (celA v) = true) (hz : sizeQ P t (celA v).length = true) (hl : j + (celA v).length ≤ sz) (hx' : f x' = spl (f (l.getD i default)) j (celA v))
    (hi : i < l.length) (hco : constsOk o = true) (hd : o.dst = none) (hk : AOps P n ops Q rest s ((id, .row e' sz ((l.set i x').map f)) :: h)) : A1 P n ops Q o rest s h := fun E σ ι a w hr ht => by
  subst hv
  have hX : VR σ ι (evA s x) (a.eval x) := evA_sound (List.all_eq_true.1 hco x (by rw [ho]; simp [Op.operands])) fun t _ => ht.at_ t
  have hY : VR σ ι (evA s y) (a.eval y) := evA_sound (List.all_eq_true.1 hco y (by rw [ho]; simp [Op.operands])) fun t _ => ht.at_ t
  rw [hx] at hX
  obtain ⟨g, h1, h2⟩ := hX.eptr_inv
  obtain ⟨hsz0, hsz, vs, hown, hL2⟩ := hr.ch id _ hg
  rcases hown.2 with ⟨h3, _⟩ | ⟨g', cap, cur, h3, _, h4, h5, h6, h7, h8⟩
  · rw [h3] at h1; cases h1
  rw [h3] at h1
  simp only [footOf, Option.some.injEq] at h1
  subst h1
  obtain ⟨hL, hone⟩ := hY.cel hq
  have hlen : (a.eval y).cells.size = (celA (evA s y)).length := by rw [← Array.length_toList]; exact hL.1.symm
  have hil : i < (l.map f).length := by simpa using hi
  have hbound : i * sz + j + (a.eval y).cells.size ≤ (l.map f).length * sz := by
    have : (i + 1) * sz ≤ (l.map f).length * sz := Nat.mul_le_mul_right _ hil
    rw [Nat.add_mul] at this; omega
  have hcap : (l.map f).length * sz ≤ cap * sz := Nat.mul_le_mul_right _ h5
  have hrun := run_store_at (P := P) (t := t) (off := i * sz + j) (v := a.eval y) h4 (by rw [hlen]; exact hz) (by omega) hone
  obtain ⟨cur', hcur'⟩ : ∃ cur', cur' = (cur.toList.take (i * sz + j) ++ (a.eval y).cells.toList ++ cur.toList.drop (i * sz + j + (a.eval y).cells.size)).toArray := ⟨_, rfl⟩
  rw [← hcur'] at hrun
  have hs' : cur'.size = cur.size := by
    rw [hcur']; simp only [List.size_toArray, List.length_append, List.length_take, List.length_drop, Array.length_toList]; omega
  have htk : cur'.toList.take ((l.map f).length * sz) = vs.take (i * sz + j) ++ (a.eval y).cells.toList ++ vs.drop (i * sz + j + (a.eval y).cells.toList.length) := by
    obtain ⟨N, hN⟩ : ∃ N, N = (l.map f).length * sz := ⟨_, rfl⟩
    obtain ⟨us, hus⟩ : ∃ us, us = (a.eval y).cells.toList := ⟨_, rfl⟩
    have hul : us.length = (a.eval y).cells.size := by rw [hus, Array.length_toList (xs := (a.eval y).cells)]
    rw [hcur', ← h8, ← hN, ← hus, ← hul]
    rw [← hN] at hbound hcap
    rw [← hul] at hbound
    have hcl : cur.toList.length = cur.size := Array.length_toList (xs := cur)
    generalize cur.toList = cl at *
    rw [List.toList_toArray, List.take_take, List.take_append, List.take_append, List.drop_take, show min (i * sz + j) N = i * sz + j by omega]
    have e2 : (List.take (i * sz + j) cl).length = i * sz + j := by rw [List.length_take]; omega
    rw [List.length_append, e2, List.take_of_length_le (l := us) (by omega), List.take_take, show min N (i * sz + j) = i * sz + j by omega]
  unfold Oper.wp
  have hrun' : (execOp a.eval o).run P w = .ok .skip (w.setRow g' cur') := by
    simp only [execOp, ho, h2, Instr.storeAt, Instr.sureAddr, Sem.run_bind, Sem.run_pure, Result.andThen_ok, hrun]
  rw [hrun', Oper.upon_skip, hd]
  have hsame : upd ι id (ι id) = ι := by funext i; unfold upd; split <;> simp_all
  have hget' : l.getD i default = l[i] := by simp [hi]
  have hfi : (l.map f)[i]? = some (f (l.getD i default)) := by simp [hi]
  have hci : (f (l.getD i default)).length = sz := hsz _ (List.mem_of_getElem? hfi)
  have hxs : (l.set i x').map f = (l.map f).set i ((f (l.getD i default)).take j ++ celA (evA s y) ++ (f (l.getD i default)).drop (j + (celA (evA s y)).length)) := by
    rw [List.map_set, hx', spl_eq _ _ _ (by omega)]
  have hnew := hr.turn (id := id) (u := ι id) (h' := (id, .row e' sz ((l.set i x').map f)) :: h) (c' := .row e' sz ((l.set i x').map f)) (w' := w.setRow g' cur')
    (fun i c hi hc => by rw [hget_cons, if_neg (fun e => hi e.symm)] at hc; exact ⟨hc, .inl rfl⟩) (by rw [hget_cons, if_pos rfl])
    ⟨hsz0, fun c hc => by
      rw [hxs] at hc
      rcases List.mem_or_eq_of_mem_set hc with hc | rfl
      · exact hsz c hc
      · simp only [List.length_append, List.length_take, List.length_drop]; omega,
      cur'.toList.take ((l.map f).length * sz), by
        rw [hsame, show ((l.set i x').map f).length = (l.map f).length by simp]
        refine ⟨by rw [List.length_take, Array.length_toList (xs := cur')]; omega, .inr ⟨g', cap, cur', h3, Nat.zero_le _, setRow_heap w g' cur cur' e' (0, 0) h4, h5, h6, by omega, rfl⟩⟩, by
      rw [htk, hxs, flatten_set hsz hfi hl]
      rw [show (a.eval y).cells.toList.length = (celA (evA s y)).length by rw [Array.length_toList, hlen]]
      exact ((hL2.take _).append (l2_pure hL hp)).append (hL2.drop _)⟩
    rfl rfl rfl (by simp) (fun k hk hne => setRow_other w g' k _ fun e => hne _ hg (by rw [e, h3]; rfl))
    (fun g2 hg2 => .inl ⟨_, hg, hg2⟩) (.inr rfl)
  rw [hsame] at hnew
  exact hk E σ ι _ _ hnew ht
theorem ao_se {α : Type} [Inhabited α] {t e' : TypeId} {x y : Operand} {id sz i j : Nat} {l : List α} {f : α → List AV} {v : AV} {x' : α} (ho : o.op = .store t x y) (hx : evA s x = .eptr id sz i j)
    (hg : hget h id = some (.row e' sz (l.map f))) (hv : evA s y = v) (hq : celQ v = true) (hp : pureL (celA v) = true) (hz : sizeQ P t (celA v).length = true) (hl : Nat.ble (j + (celA v).length) sz = true) (hx' : f x' = spl (f (l.getD i default)) j (celA v))
    (hi : i < l.length) (hgd : o.guard = none) (hco : constsOk o = true) (hd : o.dst = none) (hk : O P n ops Q rest s ((id, .row e' sz ((l.set i x').map f)) :: h)) : O P n ops Q (o :: rest) s h :=
  ⟨aops_one hgd (a1_storeE x' ho hx hg hv hq hp hz (Nat.ble_eq ▸ hl) hx' hi hco hd hk.out)⟩
/-! ## A row of the call's own is cut short -/
end
end Go.Proofs.YtkkmageogkkchaaGreat
namespace Go.Proofs.YtkkmageogkkchaaGreat
set_option maxRecDepth 100000
open Go.RowKit
section
variable {P : Program} {n : Md} {Q : Exit → Slots → Heap → Prop} {s : Slots} {h : Heap} {ops : Array Oper} {rest : List Oper} {o : Oper} {K : Slots → Prop}
def lendA (h : Heap) : Nat → AV → AV
  | 0, x => x
  | k + 1, x => bif pureA x then x else match x with
    | .own id => match hget h id with
      | some (.row _ sz xs) => .lst sz xs
      | _ => .own id
    | .ptr id off => match hget h id with
      | some (.blk _ cs) => bif pureL (cs.map (lendA h k)) then .ref ((cs.map (lendA h k)).drop off) else .ptr id off
      | _ => .ptr id off
    | .agg cs => .agg (cs.map (lendA h k))
    | .tup cs => .tup (cs.map (lendA h k))
    | .fn f xs ys => .fn f (xs.map (lendA h k)) (ys.map (lendA h k))
    | x => x
theorem el_map {R R' : AV → Value → Prop} {g : AV → AV} {cs : List AV} {vs : List Value} (H : ∀ x v, R x v → R' (g x) v) (h2 : ∀ (j : Nat) (c : AV) (v : Value), cs[j]? = some c → vs[j]? = some v → R c v) :
    ∀ (j : Nat) (c : AV) (v : Value), (cs.map g)[j]? = some c → vs[j]? = some v → R' c v := fun j c v hc hv => by
  rw [List.getElem?_map] at hc
  cases hq : cs[j]? with
  | none => rw [hq] at hc; cases hc
  | some q => rw [hq] at hc; cases hc; exact H _ _ (h2 j q v hq hv)
theorem lendA_sound {E : Env} {σ : Sig} {ι : Nat → Value} {w : World} (hr : Rel E σ ι h w) : ∀ (k : Nat) (x : AV) (v : Value), VR σ ι x v → VR (fun a => w.cell? a) ι (lendA h k x) v
  | 0, x, v, hv => hv.mono hr.sub
  | k + 1, x, v, hv => by
    have ih := lendA_sound hr k
    unfold lendA
    cases hp : pureA x with
    | true => exact hv.mono hr.sub
    | false =>
      rw [cond_false]
      cases x with
      | own id =>
        simp only
        split
        · rename_i e sz xs hg
          have e1 := hv.own_inv
          obtain ⟨hsz0, hsz, vs, hown, hL⟩ := hr.ch id _ hg
          rcases hown.2 with ⟨h1, h2⟩ | ⟨g, cap, cur, h1, _, h2, h3, h4, h5, h6⟩
          · have hnil : xs = [] := List.eq_nil_of_length_eq_zero h2
            subst hnil
            rw [e1, h1]; exact .base _ _ (.empty _ _ _ (by simp))
          · rw [e1, h1]
            have hfl := flatten_length hsz
            refine .base _ _ (.lst _ _ _ 0 _ (fun j => (vs[j]?).getD undef) h3 h4 hsz (fun j c hc => ?_) fun j c hc => ?_)
            · obtain ⟨u, hu, _⟩ := hL.get hc
              have hj : j < xs.length * sz := by rw [← hfl]; exact (List.getElem?_eq_some_iff.1 hc).1
              rw [hu]
              rw [← h6, List.getElem?_take] at hu
              rw [if_pos hj] at hu
              simp only [World.cell?, h2, Option.isSome_none, Bool.false_eq_true, if_false, Nat.zero_add, Option.getD_some]
              rw [← Array.getElem?_toList]; exact hu
            · obtain ⟨u, hu, hR⟩ := hL.get hc
              rw [hu]; exact hR.mono hr.sub
        · exact hv.mono hr.sub
      | ptr id off =>
        simp only
        split
        · rename_i ty cs hg
          cases hq : pureL (cs.map (lendA h k)) with
          | false => exact hv.mono hr.sub
          | true =>
            obtain ⟨g, hf, e1⟩ := hv.ptr_inv
            obtain ⟨g', cur, h1, h2, h3⟩ := hr.ch id _ hg
            rw [h1] at hf
            simp only [footOf, Option.some.injEq] at hf
            subst hf
            rw [e1, cond_true]
            have key : ∀ (j : Nat) (c : AV), ((cs.map (lendA h k)).drop off)[j]? = some c → ∃ u, cur.toList[off + j]? = some u ∧ VR0 (fun a => w.cell? a) c u := fun j c hc => by
              rw [List.getElem?_drop] at hc
              have hc' := hc
              rw [List.getElem?_map] at hc
              cases hq2 : cs[off + j]? with
              | none => rw [hq2] at hc; cases hc
              | some q =>
                rw [hq2] at hc; cases hc
                obtain ⟨u, hu, hR⟩ := h3.get hq2
                exact ⟨u, hu, (ih _ _ hR).pure (pureL_get hq _ _ hc')⟩
            refine .base _ _ (.ref _ _ _ (fun j => (cur.toList[off + j]?).getD undef) (fun j c hc => ?_) fun j c hc => ?_)
            · obtain ⟨u, hu, hR⟩ := key j c hc
              rw [hu]
              simp only [World.cell?, h2, Option.isSome_none, Bool.false_eq_true, if_false, Option.getD_some]
              rw [← Array.getElem?_toList]; exact hu
            · obtain ⟨u, hu, hR⟩ := key j c hc
              rw [hu]; exact hR
        · exact hv.mono hr.sub
      | agg cs =>
        obtain ⟨vs, rfl, h1, h2⟩ := hv.agg_inv
        exact .agg _ vs (by rw [List.length_map]; exact h1) (el_map ih h2)
      | tup cs =>
        obtain ⟨vs, rfl, h1, h2⟩ := hv.tup_inv
        exact .tup _ vs (by rw [List.length_map]; exact h1) (el_map ih h2)
      | fn f xs ys =>
        obtain ⟨us, vs, rfl, h1, h2⟩ := hv.fn_inv
        exact .fn f _ _ us vs (by rw [List.length_map]; exact h1.1) (el_map ih h1.2) (by rw [List.length_map]; exact h2.1) (el_map ih h2.2)
      | _ => exact hv.mono hr.sub
mutual
def flatA : AV → Bool
  | .lst _ _ | .ref _ | .own _ | .ptr _ _ | .eptr _ _ _ _ => false
  | .agg cs | .tup cs => flatL cs
  | .fn _ xs ys => flatL xs && flatL ys
  | _ => true
def flatL : List AV → Bool
  | [] => true
  | x :: xs => flatA x && flatL xs
end
theorem flatL_get : ∀ {cs : List AV}, flatL cs = true → ∀ (j : Nat) (c : AV), cs[j]? = some c → flatA c = true
  | [], _, j, c, h => by simp at h
  | x :: xs, hp, 0, c, h => by simp at h; subst h; simp only [flatL, Bool.and_eq_true] at hp; exact hp.1
  | x :: xs, hp, j + 1, c, h => by simp only [flatL, Bool.and_eq_true] at hp; exact flatL_get hp.2 j c (by simpa using h)
theorem VR0.flat {σ σ' : Sig} {x : AV} {v : Value} (hv : VR0 σ x v) : flatA x = true → VR0 σ' x v := by
  induction hv with
  | undef v => exact fun _ => .undef v
  | int k n h => exact fun _ => .int k n h
  | bool b => exact fun _ => .bool b
  | str s => exact fun _ => .str s
  | nils => exact fun _ => .nils
  | empty sz A cap h => exact fun _ => .empty sz A cap h
  | lst sz xs b off cap g h1 h2 h3 h4 h5 ih => intro h; cases h
  | ref cs b off g h4 h5 ih => intro h; cases h
  | agg cs vs h1 h2 ih => intro h; exact .agg cs vs h1 fun j c v hc hv => ih j c v hc hv (flatL_get (by simpa [flatA] using h) j c hc)
  | tup cs vs h1 h2 ih => intro h; exact .tup cs vs h1 fun j c v hc hv => ih j c v hc hv (flatL_get (by simpa [flatA] using h) j c hc)
  | nilp => exact fun _ => .nilp
  | fn f xs ys us vs h1 h2 h3 h4 ih1 ih2 =>
    intro h
    simp only [flatA, Bool.and_eq_true] at h
    exact .fn f xs ys us vs h1 (fun j c v hc hv => ih1 j c v hc hv (flatL_get h.1 j c hc)) h3 fun j c v hc hv => ih2 j c v hc hv (flatL_get h.2 j c hc)
  | nilf => exact fun _ => .nilf
theorem Rel.backL {E : Env} {σ τ σ' : Sig} {ι : Nat → Value} {w w' : World} (hr : Rel E σ ι h w) (h1 : Rel ⟨w, τ, [], [], []⟩ σ' ι [] w') : Rel E σ ι h w' := by
  have hkeep : ∀ g, g < w.heap.size → w'.heap[g]? = w.heap[g]? := fun g hg => h1.old g hg (by simp)
  exact ⟨h1.os.trans hr.os, h1.tape.trans hr.tape, h1.output.trans hr.output, Nat.le_trans hr.size h1.size, fun b hb hm => (hkeep b (Nat.lt_of_lt_of_le hb hr.size)).trans (hr.old b hb hm),
    hr.sigOld, fun a v ha => by rw [World.cell?_of_block (hkeep _ (hr.sig_lt ha))]; exact hr.sub a v ha, fun i c hc => (hr.ch i c hc).keep (Sig.le.refl σ) fun g hg => hkeep g (hr.foot_lt hc hg), hr.foot, hr.dj, hr.pin, hr.low, fun p hp => ⟨(hr.xo p hp).1, (hkeep p.1 (Array.getElem?_eq_some_iff.1 (hr.xo p hp).2.1).1).trans (hr.xo p hp).2.1, (hr.xo p hp).2.2⟩⟩
theorem ok_lend {f : FuncId} {args args' : List AV} {r : AV} (hf : Fn P f args' r) (hc : callA s o = some (f, args)) (hl : args.map (lendA h 6) = args') (hfl : flatA r = true) : OkO P o s h r := by
  intro E σ ι a w hr hx K Q hK
  obtain ⟨vs, h1, h2⟩ := callA_spec (P := P) (w := w) hc hf.1 hx
  have h2' : L2 (VR (fun a => w.cell? a) ι) args' vs := by
    rw [← hl]
    exact ⟨by rw [List.length_map]; exact h2.1, el_map (lendA_sound hr 6) h2.2⟩
  unfold Oper.wp
  rw [h1, Oper.upon_enter]
  refine (hf.2 _ ι w vs (fun a v h => h) h2').mono ?_
  rintro e w' ⟨u, σ', rfl, h3, h4⟩
  exact hK σ w' u (Sig.le.refl σ) (hr.backL h4) (.base _ _ (h3.flat hfl))
/-! ## The tail of a row of the call's own is cleared -/
theorem turn_dummy {α : Type} (f : α → List AV) (id : Nat) (e : TypeId) (sz : Nat) (hsz : 0 < sz) (hf : freshAll id s h = true) : Turns n s h s ((id, .row e sz (([] : List α).map f)) :: h) := by
  intro E σ ι a w hr ht
  simp only [freshAll, Bool.and_eq_true, Nat.ble_eq] at hf
  refine ⟨σ, upd ι id (.slice none 0 0), ?_, ht.upd hf.1.1 hf.1.2 (.slice none 0 0)⟩
  refine hr.turn (c' := .row e sz []) ?_ (by rw [hget_cons, if_pos rfl]; rfl) ⟨hsz, by simp, [], by rw [upd_eq]; exact World.ownsRow_nil w 0 e sz, L2.nil _⟩ rfl rfl rfl (Nat.le_refl _) (fun _ _ _ => rfl) (fun g hg => by cases hg) (.inl hf.1.1)
  intro i c hi hc
  rw [hget_cons, if_neg (fun e => hi e.symm)] at hc
  exact ⟨hc, .inr (freshH_get hf.2 i c hc).2⟩
theorem turn_nil (sz : Nat) {t : Nat} (hs : get s t = .nils) : Turns n s h ((t, .lst sz []) :: s) h := fun E σ ι a w hr ht => by
  refine ⟨σ, ι, hr, ht.size, ht.defers, fun u => ?_⟩
  rw [get_cons]
  split
  · rename_i e; subst e
    have h2 := ht.at_ t
    rw [hs] at h2
    generalize a.tmps.getD t undef = q at h2 ⊢
    cases h2 with
    | base _ _ h0 => cases h0 with | nils => exact .base _ _ (.empty _ _ _ (by simp))
  · exact ht.at_ u
theorem ok_indexE {α : Type} [Inhabited α] {l : List α} {f : α → List AV} {t e : TypeId} {x y : Operand} {sz : Nat} {ik : IntKind} {i : Nat} {z : α} (hz0 : l.getD i default = z) (ho : o.op = .indexAddr t x y) (hx : evA s x = .lst sz (l.map f))
    (hy : evA s y = .int ik i) (ht : sliceE P t = some e) (hz : sizeQ P e sz = true) (hi : i < l.length) : OkO P o s h (.ref (f z)) := hz0 ▸ ok_index ho ht hz hx hy hi
end
end Go.Proofs.YtkkmageogkkchaaGreat
namespace Go.Proofs.YtkkmageogkkchaaGreat
set_option maxRecDepth 100000
open Go.RowKit Go.ChangeShapes Go.WideShapes

structure Object where
  kind : Int
  width : Int
  slots : Int
  cap : Int
  start : Int
  init : List Int
  writer : Int
  readers : List Int
instance : Inhabited Object := ⟨⟨0, 0, 0, 0, 0, [], 0, []⟩⟩
theorem Object.ext_ {x y : Object} (h : x.kind = y.kind ∧ x.width = y.width ∧ x.slots = y.slots ∧ x.cap = y.cap ∧ x.start = y.start ∧ x.init = y.init ∧ x.writer = y.writer ∧ x.readers = y.readers) : x = y := by cases x; cases y; simp_all
instance : DecidableEq Object := fun x y => decidable_of_iff (x.kind = y.kind ∧ x.width = y.width ∧ x.slots = y.slots ∧ x.cap = y.cap ∧ x.start = y.start ∧ x.init = y.init ∧ x.writer = y.writer ∧ x.readers = y.readers) ⟨Object.ext_, fun h => by subst h; simp⟩
def Object.ok (x : Object) : Prop := (Lit.int .i64 x.kind).wf = true ∧ (Lit.int .i64 x.width).wf = true ∧ (Lit.int .i64 x.slots).wf = true ∧ (Lit.int .i64 x.cap).wf = true ∧ (Lit.int .u32 x.start).wf = true ∧ (Lit.int .i64 x.writer).wf = true
def Object.cod : Cod Object := fun w cs x => ∃ (A_init : Option Addr) (c_init : Nat) (A_readers : Option Addr) (c_readers : Nat), cs = [.int .i64 x.kind, .int .i64 x.width, .int .i64 x.slots, .int .i64 x.cap, .int .u32 x.start, .slice A_init x.init.length c_init, .int .i64 x.writer, .slice A_readers x.readers.length c_readers] ∧ x.ok ∧ x.init.length ≤ c_init ∧ c_init ≤ maxLen ∧ Row (cInt .u32) 1 w A_init x.init ∧ x.readers.length ≤ c_readers ∧ c_readers ≤ maxLen ∧ Row (cInt .i64) 1 w A_readers x.readers
theorem Object.mono : Mono Object.cod := fun _ _ _ _ he ⟨A_init, c_init, A_readers, c_readers, h, hk, l_init, m_init, r_init, l_readers, m_readers, r_readers⟩ => ⟨A_init, c_init, A_readers, c_readers, h, hk, l_init, m_init, r_init.ext (Mono.int _) he, l_readers, m_readers, r_readers.ext (Mono.int _) he⟩
theorem Object.size {w : World} {cs : List Value} {x : Object} (h : Object.cod w cs x) : cs.length = 8 := by obtain ⟨A_init, c_init, A_readers, c_readers, h, _⟩ := h; rw [h]; rfl
theorem Object.at {w : World} {b off : Nat} {xs : List Object} (h : Row' Object.cod 8 w b off xs) (i : Nat) (hi : i < xs.length) :
    ∃ (A_init : Option Addr) (c_init : Nat) (A_readers : Option Addr) (c_readers : Nat), w.cell? ⟨b, off + i * 8, none⟩ = some (.int .i64 xs[i].kind) ∧ w.cell? ⟨b, off + i * 8 + 1, none⟩ = some (.int .i64 xs[i].width) ∧ w.cell? ⟨b, off + i * 8 + 2, none⟩ = some (.int .i64 xs[i].slots) ∧ w.cell? ⟨b, off + i * 8 + 3, none⟩ = some (.int .i64 xs[i].cap) ∧ w.cell? ⟨b, off + i * 8 + 4, none⟩ = some (.int .u32 xs[i].start) ∧ w.cell? ⟨b, off + i * 8 + 5, none⟩ = some (.slice A_init xs[i].init.length c_init) ∧ w.cell? ⟨b, off + i * 8 + 6, none⟩ = some (.int .i64 xs[i].writer) ∧ w.cell? ⟨b, off + i * 8 + 7, none⟩ = some (.slice A_readers xs[i].readers.length c_readers) ∧ xs[i].ok ∧ xs[i].init.length ≤ c_init ∧ c_init ≤ maxLen ∧ Row (cInt .u32) 1 w A_init xs[i].init ∧ xs[i].readers.length ≤ c_readers ∧ c_readers ≤ maxLen ∧ Row (cInt .i64) 1 w A_readers xs[i].readers := by
  obtain ⟨cs, hx, _, hc⟩ := h i xs[i] (List.getElem?_eq_getElem hi)
  obtain ⟨A_init, c_init, A_readers, c_readers, rfl, hk, l_init, m_init, r_init, l_readers, m_readers, r_readers⟩ := hx
  exact ⟨A_init, c_init, A_readers, c_readers, hc 0 _ rfl, hc 1 _ rfl, hc 2 _ rfl, hc 3 _ rfl, hc 4 _ rfl, hc 5 _ rfl, hc 6 _ rfl, hc 7 _ rfl, hk, l_init, m_init, r_init, l_readers, m_readers, r_readers⟩
theorem Object.opens : Opens Tryz.prog 36 Object.cod := by
  intro H enc w base spare held fuel cs x h
  obtain ⟨xs, n, _, _, hlen, hxl, hf⟩ := DataW.trod_struct Tryz.underlying36 h
  have hxl' : xs.length = 8 := hxl
  have hl' : cs.length = 8 := hlen.trans (by kernel_rfl)
  have f0 := (hf 0 _ rfl).trans (List.getElem?_eq_getElem (show 0 < xs.length by omega))
  obtain ⟨v0, e0, _, w0⟩ := DataW.trod_int Tryz.underlying3 f0
  have g0 := takeHead e0
  have f1 := (hf 1 _ rfl).trans (List.getElem?_eq_getElem (show 1 < xs.length by omega))
  obtain ⟨v1, e1, _, w1⟩ := DataW.trod_int Tryz.underlying3 f1
  have g1 := takeHead e1
  have f2 := (hf 2 _ rfl).trans (List.getElem?_eq_getElem (show 2 < xs.length by omega))
  obtain ⟨v2, e2, _, w2⟩ := DataW.trod_int Tryz.underlying3 f2
  have g2 := takeHead e2
  have f3 := (hf 3 _ rfl).trans (List.getElem?_eq_getElem (show 3 < xs.length by omega))
  obtain ⟨v3, e3, _, w3⟩ := DataW.trod_int Tryz.underlying3 f3
  have g3 := takeHead e3
  have f4 := (hf 4 _ rfl).trans (List.getElem?_eq_getElem (show 4 < xs.length by omega))
  obtain ⟨v4, e4, _, w4⟩ := DataW.trod_int Tryz.underlying33 f4
  have g4 := takeHead e4
  have f5 := (hf 5 _ rfl).trans (List.getElem?_eq_getElem (show 5 < xs.length by omega))
  obtain ⟨v5, A5, c5, e5, l5, m5, r5⟩ := Opens.slice (R := (cInt .u32)) (k := 1) Tryz.underlying34 (show Tryz.prog.cellsOf 33 = 1 by kernel_rfl) (by decide) (Opens.int Tryz.underlying33) _ _ _ _ _ _ _ _ _ f5
  have g5 := takeHead e5
  have f6 := (hf 6 _ rfl).trans (List.getElem?_eq_getElem (show 6 < xs.length by omega))
  obtain ⟨v6, e6, _, w6⟩ := DataW.trod_int Tryz.underlying3 f6
  have g6 := takeHead e6
  have f7 := (hf 7 _ rfl).trans (List.getElem?_eq_getElem (show 7 < xs.length by omega))
  obtain ⟨v7, A7, c7, e7, l7, m7, r7⟩ := Opens.slice (R := (cInt .i64)) (k := 1) Tryz.underlying26 (show Tryz.prog.cellsOf 3 = 1 by kernel_rfl) (by decide) (Opens.int Tryz.underlying3) _ _ _ _ _ _ _ _ _ f7
  have g7 := takeHead e7
  refine ⟨⟨v0, v1, v2, v3, v4, v5, v6, v7⟩, A5, c5, A7, c7, ?_, ⟨w0, w1, w2, w3, w4, w6⟩, l5, m5, r5, l7, m7, r7⟩
  refine list_of_cells [.int .i64 v0, .int .i64 v1, .int .i64 v2, .int .i64 v3, .int .u32 v4, .slice A5 v5.length c5, .int .i64 v6, .slice A7 v7.length c7] hl' fun i hi => ?_
  have hi' : i < 8 := hi
  match i, hi' with
  | 0, _ => exact g0
  | 1, _ => exact g1
  | 2, _ => exact g2
  | 3, _ => exact g3
  | 4, _ => exact g4
  | 5, _ => exact g5
  | 6, _ => exact g6
  | 7, _ => exact g7
end Go.Proofs.YtkkmageogkkchaaGreat
namespace Go.Proofs.YtkkmageogkkchaaGreat
set_option maxRecDepth 100000
open Go.RowKit
def eObject (x : Object) : List AV := [.int .i64 x.kind, .int .i64 x.width, .int .i64 x.slots, .int .i64 x.cap, .int .u32 x.start, .lst 1 (x.init.map eU), .int .i64 x.writer, .lst 1 (x.readers.map eI)]
theorem br_Object : Br Object.cod eObject := fun w cs x ⟨A_init, c_init, A_readers, c_readers, h1, hk, l_init, m_init, r_init, l_readers, m_readers, r_readers⟩ => by
  subst h1
  obtain ⟨h_kind, h_width, h_slots, h_cap, h_start, h_writer⟩ := hk
  exact ((((((((L2.nil _).cons (br_row br_int (fun _ => rfl) r_readers l_readers m_readers)).cons (.int _ _ (rangeP_wf.2 h_writer))).cons (br_row br_u32 (fun _ => rfl) r_init l_init m_init)).cons (.int _ _ (rangeP_wf.2 h_start))).cons (.int _ _ (rangeP_wf.2 h_cap))).cons (.int _ _ (rangeP_wf.2 h_slots))).cons (.int _ _ (rangeP_wf.2 h_width))).cons (.int _ _ (rangeP_wf.2 h_kind))
end Go.Proofs.YtkkmageogkkchaaGreat
