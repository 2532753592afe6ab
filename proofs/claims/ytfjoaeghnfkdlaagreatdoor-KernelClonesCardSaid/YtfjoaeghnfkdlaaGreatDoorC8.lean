/- How slices and structs in memory read as lists and tuples: the words that the contracts use; no condition. -/
import Derived.Test.YtfjoaeghnfkdlaaGreatDoorC7
import Derived.Deep.Slices
import Derived.Deep.Draws
import Derived.OpenShut
import Derived.Laws.OwnMore
import Derived.Test.YtfjoaeghnfkdlaaGreatDoorC6
set_option linter.unusedSimpArgs false
set_option linter.unusedVariables false
set_option maxHeartbeats 1000000
namespace Go.Proofs.YtfjoaeghnfkdlaaGreatDoor
set_option maxRecDepth 100000
open Go.RowKit Go.ChangeShapes Go.WideShapes

abbrev Cod (α : Type) := World → List Value → α → Prop

def Ext (w w' : World) : Prop := ∀ a v, w.cell? a = some v → w'.cell? a = some v
theorem Ext.refl (w : World) : Ext w w := fun _ _ h => h
theorem Ext.trans {a b c : World} (h : Ext a b) (k : Ext b c) : Ext a c := fun p v hp => k p v (h p v hp)
theorem Ext.below {w w' : World} (h : Below w.heap.size w w') : Ext w w' := fun a v hv => (h.cell (World.block_lt_of_cell? w a hv)).trans hv
def Row' {α : Type} (R : Cod α) (k : Nat) (w : World) (b off : Nat) (xs : List α) : Prop :=
  ∀ i x, xs[i]? = some x → ∃ cs, R w cs x ∧ cs.length = k ∧ ∀ j v, cs[j]? = some v → w.cell? ⟨b, off + i * k + j, none⟩ = some v
def Row {α : Type} (R : Cod α) (k : Nat) (w : World) (A : Option Addr) (xs : List α) : Prop :=
  0 < xs.length → ∃ b off, A = some ⟨b, off, none⟩ ∧ Row' R k w b off xs
def cSlice {α : Type} (R : Cod α) (k : Nat) : Cod (List α) := fun w cs xs => ∃ A c, cs = [.slice A xs.length c] ∧ xs.length ≤ c ∧ c ≤ maxLen ∧ Row R k w A xs
def cInt (k : IntKind) : Cod Int := fun _ cs x => cs = [.int k x] ∧ (Lit.int k x).wf = true
def cBool : Cod Bool := fun _ cs x => cs = [.bool x]

def Mono {α : Type} (R : Cod α) : Prop := ∀ w w' cs x, Ext w w' → R w cs x → R w' cs x
theorem Mono.int (k : IntKind) : Mono (cInt k) := fun _ _ _ _ _ h => h
theorem Mono.bool : Mono cBool := fun _ _ _ _ _ h => h
theorem Row'.ext {α : Type} {R : Cod α} {k b off : Nat} {w w' : World} {xs : List α} (hR : Mono R) (h : Row' R k w b off xs) (he : Ext w w') : Row' R k w' b off xs := by
  intro i x hx
  obtain ⟨cs, h1, h2, h3⟩ := h i x hx
  exact ⟨cs, hR _ _ _ _ he h1, h2, fun j v hv => he _ _ (h3 j v hv)⟩
theorem Row.ext {α : Type} {R : Cod α} {k : Nat} {w w' : World} {A : Option Addr} {xs : List α} (hR : Mono R) (h : Row R k w A xs) (he : Ext w w') : Row R k w' A xs := by
  intro hp
  obtain ⟨b, off, h1, h2⟩ := h hp
  exact ⟨b, off, h1, h2.ext hR he⟩
theorem Mono.slice {α : Type} {R : Cod α} (hR : Mono R) (k : Nat) : Mono (cSlice R k) := fun _ _ _ _ he ⟨A, c, h1, h2, h3, h4⟩ => ⟨A, c, h1, h2, h3, h4.ext hR he⟩
theorem Row.nil {α : Type} (R : Cod α) (k : Nat) (w : World) (A : Option Addr) : Row R k w A [] := fun h => absurd h (by simp)
theorem Row'.take {α : Type} {R : Cod α} {k b off : Nat} {w : World} {xs : List α} (h : Row' R k w b off xs) (n : Nat) : Row' R k w b off (xs.take n) := by
  intro i x hx
  rw [List.getElem?_take] at hx
  split at hx
  · exact h i x hx
  · cases hx
theorem Row.take {α : Type} {R : Cod α} {k : Nat} {w : World} {A : Option Addr} {xs : List α} (h : Row R k w A xs) (n : Nat) : Row R k w A (xs.take n) := by
  intro hp
  obtain ⟨b, off, h1, h2⟩ := h (by rw [List.length_take] at hp; omega)
  exact ⟨b, off, h1, h2.take n⟩
theorem Row'.drop {α : Type} {R : Cod α} {k b off : Nat} {w : World} {xs : List α} (h : Row' R k w b off xs) (n : Nat) : Row' R k w b (off + n * k) (xs.drop n) := by
  intro i x hx
  rw [List.getElem?_drop] at hx
  obtain ⟨cs, h1, h2, h3⟩ := h _ x hx
  refine ⟨cs, h1, h2, fun j v hv => ?_⟩
  have := h3 j v hv
  rwa [show off + (n + i) * k + j = off + n * k + i * k + j by rw [Nat.add_mul]; omega] at this

theorem Row'.int {ik : IntKind} {w : World} {b off : Nat} {xs : List Int} (h : Row' (cInt ik) 1 w b off xs) (i : Nat) (hi : i < xs.length) :
    w.cell? ⟨b, off + i, none⟩ = some (.int ik xs[i]) ∧ (Lit.int ik xs[i]).wf = true := by
  obtain ⟨cs, ⟨rfl, hw⟩, _, h3⟩ := h i xs[i] (List.getElem?_eq_getElem hi)
  have := h3 0 _ rfl
  simp only [Nat.mul_one, Nat.add_zero] at this
  exact ⟨this, hw⟩
theorem Row'.bool {w : World} {b off : Nat} {xs : List Bool} (h : Row' cBool 1 w b off xs) (i : Nat) (hi : i < xs.length) :
    w.cell? ⟨b, off + i, none⟩ = some (.bool xs[i]) := by
  obtain ⟨cs, rfl, _, h3⟩ := h i xs[i] (List.getElem?_eq_getElem hi)
  have := h3 0 _ rfl
  simp only [Nat.mul_one, Nat.add_zero] at this
  exact this

/-! ## From the row's readings to these words -/
def Opens {α : Type} (P : Program) (e : TypeId) (R : Cod α) : Prop :=
  ∀ (H : Type) (enc : TypeId × Value → H) (w : World) (base : Nat) (spare : Nat → Bool) (held : Bool) (fuel : Nat) (cs : List Value) (x : DataW H × List MemPlace), DataW.trod enc P w base spare held fuel e cs = some x → ∃ y : α, R w cs y
theorem Opens.int {P : Program} {e : TypeId} {k : IntKind} (hu : P.underlying e = some (.int k)) : Opens P e (cInt k) := by
  intro H enc w base spare held fuel cs x h
  obtain ⟨n, h1, _, h3⟩ := DataW.trod_int hu h
  exact ⟨n, h1, h3⟩
theorem Opens.bool {P : Program} {e : TypeId} (hu : P.underlying e = some .bool) : Opens P e cBool := by
  intro H enc w base spare held fuel cs x h
  obtain ⟨n, h1, _⟩ := DataW.trod_bool hu h
  exact ⟨n, h1⟩
theorem Opens.slice {α : Type} [Inhabited α] {P : Program} {t e : TypeId} {R : Cod α} {k : Nat} (ht : P.underlying t = some (.slice e)) (hC : P.cellsOf e = k) (hk : 0 < k) (hR : Opens P e R) : Opens P t (cSlice R k) := by
  intro H enc w base spare held fuel cs x h
  rcases Go.Deep.open_slice ht h with ⟨rfl, _⟩ | ⟨a, len, cap, m, n, D, Pl, rfl, _, hl, hm, hmm, _, hel⟩
  · exact ⟨[], none, 0, rfl, by simp, by simp, Row.nil _ _ _ _⟩
  · have hle : len ≤ m := by rw [hmm]; split <;> omega
    have hex : ∀ i, i < len → ∃ y : α, ∃ cs', R w cs' y ∧ cs'.length = k ∧ ∀ j v, cs'[j]? = some v → w.cell? ((a.add (i * k)).add j) = some v := by
      intro i hi
      obtain ⟨cs', h1, h2⟩ := hel i (by omega)
      obtain ⟨y, hy⟩ := hR _ _ _ _ _ _ _ _ _ h2
      rw [hC] at h1
      obtain ⟨_, hcl, hat⟩ := World.cells?_some h1
      refine ⟨y, cs', hy, hcl, fun j v hv => ?_⟩
      have hj : j < k := by
        have := (List.getElem?_eq_some_iff.1 hv).1
        omega
      rw [hat j hj, hv]
    obtain ⟨f, hf⟩ := Go.Deep.choose_lt hex
    refine ⟨(List.range len).map f, some a, cap, by simp, by simpa using hl, hm, fun hp => ?_⟩
    obtain ⟨b, off, spot⟩ := a
    have h0 : 0 < len := by simpa using hp
    obtain ⟨cs0, _, hl0, hc0⟩ := hf 0 h0
    have hs : spot = none := by
      have h1 : cs0[0]? = some (cs0[0]'(by omega)) := List.getElem?_eq_getElem (by omega)
      have := hc0 0 _ h1
      simpa [Addr.add] using World.cell?_spot this
    subst hs
    refine ⟨b, off, rfl, fun i y hy => ?_⟩
    have hi : i < len := by
      have := (List.getElem?_eq_some_iff.1 hy).1
      simpa using this
    obtain ⟨cs', h1, h2, h3⟩ := hf i hi
    have hy' : f i = y := by simpa [hi] using hy
    subst hy'
    refine ⟨cs', h1, h2, fun j v hv => ?_⟩
    have := h3 j v hv
    rwa [Go.Deep.add_add, Go.WideShapes.add_plain, ← Nat.add_assoc] at this

end Go.Proofs.YtfjoaeghnfkdlaaGreatDoor
namespace Go.Proofs.YtfjoaeghnfkdlaaGreatDoor
set_option maxRecDepth 100000
open Go.RowKit
def eI (x : Int) : List AV := [.int .i64 x]
def eU (x : Int) : List AV := [.int .u32 x]
def eB (x : Bool) : List AV := [.bool x]
def sg (w : World) : Sig := fun a => w.cell? a
def Br {α : Type} (R : Cod α) (f : α → List AV) : Prop := ∀ w cs x, R w cs x → L2 (VR0 (sg w)) (f x) cs
theorem br_int : Br (cInt .i64) eI := fun w cs x ⟨h1, h2⟩ => by subst h1; exact (L2.nil _).cons (.int _ _ (rangeP_wf.2 h2))
theorem br_row {α : Type} {R : Cod α} {f : α → List AV} {k : Nat} (hR : Br R f) (hk : ∀ x, (f x).length = k) {w : World} {A : Option Addr} {xs : List α} {c : Nat} (h : Row R k w A xs) (hl : xs.length ≤ c) (hm : c ≤ maxLen) :
    VR0 (sg w) (.lst k (xs.map f)) (.slice A xs.length c) := by
  cases xs with
  | nil => exact .empty _ _ _ hm
  | cons x0 xr =>
    obtain ⟨b, off, rfl, hrow⟩ := h (by simp)
    generalize hxs : x0 :: xr = xs at *
    have hex : ∀ i, i < xs.length → ∃ cs : List Value, L2 (VR0 (sg w)) (f (xs.getD i x0)) cs ∧ cs.length = k ∧ ∀ j v, cs[j]? = some v → w.cell? ⟨b, off + i * k + j, none⟩ = some v := fun i hi => by
      obtain ⟨cs, h1, h2, h3⟩ := hrow i xs[i] (List.getElem?_eq_getElem hi)
      exact ⟨cs, by simpa [hi] using hR w cs _ h1, h2, h3⟩
    obtain ⟨g, hg⟩ := Go.Deep.choose_lt hex
    have hs : ∀ c ∈ xs.map f, c.length = k := fun c hc => by obtain ⟨x, _, rfl⟩ := List.mem_map.1 hc; exact hk x
    have hfl : (xs.map f).flatten.length = xs.length * k := by rw [flatten_length hs, List.length_map]
    have hat : ∀ (j : Nat) (a : AV), (xs.map f).flatten[j]? = some a → ∃ v, w.cell? ⟨b, off + j, none⟩ = some v ∧ VR0 (sg w) a v := fun j a hj => by
      have hjl : j < xs.length * k := by rw [← hfl]; exact (List.getElem?_eq_some_iff.1 hj).1
      have hk0 : 0 < k := Nat.pos_of_ne_zero fun e => by subst e; simp at hjl
      have hi : j / k < xs.length := Nat.div_lt_of_lt_mul (by rw [Nat.mul_comm]; exact hjl)
      have hm : j % k < k := Nat.mod_lt _ hk0
      obtain ⟨h1, h2, h3⟩ := hg (j / k) hi
      have hc : (xs.map f)[j / k]? = some (f (xs.getD (j / k) x0)) := by simp [hi]
      have hlen : j % k < (f (xs.getD (j / k) x0)).length := by rw [hk]; exact hm
      have h4 := flatten_get hs hc (List.getElem?_eq_getElem hlen)
      rw [Nat.mul_comm, Nat.div_add_mod] at h4
      rw [h4] at hj; cases hj
      obtain ⟨v, hv, hv2⟩ := h1.get (List.getElem?_eq_getElem hlen)
      refine ⟨v, ?_, hv2⟩
      have := h3 _ v hv
      rwa [Nat.add_assoc, Nat.mul_comm, Nat.div_add_mod] at this
    have : (.slice (some ⟨b, off, none⟩) xs.length c : Value) = .slice (some ⟨b, off, none⟩) (xs.map f).length c := by simp
    rw [this]
    refine .lst _ _ _ _ _ (fun j => (w.cell? ⟨b, off + j, none⟩).getD undef) (by simpa using hl) hm hs (fun j a hj => ?_) fun j a hj => ?_
    · obtain ⟨v, h1, _⟩ := hat j a hj
      simp [sg, h1]
    · obtain ⟨v, h1, h2⟩ := hat j a hj
      rw [h1]; exact h2
theorem ok_eqS {P : Program} {s : Slots} {h : Heap} {o : Oper} {α : Type} [DecidableEq α] (cells : α → List Value) (e : α → List AV) {t yt : TypeId} {X Y : Operand} {op : BinOp} {x y : α} (hop : op = .eql ∨ op = .neq)
    (hex : ∀ σ ι x vs, L2 (VR σ ι) (e x) vs → vs = cells x) (hrun : ∀ w, (Op.equalIn 10000 t (.agg (cells x).toArray) (.agg (cells y).toArray)).run P w = .ok (decide (x = y)) w)
    (hgd : ∀ (xs ys : Array Value) w, (eqGuard op t X Y (.agg xs) (.agg ys)).run P w = .ok () w)
    (ho : o.op = .binOp op t X Y yt) (hx : evA s X = .agg (e x)) (hy : evA s Y = .agg (e y)) : OkO P o s h (.bool (if op = .eql then decide (x = y) else !decide (x = y))) := by
  refine ok_of_run fun E σ ι a w hr hv => ?_
  have hX := hv X (by rw [ho]; simp [Op.operands])
  have hY := hv Y (by rw [ho]; simp [Op.operands])
  rw [hx] at hX
  rw [hy] at hY
  obtain ⟨us, h1, h2⟩ := hX.agg_inv
  obtain ⟨vs, h3, h4⟩ := hY.agg_inv
  rw [hex _ _ _ _ h2] at h1
  rw [hex _ _ _ _ h4] at h3
  refine ⟨_, ?_, .base _ _ (.bool _)⟩
  have h5 : (Op.equal t (.agg (cells x).toArray) (.agg (cells y).toArray)).run P w = .ok (decide (x = y)) w := hrun w
  unfold execOp
  simp only [ho, h1, h3, Sem.run_bind, hgd, Result.andThen_ok]
  rcases hop with rfl | rfl
  · simp only [binOp, Sem.run_bind, h5, Result.andThen_ok, Sem.run_pure, if_true]
  · simp only [binOp, Sem.run_bind, h5, Result.andThen_ok, Sem.run_pure, reduceCtorEq, if_false]
end Go.Proofs.YtfjoaeghnfkdlaaGreatDoor
