/- How slices and structs in memory read as lists and tuples: the words that the contracts use; no condition. -/
import Derived.Test.YtfjoaeghnfkdlaaBase
import Derived.Deep.Slices
import Derived.Deep.Draws
import Derived.OpenShut
import Derived.Laws.OwnMore
namespace Go.Proofs.Ytfjoaeghnfkdlaa
set_option linter.unusedSimpArgs false
set_option linter.unusedVariables false
set_option maxRecDepth 100000
open Go.RowKit Go.ChangeShapes Go.WideShapes

/-- Cells that read as a datum in a world. -/
abbrev Cod (α : Type) := World → List Value → α → Prop

/-- Every cell of w is in w', unturned. -/
def Ext (w w' : World) : Prop := ∀ a v, w.cell? a = some v → w'.cell? a = some v
theorem Ext.refl (w : World) : Ext w w := fun _ _ h => h
theorem Ext.trans {a b c : World} (h : Ext a b) (k : Ext b c) : Ext a c := fun p v hp => k p v (h p v hp)
theorem Ext.below {w w' : World} (h : Below w.heap.size w w') : Ext w w' := fun a v hv => (h.cell (World.block_lt_of_cell? w a hv)).trans hv
theorem Ext.drewN (w : World) (n : Nat) : Ext w (w.drewN n) := fun _ _ h => h
theorem Ext.drew (w : World) : Ext w w.drew := fun _ _ h => h

/-- Elements of k cells, one behind the other. -/
def Row' {α : Type} (R : Cod α) (k : Nat) (w : World) (b off : Nat) (xs : List α) : Prop :=
  ∀ i x, xs[i]? = some x → ∃ cs, R w cs x ∧ cs.length = k ∧ ∀ j v, cs[j]? = some v → w.cell? ⟨b, off + i * k + j, none⟩ = some v
/-- A slice's address and its elements. -/
def Row {α : Type} (R : Cod α) (k : Nat) (w : World) (A : Option Addr) (xs : List α) : Prop :=
  0 < xs.length → ∃ b off, A = some ⟨b, off, none⟩ ∧ Row' R k w b off xs
/-- A slice's cell. -/
def cSlice {α : Type} (R : Cod α) (k : Nat) : Cod (List α) := fun w cs xs => ∃ A c, cs = [.slice A xs.length c] ∧ xs.length ≤ c ∧ c ≤ maxLen ∧ Row R k w A xs
def cInt (k : IntKind) : Cod Int := fun _ cs x => cs = [.int k x] ∧ (Lit.int k x).wf = true
def cBool : Cod Bool := fun _ cs x => cs = [.bool x]

/-- A reading stays where cells stay. -/
def Mono {α : Type} (R : Cod α) : Prop := ∀ w w' cs x, Ext w w' → R w cs x → R w' cs x
theorem Mono.int (k : IntKind) : Mono (cInt k) := fun _ _ _ _ _ h => h
theorem Mono.bool : Mono cBool := fun _ _ _ _ _ h => h
theorem Row'.ext {α : Type} {R : Cod α} {k b off : Nat} {w w' : World} {xs : List α} (hR : Mono R) (h : Row' R k w b off xs) (he : Ext w w') : Row' R k w' b off xs := by
  intro i x hx
  obtain ⟨cs, h1, h2, h3⟩ := h i x hx
  exact ⟨cs, hR _ _ _ _ he h1, h2, fun j v hv => he _ _ (h3 j v hv)⟩
theorem Row.ext {α : Type} {R : Cod α} {k : Nat} {w w' : World} {A : Option Addr} {xs : List α} (hR : Mono R) (h : Row R k w A xs) (he : Ext w w') : Row R k w' A xs := by
  intro hp
  obtain ⟨b, off, h1, h2⟩ := h hp
  exact ⟨b, off, h1, h2.ext hR he⟩
theorem Mono.slice {α : Type} {R : Cod α} (hR : Mono R) (k : Nat) : Mono (cSlice R k) := fun _ _ _ _ he ⟨A, c, h1, h2, h3, h4⟩ => ⟨A, c, h1, h2, h3, h4.ext hR he⟩
theorem Row.nil {α : Type} (R : Cod α) (k : Nat) (w : World) (A : Option Addr) : Row R k w A [] := fun h => absurd h (by simp)
theorem Row'.take {α : Type} {R : Cod α} {k b off : Nat} {w : World} {xs : List α} (h : Row' R k w b off xs) (n : Nat) : Row' R k w b off (xs.take n) := by
  intro i x hx
  rw [List.getElem?_take] at hx
  split at hx
  · exact h i x hx
  · cases hx
theorem Row.take {α : Type} {R : Cod α} {k : Nat} {w : World} {A : Option Addr} {xs : List α} (h : Row R k w A xs) (n : Nat) : Row R k w A (xs.take n) := by
  intro hp
  obtain ⟨b, off, h1, h2⟩ := h (by rw [List.length_take] at hp; omega)
  exact ⟨b, off, h1, h2.take n⟩
theorem Row'.drop {α : Type} {R : Cod α} {k b off : Nat} {w : World} {xs : List α} (h : Row' R k w b off xs) (n : Nat) : Row' R k w b (off + n * k) (xs.drop n) := by
  intro i x hx
  rw [List.getElem?_drop] at hx
  obtain ⟨cs, h1, h2, h3⟩ := h _ x hx
  refine ⟨cs, h1, h2, fun j v hv => ?_⟩
  have := h3 j v hv
  rwa [show off + (n + i) * k + j = off + n * k + i * k + j by rw [Nat.add_mul]; omega] at this

/-- An element's cell: of one-cell integers. -/
theorem Row'.int {ik : IntKind} {w : World} {b off : Nat} {xs : List Int} (h : Row' (cInt ik) 1 w b off xs) (i : Nat) (hi : i < xs.length) :
    w.cell? ⟨b, off + i, none⟩ = some (.int ik xs[i]) ∧ (Lit.int ik xs[i]).wf = true := by
  obtain ⟨cs, ⟨rfl, hw⟩, _, h3⟩ := h i xs[i] (List.getElem?_eq_getElem hi)
  have := h3 0 _ rfl
  simp only [Nat.mul_one, Nat.add_zero] at this
  exact ⟨this, hw⟩
theorem Row'.bool {w : World} {b off : Nat} {xs : List Bool} (h : Row' cBool 1 w b off xs) (i : Nat) (hi : i < xs.length) :
    w.cell? ⟨b, off + i, none⟩ = some (.bool xs[i]) := by
  obtain ⟨cs, rfl, _, h3⟩ := h i xs[i] (List.getElem?_eq_getElem hi)
  have := h3 0 _ rfl
  simp only [Nat.mul_one, Nat.add_zero] at this
  exact this

/-! ## From the row's readings to these words -/
/-- Whatever reads at type e reads as a datum by R. -/
def Opens {α : Type} (P : Program) (e : TypeId) (R : Cod α) : Prop :=
  ∀ (H : Type) (enc : TypeId × Value → H) (w : World) (base : Nat) (spare : Nat → Bool) (held : Bool) (fuel : Nat) (cs : List Value) (x : DataW H × List MemPlace), DataW.trod enc P w base spare held fuel e cs = some x → ∃ y : α, R w cs y
theorem Opens.int {P : Program} {e : TypeId} {k : IntKind} (hu : P.underlying e = some (.int k)) : Opens P e (cInt k) := by
  intro H enc w base spare held fuel cs x h
  obtain ⟨n, h1, _, h3⟩ := DataW.trod_int hu h
  exact ⟨n, h1, h3⟩
theorem Opens.bool {P : Program} {e : TypeId} (hu : P.underlying e = some .bool) : Opens P e cBool := by
  intro H enc w base spare held fuel cs x h
  obtain ⟨n, h1, _⟩ := DataW.trod_bool hu h
  exact ⟨n, h1⟩
theorem Opens.slice {α : Type} [Inhabited α] {P : Program} {t e : TypeId} {R : Cod α} {k : Nat} (ht : P.underlying t = some (.slice e)) (hC : P.cellsOf e = k) (hk : 0 < k) (hR : Opens P e R) : Opens P t (cSlice R k) := by
  intro H enc w base spare held fuel cs x h
  rcases Go.Deep.open_slice ht h with ⟨rfl, _⟩ | ⟨a, len, cap, m, n, D, Pl, rfl, _, hl, hm, hmm, _, hel⟩
  · exact ⟨[], none, 0, rfl, by simp, by simp, Row.nil _ _ _ _⟩
  · have hle : len ≤ m := by rw [hmm]; split <;> omega
    have hex : ∀ i, i < len → ∃ y : α, ∃ cs', R w cs' y ∧ cs'.length = k ∧ ∀ j v, cs'[j]? = some v → w.cell? ((a.add (i * k)).add j) = some v := by
      intro i hi
      obtain ⟨cs', h1, h2⟩ := hel i (by omega)
      obtain ⟨y, hy⟩ := hR _ _ _ _ _ _ _ _ _ h2
      rw [hC] at h1
      obtain ⟨_, hcl, hat⟩ := World.cells?_some h1
      refine ⟨y, cs', hy, hcl, fun j v hv => ?_⟩
      have hj : j < k := by
        have := (List.getElem?_eq_some_iff.1 hv).1
        omega
      rw [hat j hj, hv]
    obtain ⟨f, hf⟩ := Go.Deep.choose_lt hex
    refine ⟨(List.range len).map f, some a, cap, by simp, by simpa using hl, hm, fun hp => ?_⟩
    obtain ⟨b, off, spot⟩ := a
    have h0 : 0 < len := by simpa using hp
    obtain ⟨cs0, _, hl0, hc0⟩ := hf 0 h0
    have hs : spot = none := by
      have h1 : cs0[0]? = some (cs0[0]'(by omega)) := List.getElem?_eq_getElem (by omega)
      have := hc0 0 _ h1
      simpa [Addr.add] using World.cell?_spot this
    subst hs
    refine ⟨b, off, rfl, fun i y hy => ?_⟩
    have hi : i < len := by
      have := (List.getElem?_eq_some_iff.1 hy).1
      simpa using this
    obtain ⟨cs', h1, h2, h3⟩ := hf i hi
    have hy' : f i = y := by simpa [hi] using hy
    subst hy'
    refine ⟨cs', h1, h2, fun j v hv => ?_⟩
    have := h3 j v hv
    rwa [Go.Deep.add_add, Go.WideShapes.add_plain, ← Nat.add_assoc] at this

/-- One field's one cell. -/
theorem takeHead {cs : List Value} {o k : Nat} {v : Value} (h : (cs.drop o).take k = [v]) : cs[o]? = some v := by
  cases k with
  | zero => simp at h
  | succ k =>
    cases hd : cs.drop o with
    | nil => rw [hd] at h; simp at h
    | cons a r =>
      rw [hd] at h
      simp at h
      have : (cs.drop o)[0]? = some v := by rw [hd, h.1]; rfl
      rwa [List.getElem?_drop, Nat.add_zero] at this
theorem list_of_cells {cs : List Value} (l : List Value) (hlen : cs.length = l.length) (h : ∀ i, i < l.length → cs[i]? = l[i]?) : cs = l := by
  apply List.ext_getElem?
  intro i
  by_cases hi : i < l.length
  · exact h i hi
  · rw [List.getElem?_eq_none (by omega), List.getElem?_eq_none (by omega)]

/-- An argument that is a slice. -/
theorem open_slice_arg {α : Type} {H : Type} {enc : TypeId × Value → H} {P : Program} {W : World} {t e : TypeId} {r : Reach} {b0 : Nat} {R : Cod α} {k : Nat} {v : Value} {d : DataW H} {p : List MemPlace} {sp : Nat → Bool}
    (ht : P.underlying t = some (.slice e)) (hO : Opens P t (cSlice R k)) (hv : Value.okWide P W r b0 t v) (h : DataW.Trod enc P W 0 sp true t v d p) :
    ∃ A c xs, v = .slice A xs.length c ∧ xs.length ≤ c ∧ c ≤ maxLen ∧ Row R k W A xs := by
  obtain ⟨a, len, cap, rfl⟩ := okWide_slice ht hv
  obtain ⟨fuel, hf⟩ := h
  obtain ⟨xs, A, c, h1, h2, h3, h4⟩ := hO _ _ _ _ _ _ _ _ _ hf
  have h1' : (Value.slice a len cap) = .slice A xs.length c := by simpa [Value.cells] using h1
  exact ⟨A, c, xs, h1', h2, h3, h4⟩
/-- An argument that is an integer, a bool. -/
theorem open_int_arg {H : Type} {enc : TypeId × Value → H} {P : Program} {W : World} {t : TypeId} {r : Reach} {b0 : Nat} {k : IntKind} {v : Value} {d : DataW H} {p : List MemPlace} {sp : Nat → Bool}
    (ht : P.underlying t = some (.int k)) (hv : Value.okWide P W r b0 t v) (h : DataW.Trod enc P W 0 sp true t v d p) : ∃ x, v = .int k x ∧ (Lit.int k x).wf = true := by
  obtain ⟨a, rfl, _, _, w0⟩ := open_int ht hv h
  exact ⟨a, rfl, w0⟩
theorem open_bool_arg {H : Type} {enc : TypeId × Value → H} {P : Program} {W : World} {t : TypeId} {r : Reach} {b0 : Nat} {v : Value} {d : DataW H} {p : List MemPlace} {sp : Nat → Bool}
    (ht : P.underlying t = some .bool) (hv : Value.okWide P W r b0 t v) (h : DataW.Trod enc P W 0 sp true t v d p) : ∃ x, v = .bool x := by
  obtain ⟨a, rfl, _, _⟩ := open_bool ht hv h
  exact ⟨a, rfl⟩
/-- An argument that is a struct. -/
theorem open_struct_arg {α : Type} {H : Type} {enc : TypeId × Value → H} {P : Program} {W : World} {t : TypeId} {fs : Array Field} {r : Reach} {b0 : Nat} {R : Cod α} {v : Value} {d : DataW H} {p : List MemPlace} {sp : Nat → Bool}
    (ht : P.underlying t = some (.struct fs)) (hO : Opens P t R) (hv : Value.okWide P W r b0 t v) (h : DataW.Trod enc P W 0 sp true t v d p) :
    ∃ cs x, v = .agg (List.toArray cs) ∧ R W cs x := by
  obtain ⟨cs, rfl, _⟩ := okWide_struct ht hv
  obtain ⟨fuel, hf⟩ := h
  obtain ⟨x, hx⟩ := hO _ _ _ _ _ _ _ _ _ hf
  exact ⟨cs.toList, x, by simp, by simpa [Value.cells] using hx⟩
end Go.Proofs.Ytfjoaeghnfkdlaa
