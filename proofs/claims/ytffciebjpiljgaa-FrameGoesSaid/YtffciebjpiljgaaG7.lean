/- How slices and structs in memory read as lists and tuples: the words that the contracts use; no condition. -/
import Derived.Test.YtffciebjpiljgaaG6
import Derived.Deep.Slices
import Derived.Deep.Draws
import Derived.OpenShut
import Derived.Laws.OwnMore
import Derived.WalkKit
import Derived.OwnWalk
import Derived.RegionTactic
import Derived.Deep.QuietTactic
import Derived.BigQuiet
import Derived.Deep.RegionHeld3
namespace Go.Proofs.Ytffciebjpiljgaa
set_option linter.unusedSimpArgs false
set_option linter.unusedVariables false
set_option maxRecDepth 100000
open Go.RowKit Go.ChangeShapes Go.WideShapes

/-- Cells that read as a datum in a world. -/
abbrev Cod (α : Type) := World → List Value → α → Prop

/-- Every cell of w is in w', unturned. -/
def Ext (w w' : World) : Prop := ∀ a v, w.cell? a = some v → w'.cell? a = some v
theorem Ext.refl (w : World) : Ext w w := fun _ _ h => h
theorem Ext.trans {a b c : World} (h : Ext a b) (k : Ext b c) : Ext a c := fun p v hp => k p v (h p v hp)
theorem Ext.below {w w' : World} (h : Below w.heap.size w w') : Ext w w' := fun a v hv => (h.cell (World.block_lt_of_cell? w a hv)).trans hv
theorem Ext.drew (w : World) : Ext w w.drew := fun _ _ h => h

/-- Elements of k cells, one behind the other. -/
def Row' {α : Type} (R : Cod α) (k : Nat) (w : World) (b off : Nat) (xs : List α) : Prop :=
  ∀ i x, xs[i]? = some x → ∃ cs, R w cs x ∧ cs.length = k ∧ ∀ j v, cs[j]? = some v → w.cell? ⟨b, off + i * k + j, none⟩ = some v
/-- A slice's address and its elements. -/
def Row {α : Type} (R : Cod α) (k : Nat) (w : World) (A : Option Addr) (xs : List α) : Prop :=
  0 < xs.length → ∃ b off, A = some ⟨b, off, none⟩ ∧ Row' R k w b off xs
/-- A slice's cell. -/
def cSlice {α : Type} (R : Cod α) (k : Nat) : Cod (List α) := fun w cs xs => ∃ A c, cs = [.slice A xs.length c] ∧ xs.length ≤ c ∧ c ≤ maxLen ∧ Row R k w A xs
def cInt (k : IntKind) : Cod Int := fun _ cs x => cs = [.int k x] ∧ (Lit.int k x).wf = true
def cBool : Cod Bool := fun _ cs x => cs = [.bool x]

/-- A reading stays where cells stay. -/
def Mono {α : Type} (R : Cod α) : Prop := ∀ w w' cs x, Ext w w' → R w cs x → R w' cs x
theorem Mono.int (k : IntKind) : Mono (cInt k) := fun _ _ _ _ _ h => h
theorem Mono.bool : Mono cBool := fun _ _ _ _ _ h => h
theorem Row'.ext {α : Type} {R : Cod α} {k b off : Nat} {w w' : World} {xs : List α} (hR : Mono R) (h : Row' R k w b off xs) (he : Ext w w') : Row' R k w' b off xs := by
  intro i x hx
  obtain ⟨cs, h1, h2, h3⟩ := h i x hx
  exact ⟨cs, hR _ _ _ _ he h1, h2, fun j v hv => he _ _ (h3 j v hv)⟩
theorem Row.ext {α : Type} {R : Cod α} {k : Nat} {w w' : World} {A : Option Addr} {xs : List α} (hR : Mono R) (h : Row R k w A xs) (he : Ext w w') : Row R k w' A xs := by
  intro hp
  obtain ⟨b, off, h1, h2⟩ := h hp
  exact ⟨b, off, h1, h2.ext hR he⟩
theorem Mono.slice {α : Type} {R : Cod α} (hR : Mono R) (k : Nat) : Mono (cSlice R k) := fun _ _ _ _ he ⟨A, c, h1, h2, h3, h4⟩ => ⟨A, c, h1, h2, h3, h4.ext hR he⟩
theorem Row.nil {α : Type} (R : Cod α) (k : Nat) (w : World) (A : Option Addr) : Row R k w A [] := fun h => absurd h (by simp)
theorem Row'.take {α : Type} {R : Cod α} {k b off : Nat} {w : World} {xs : List α} (h : Row' R k w b off xs) (n : Nat) : Row' R k w b off (xs.take n) := by
  intro i x hx
  rw [List.getElem?_take] at hx
  split at hx
  · exact h i x hx
  · cases hx
theorem Row.take {α : Type} {R : Cod α} {k : Nat} {w : World} {A : Option Addr} {xs : List α} (h : Row R k w A xs) (n : Nat) : Row R k w A (xs.take n) := by
  intro hp
  obtain ⟨b, off, h1, h2⟩ := h (by rw [List.length_take] at hp; omega)
  exact ⟨b, off, h1, h2.take n⟩
theorem Row'.drop {α : Type} {R : Cod α} {k b off : Nat} {w : World} {xs : List α} (h : Row' R k w b off xs) (n : Nat) : Row' R k w b (off + n * k) (xs.drop n) := by
  intro i x hx
  rw [List.getElem?_drop] at hx
  obtain ⟨cs, h1, h2, h3⟩ := h _ x hx
  refine ⟨cs, h1, h2, fun j v hv => ?_⟩
  have := h3 j v hv
  rwa [show off + (n + i) * k + j = off + n * k + i * k + j by rw [Nat.add_mul]; omega] at this

/-- An element's cell: of one-cell integers. -/
theorem Row'.int {ik : IntKind} {w : World} {b off : Nat} {xs : List Int} (h : Row' (cInt ik) 1 w b off xs) (i : Nat) (hi : i < xs.length) :
    w.cell? ⟨b, off + i, none⟩ = some (.int ik xs[i]) ∧ (Lit.int ik xs[i]).wf = true := by
  obtain ⟨cs, ⟨rfl, hw⟩, _, h3⟩ := h i xs[i] (List.getElem?_eq_getElem hi)
  have := h3 0 _ rfl
  simp only [Nat.mul_one, Nat.add_zero] at this
  exact ⟨this, hw⟩
theorem Row'.bool {w : World} {b off : Nat} {xs : List Bool} (h : Row' cBool 1 w b off xs) (i : Nat) (hi : i < xs.length) :
    w.cell? ⟨b, off + i, none⟩ = some (.bool xs[i]) := by
  obtain ⟨cs, rfl, _, h3⟩ := h i xs[i] (List.getElem?_eq_getElem hi)
  have := h3 0 _ rfl
  simp only [Nat.mul_one, Nat.add_zero] at this
  exact this

/-! ## From the row's readings to these words -/
/-- Whatever reads at type e reads as a datum by R. -/
def Opens {α : Type} (P : Program) (e : TypeId) (R : Cod α) : Prop :=
  ∀ (H : Type) (enc : TypeId × Value → H) (w : World) (base : Nat) (spare : Nat → Bool) (held : Bool) (fuel : Nat) (cs : List Value) (x : DataW H × List MemPlace), DataW.trod enc P w base spare held fuel e cs = some x → ∃ y : α, R w cs y
theorem Opens.int {P : Program} {e : TypeId} {k : IntKind} (hu : P.underlying e = some (.int k)) : Opens P e (cInt k) := by
  intro H enc w base spare held fuel cs x h
  obtain ⟨n, h1, _, h3⟩ := DataW.trod_int hu h
  exact ⟨n, h1, h3⟩
theorem Opens.bool {P : Program} {e : TypeId} (hu : P.underlying e = some .bool) : Opens P e cBool := by
  intro H enc w base spare held fuel cs x h
  obtain ⟨n, h1, _⟩ := DataW.trod_bool hu h
  exact ⟨n, h1⟩
theorem Opens.slice {α : Type} [Inhabited α] {P : Program} {t e : TypeId} {R : Cod α} {k : Nat} (ht : P.underlying t = some (.slice e)) (hC : P.cellsOf e = k) (hk : 0 < k) (hR : Opens P e R) : Opens P t (cSlice R k) := by
  intro H enc w base spare held fuel cs x h
  rcases Go.Deep.open_slice ht h with ⟨rfl, _⟩ | ⟨a, len, cap, m, n, D, Pl, rfl, _, hl, hm, hmm, _, hel⟩
  · exact ⟨[], none, 0, rfl, by simp, by simp, Row.nil _ _ _ _⟩
  · have hle : len ≤ m := by rw [hmm]; split <;> omega
    have hex : ∀ i, i < len → ∃ y : α, ∃ cs', R w cs' y ∧ cs'.length = k ∧ ∀ j v, cs'[j]? = some v → w.cell? ((a.add (i * k)).add j) = some v := by
      intro i hi
      obtain ⟨cs', h1, h2⟩ := hel i (by omega)
      obtain ⟨y, hy⟩ := hR _ _ _ _ _ _ _ _ _ h2
      rw [hC] at h1
      obtain ⟨_, hcl, hat⟩ := World.cells?_some h1
      refine ⟨y, cs', hy, hcl, fun j v hv => ?_⟩
      have hj : j < k := by
        have := (List.getElem?_eq_some_iff.1 hv).1
        omega
      rw [hat j hj, hv]
    obtain ⟨f, hf⟩ := Go.Deep.choose_lt hex
    refine ⟨(List.range len).map f, some a, cap, by simp, by simpa using hl, hm, fun hp => ?_⟩
    obtain ⟨b, off, spot⟩ := a
    have h0 : 0 < len := by simpa using hp
    obtain ⟨cs0, _, hl0, hc0⟩ := hf 0 h0
    have hs : spot = none := by
      have h1 : cs0[0]? = some (cs0[0]'(by omega)) := List.getElem?_eq_getElem (by omega)
      have := hc0 0 _ h1
      simpa [Addr.add] using World.cell?_spot this
    subst hs
    refine ⟨b, off, rfl, fun i y hy => ?_⟩
    have hi : i < len := by
      have := (List.getElem?_eq_some_iff.1 hy).1
      simpa using this
    obtain ⟨cs', h1, h2, h3⟩ := hf i hi
    have hy' : f i = y := by simpa [hi] using hy
    subst hy'
    refine ⟨cs', h1, h2, fun j v hv => ?_⟩
    have := h3 j v hv
    rwa [Go.Deep.add_add, Go.WideShapes.add_plain, ← Nat.add_assoc] at this

/-- One field's one cell. -/
theorem takeHead {cs : List Value} {o k : Nat} {v : Value} (h : (cs.drop o).take k = [v]) : cs[o]? = some v := by
  cases k with
  | zero => simp at h
  | succ k =>
    cases hd : cs.drop o with
    | nil => rw [hd] at h; simp at h
    | cons a r =>
      rw [hd] at h
      simp at h
      have : (cs.drop o)[0]? = some v := by rw [hd, h.1]; rfl
      rwa [List.getElem?_drop, Nat.add_zero] at this
theorem list_of_cells {cs : List Value} (l : List Value) (hlen : cs.length = l.length) (h : ∀ i, i < l.length → cs[i]? = l[i]?) : cs = l := by
  apply List.ext_getElem?
  intro i
  by_cases hi : i < l.length
  · exact h i hi
  · rw [List.getElem?_eq_none (by omega), List.getElem?_eq_none (by omega)]

end Go.Proofs.Ytffciebjpiljgaa
namespace Go.Proofs.Ytffciebjpiljgaa
set_option linter.unusedSimpArgs false
set_option linter.unusedVariables false
set_option maxRecDepth 100000
set_option linter.unusedVariables false
set_option linter.unusedSimpArgs false
open Go.RowKit
def eI (x : Int) : List AV := [.int .i64 x]
def eU (x : Int) : List AV := [.int .u32 x]
def eB (x : Bool) : List AV := [.bool x]
/-- What is known of a world. -/
def sg (w : World) : Sig := fun a => w.cell? a
/-- A datum's cells read as these. -/
def Br {α : Type} (R : Cod α) (f : α → List AV) : Prop := ∀ w cs x, R w cs x → L2 (VR0 (sg w)) (f x) cs
/-- A flat struct held against another one. -/
theorem ok_eqS {P : Program} {s : Slots} {h : Heap} {o : Oper} {α : Type} [DecidableEq α] (cells : α → List Value) (e : α → List AV) {t yt : TypeId} {X Y : Operand} {op : BinOp} {x y : α} (hop : op = .eql ∨ op = .neq)
    (hex : ∀ σ ι x vs, L2 (VR σ ι) (e x) vs → vs = cells x) (hrun : ∀ w, (Op.equalIn 10000 t (.agg (cells x).toArray) (.agg (cells y).toArray)).run P w = .ok (decide (x = y)) w)
    (hgd : ∀ (xs ys : Array Value) w, (eqGuard op t X Y (.agg xs) (.agg ys)).run P w = .ok () w)
    (ho : o.op = .binOp op t X Y yt) (hx : evA s X = .agg (e x)) (hy : evA s Y = .agg (e y)) : OkO P o s h (.bool (if op = .eql then decide (x = y) else !decide (x = y))) := by
  refine ok_of_run fun E σ ι a w hr hv => ?_
  have hX := hv X (by rw [ho]; simp [Op.operands])
  have hY := hv Y (by rw [ho]; simp [Op.operands])
  rw [hx] at hX
  rw [hy] at hY
  obtain ⟨us, h1, h2⟩ := hX.agg_inv
  obtain ⟨vs, h3, h4⟩ := hY.agg_inv
  rw [hex _ _ _ _ h2] at h1
  rw [hex _ _ _ _ h4] at h3
  refine ⟨_, ?_, .base _ _ (.bool _)⟩
  have h5 : (Op.equal t (.agg (cells x).toArray) (.agg (cells y).toArray)).run P w = .ok (decide (x = y)) w := hrun w
  unfold execOp
  simp only [ho, h1, h3, Sem.run_bind, hgd, Result.andThen_ok]
  rcases hop with rfl | rfl
  · simp only [binOp, Sem.run_bind, h5, Result.andThen_ok, Sem.run_pure, if_true]
  · simp only [binOp, Sem.run_bind, h5, Result.andThen_ok, Sem.run_pure, reduceCtorEq, if_false]
/-- The numbers of a list's elements are numbers of their kinds. -/
theorem wlist {P : Program} {n : Md} {c : Code} {Q : Exit → Slots → Heap → Prop} {s : Slots} {h : Heap} {α : Type} {sz : Nat} {l : List α} {f : α → List AV} (t : Nat) (hg : get s t = .lst sz (l.map f)) (hk : (∀ x ∈ l, ∀ k m, AV.int k m ∈ f x → rangeP k m) → W P n c Q s h) : W P n c Q s h := ⟨by
  intro E σ ι a w hr ht
  have hv := ht.at_ t
  rw [hg] at hv
  obtain ⟨A, cap, _, _, _, h4⟩ := hv.lst_inv
  refine (hk fun x hx k m hm => ?_).out E σ ι a w hr ht
  rcases h4 with h4 | ⟨b, off, g, _, h5, h6, h7⟩
  · have : l = [] := by simpa using h4
    subst this; cases hx
  · have hmem : AV.int k m ∈ (l.map f).flatten := List.mem_flatten.2 ⟨f x, List.mem_map_of_mem hx, hm⟩
    obtain ⟨j, hj⟩ := List.getElem?_of_mem hmem
    have := h7 j _ hj
    exact (VR.base (ι := ι) _ _ this).int_inv.2⟩
theorem wagg {P : Program} {n : Md} {c : Code} {Q : Exit → Slots → Heap → Prop} {s : Slots} {h : Heap} {cs : List AV} (t : Nat) (hg : get s t = .agg cs) (hk : (∀ k m, AV.int k m ∈ cs → rangeP k m) → W P n c Q s h) : W P n c Q s h := ⟨by
  intro E σ ι a w hr ht
  have hv := ht.at_ t
  rw [hg] at hv
  obtain ⟨vs, _, h2⟩ := hv.agg_inv
  refine (hk fun k m hm => ?_).out E σ ι a w hr ht
  obtain ⟨j, hj⟩ := List.getElem?_of_mem hm
  obtain ⟨v, _, hR⟩ := h2.get hj
  exact hR.int_inv.2⟩
end Go.Proofs.Ytffciebjpiljgaa
namespace Go.Proofs.Ytffciebjpiljgaa
set_option linter.unusedSimpArgs false
set_option linter.unusedVariables false
set_option maxRecDepth 100000
open Go.RowKit Go.ChangeShapes Go.WideShapes

structure Instr where
  op : Int
  a : Int
  b : Int
  c : Int
  n : Int
instance : Inhabited Instr := ⟨⟨0, 0, 0, 0, 0⟩⟩
theorem Instr.ext_ {x y : Instr} (h : x.op = y.op ∧ x.a = y.a ∧ x.b = y.b ∧ x.c = y.c ∧ x.n = y.n) : x = y := by cases x; cases y; simp_all
instance : DecidableEq Instr := fun x y => decidable_of_iff (x.op = y.op ∧ x.a = y.a ∧ x.b = y.b ∧ x.c = y.c ∧ x.n = y.n) ⟨Instr.ext_, fun h => by subst h; simp⟩
def Instr.cells (x : Instr) : List Value := [.int .i64 x.op, .int .i64 x.a, .int .i64 x.b, .int .i64 x.c, .int .u32 x.n]
def Instr.ok (x : Instr) : Prop := (Lit.int .i64 x.op).wf = true ∧ (Lit.int .i64 x.a).wf = true ∧ (Lit.int .i64 x.b).wf = true ∧ (Lit.int .i64 x.c).wf = true ∧ (Lit.int .u32 x.n).wf = true
def Instr.cod : Cod Instr := fun _ cs x => cs = x.cells ∧ x.ok
theorem Instr.mono : Mono Instr.cod := fun _ _ _ _ _ h => h
theorem Instr.size {w : World} {cs : List Value} {x : Instr} (h : Instr.cod w cs x) : cs.length = 5 := by rw [h.1]; rfl
/-- The cells of an element. -/
theorem Instr.at {w : World} {b off : Nat} {xs : List Instr} (h : Row' Instr.cod 5 w b off xs) (i : Nat) (hi : i < xs.length) :
    w.cell? ⟨b, off + i * 5, none⟩ = some (.int .i64 xs[i].op) ∧ w.cell? ⟨b, off + i * 5 + 1, none⟩ = some (.int .i64 xs[i].a) ∧ w.cell? ⟨b, off + i * 5 + 2, none⟩ = some (.int .i64 xs[i].b) ∧ w.cell? ⟨b, off + i * 5 + 3, none⟩ = some (.int .i64 xs[i].c) ∧ w.cell? ⟨b, off + i * 5 + 4, none⟩ = some (.int .u32 xs[i].n) ∧ xs[i].ok := by
  obtain ⟨cs, hx, _, hc⟩ := h i xs[i] (List.getElem?_eq_getElem hi)
  obtain ⟨rfl, hk⟩ := hx
  exact ⟨hc 0 _ rfl, hc 1 _ rfl, hc 2 _ rfl, hc 3 _ rfl, hc 4 _ rfl, hk⟩
/-- From the row's reading. -/
theorem Instr.opens : Opens Try.prog 49 Instr.cod := by
  intro H enc w base spare held fuel cs x h
  obtain ⟨xs, n, _, _, hlen, hxl, hf⟩ := DataW.trod_struct Try.underlying49 h
  have hxl' : xs.length = 5 := hxl
  have hl' : cs.length = 5 := hlen.trans (by kernel_rfl)
  have f0 := (hf 0 _ rfl).trans (List.getElem?_eq_getElem (show 0 < xs.length by omega))
  obtain ⟨v0, e0, _, w0⟩ := DataW.trod_int Try.underlying3 f0
  have g0 := takeHead e0
  have f1 := (hf 1 _ rfl).trans (List.getElem?_eq_getElem (show 1 < xs.length by omega))
  obtain ⟨v1, e1, _, w1⟩ := DataW.trod_int Try.underlying3 f1
  have g1 := takeHead e1
  have f2 := (hf 2 _ rfl).trans (List.getElem?_eq_getElem (show 2 < xs.length by omega))
  obtain ⟨v2, e2, _, w2⟩ := DataW.trod_int Try.underlying3 f2
  have g2 := takeHead e2
  have f3 := (hf 3 _ rfl).trans (List.getElem?_eq_getElem (show 3 < xs.length by omega))
  obtain ⟨v3, e3, _, w3⟩ := DataW.trod_int Try.underlying3 f3
  have g3 := takeHead e3
  have f4 := (hf 4 _ rfl).trans (List.getElem?_eq_getElem (show 4 < xs.length by omega))
  obtain ⟨v4, e4, _, w4⟩ := DataW.trod_int Try.underlying47 f4
  have g4 := takeHead e4
  refine ⟨⟨v0, v1, v2, v3, v4⟩, ?_, ⟨w0, w1, w2, w3, w4⟩⟩
  refine list_of_cells [.int .i64 v0, .int .i64 v1, .int .i64 v2, .int .i64 v3, .int .u32 v4] hl' fun i hi => ?_
  have hi' : i < 5 := hi
  match i, hi' with
  | 0, _ => exact g0
  | 1, _ => exact g1
  | 2, _ => exact g2
  | 3, _ => exact g3
  | 4, _ => exact g4
/-- Two of them, held against each other. -/
theorem Instr.run_eqIn (x y : Instr) (w : World) : (Op.equalIn 10000 49 (.agg #[.int .i64 x.op, .int .i64 x.a, .int .i64 x.b, .int .i64 x.c, .int .u32 x.n]) (.agg #[.int .i64 y.op, .int .i64 y.a, .int .i64 y.b, .int .i64 y.c, .int .u32 y.n])).run Try.prog w = .ok (decide (x = y)) w := by
  have hs : Try.prog.stoodInHeld 49 = false := by kernel_rfl
  rw [run_equalIn_agg w 9999 49 _ _ (by simp only [Program.fieldsOf, Try.underlying49]) hs]
  simp only [Program.fieldsOf, Try.underlying49]
  simp [go_sem]
  by_cases h : x = y
  · subst h; simp
  · rw [show decide (x = y) = false from by simp [h]]
    repeat' split
    all_goals first | rfl | exact absurd (Instr.ext_ ⟨by assumption, by assumption, by assumption, by assumption, by assumption⟩) h
theorem Instr.run_guard (op : BinOp) (xo yo : Operand) (xs ys : Array Value) (w : World) : (eqGuard op 49 xo yo (.agg xs) (.agg ys)).run Try.prog w = .ok () w := run_eqGuard_agg w op 49 xo yo xs ys (by kernel_rfl)
end Go.Proofs.Ytffciebjpiljgaa
namespace Go.Proofs.Ytffciebjpiljgaa
set_option linter.unusedSimpArgs false
set_option linter.unusedVariables false
set_option maxRecDepth 100000
open Go.RowKit
def eInstr (x : Instr) : List AV := [.int .i64 x.op, .int .i64 x.a, .int .i64 x.b, .int .i64 x.c, .int .u32 x.n]
theorem ex_Instr : ∀ σ ι x vs, L2 (VR σ ι) (eInstr x) vs → vs = Instr.cells x := fun σ ι x vs h => by
  obtain ⟨u0, r0, rfl, h0, h⟩ := L2.cons_inv h
  obtain ⟨u1, r1, rfl, h1, h⟩ := L2.cons_inv h
  obtain ⟨u2, r2, rfl, h2, h⟩ := L2.cons_inv h
  obtain ⟨u3, r3, rfl, h3, h⟩ := L2.cons_inv h
  obtain ⟨u4, r4, rfl, h4, h⟩ := L2.cons_inv h
  rw [L2.nil_iff] at h
  subst h
  rw [h0.int_inv.1, h1.int_inv.1, h2.int_inv.1, h3.int_inv.1, h4.int_inv.1]
  rfl
end Go.Proofs.Ytffciebjpiljgaa
namespace Go.Proofs.Ytffciebjpiljgaa
set_option linter.unusedSimpArgs false
set_option linter.unusedVariables false
set_option maxRecDepth 100000
open Go.RowKit

/-- What append and make ask of a slice type t with elements e of k cells. -/
def Elt (P : Program) (t e : TypeId) (k bytes : Nat) : Prop :=
  P.underlying t = some (.slice e) ∧ 0 < k ∧ ∃ i z, P.info? e = some i ∧ i.zero = some z ∧ z.cells.size = k ∧ i.size = k ∧ i.bytes = bytes
/-- A slice of the call's own, in blocks from B on, that holds these elements. -/
def Own {α : Type} (f : α → List Value) (k : Nat) (e : TypeId) (B : Nat) (w : World) (v : Value) (xs : List α) : Prop :=
  w.ownsRow B e k v xs.length (xs.flatMap f)
theorem Own.nil {α : Type} (f : α → List Value) (k : Nat) (e : TypeId) (B : Nat) (w : World) : Own f k e B w (.slice none 0 0) [] := World.ownsRow_nil w B e k
theorem Own.drew {α : Type} {f : α → List Value} {k : Nat} {e : TypeId} {B : Nat} {w : World} {v : Value} {xs : List α} (h : Own f k e B w v xs) : Own f k e B w.drew v xs := h
theorem Own.alloc {α : Type} {f : α → List Value} {k : Nat} {e : TypeId} {B : Nat} {w : World} {v : Value} {xs : List α} (h : Own f k e B w v xs) (o : Obj) : Own f k e B (w.alloc o) v xs := World.ownsRow.alloc h o
/-- It stays where what is below the heap's size stays. -/
theorem Own.below {α : Type} {f : α → List Value} {k : Nat} {e : TypeId} {B : Nat} {w w' : World} {v : Value} {xs : List α} (h : Own f k e B w v xs) (hb : Below w.heap.size w w') : Own f k e B w' v xs := by
  obtain ⟨h1, h2⟩ := h
  refine ⟨h1, ?_⟩
  rcases h2 with h2 | ⟨g, cap, cur, hv, hg, hh, r⟩
  · exact .inl h2
  · exact .inr ⟨g, cap, cur, hv, hg, (hb.block g (Array.getElem?_eq_some_iff.1 hh).1).trans hh, r⟩
theorem Own.base {α : Type} {f : α → List Value} {k : Nat} {e : TypeId} {B B' : Nat} {w : World} {v : Value} {xs : List α} (h : Own f k e B w v xs) (hB : B' ≤ B) : Own f k e B' w v xs := by
  obtain ⟨h1, h2⟩ := h
  refine ⟨h1, ?_⟩
  rcases h2 with h2 | ⟨g, cap, cur, hv, hg, r⟩
  · exact .inl h2
  · exact .inr ⟨g, cap, cur, hv, Nat.le_trans hB hg, r⟩
theorem flat_get {α : Type} {f : α → List Value} {k : Nat} (hf : ∀ y, (f y).length = k) : ∀ (xs : List α) (i j : Nat) (x : α) (u : Value), xs[i]? = some x → (f x)[j]? = some u → (xs.flatMap f)[i * k + j]? = some u
  | [], i, j, x, u, h, _ => by simp at h
  | y :: ys, 0, j, x, u, h, hu => by
    simp at h; subst h
    have hj : j < (f y).length := (List.getElem?_eq_some_iff.1 hu).1
    rw [List.flatMap_cons, List.getElem?_append_left (by simpa using hj)]; simpa using hu
  | y :: ys, i + 1, j, x, u, h, hu => by
    have ih := flat_get hf ys i j x u (by simpa using h) hu
    rw [List.flatMap_cons, List.getElem?_append_right (by rw [hf, Nat.add_mul]; omega), hf, Nat.add_mul]
    rwa [show i * k + 1 * k + j - k = i * k + j by omega]
/-- How a slice of the call's own reads. -/
theorem Own.row {α : Type} {f : α → List Value} {k : Nat} {e : TypeId} {B : Nat} {w : World} {v : Value} {xs : List α} {R : Cod α} (h : Own f k e B w v xs) (hf : ∀ y, (f y).length = k) (hR : ∀ x ∈ xs, R w (f x) x) :
    ∃ A c, v = .slice A xs.length c ∧ xs.length ≤ c ∧ c ≤ maxLen ∧ Row R k w A xs := by
  rcases h.2 with ⟨rfl, h0⟩ | ⟨g, cap, cur, rfl, _, _, hn, hm, _⟩
  · obtain rfl : xs = [] := List.eq_nil_of_length_eq_zero h0
    exact ⟨none, 0, rfl, by simp, by simp, Row.nil _ _ _ _⟩
  · refine ⟨some ⟨g, 0, none⟩, cap, rfl, hn, hm, fun _ => ⟨g, 0, rfl, fun i x hx => ⟨f x, hR x (List.mem_of_getElem? hx), hf x, fun j u hu => ?_⟩⟩⟩
    have := World.ownsRow.cells h (g := g) rfl (i * k + j) u (flat_get hf xs i j x u hx hu)
    rwa [Go.WideShapes.add_plain, ← Nat.add_assoc] at this

/-- A block's first cells. -/
def AtB (w : World) (b : Nat) (cs : List Value) : Prop := ∀ i u, cs[i]? = some u → w.cell? ⟨b, i, none⟩ = some u
theorem AtB.ext {w w' : World} {b : Nat} {cs : List Value} (h : AtB w b cs) (he : Ext w w') : AtB w' b cs := fun i u hu => he _ _ (h i u hu)
theorem AtB.new (w : World) (cs : List Value) (e : TypeId) : AtB (w.alloc (.cells cs.toArray e)) w.heap.size cs := fun i u hu => by
  rw [World.cell?_alloc_at _ _ _ _ rfl]; simpa using hu
theorem Ext.alloc (w : World) (o : Obj) : Ext w (w.alloc o) := Ext.below ((Below.refl _ _).alloc (Nat.le_refl _) _)
theorem Own.at_ {α : Type} {f : α → List Value} {k : Nat} {e : TypeId} {B : Nat} {w : World} {A : Option Addr} {n c : Nat} {xs : List α} (h : Own f k e B w (.slice A n c) xs) (hp : 0 < xs.length) :
    ∃ g, A = some ⟨g, 0, none⟩ ∧ n = xs.length ∧ B ≤ g ∧ g < w.heap.size ∧ ∀ o, w.frozen? ⟨g, o, none⟩ = false := by
  rcases h.2 with ⟨_, h0⟩ | ⟨g, cap, cur, hv, hb, hh, _⟩
  · omega
  · injection hv with h1 h2 h3
    exact ⟨g, h1, h2, hb, (Array.getElem?_eq_some_iff.1 hh).1, fun o => by simp [World.frozen?, hh]⟩
theorem flat_set {α : Type} {f : α → List Value} {k : Nat} (hf : ∀ y, (f y).length = k) : ∀ (xs : List α) (i j : Nat) (x' : α) (u : Value) (hi : i < xs.length), j < k → f x' = (f xs[i]).set j u → (xs.set i x').flatMap f = (xs.flatMap f).set (i * k + j) u
  | [], i, j, x', u, hi, _, _ => by simp at hi
  | y :: ys, 0, j, x', u, _, hj, h => by
    simp only [List.getElem_cons_zero] at h
    rw [List.set_cons_zero, List.flatMap_cons, List.flatMap_cons, h, Nat.zero_mul, Nat.zero_add, List.set_append_left _ _ (by rw [hf]; exact hj)]
  | y :: ys, i + 1, j, x', u, hi, hj, h => by
    simp only [List.getElem_cons_succ] at h
    have ih := flat_set hf ys i j x' u (by simpa using hi) hj h
    rw [List.set_cons_succ, List.flatMap_cons, List.flatMap_cons, ih, List.set_append_right _ _ (by rw [hf, Nat.add_mul]; omega), hf]
    congr 2
    rw [Nat.add_mul]; omega
/-- A store into a slice of the call's own. -/
theorem Own.store {α : Type} {f : α → List Value} {k : Nat} {e : TypeId} {B : Nat} {w : World} {g n c : Nat} {xs : List α} (h : Own f k e B w (.slice (some ⟨g, 0, none⟩) n c) xs) (hf : ∀ y, (f y).length = k)
    {i j : Nat} (hi : i < xs.length) (hj : j < k) {x' : α} {u : Value} (hx : f x' = (f xs[i]).set j u) : Own f k e B (w.setCell ⟨g, i * k + j, none⟩ u) (.slice (some ⟨g, 0, none⟩) n c) (xs.set i x') := by
  unfold Own at h ⊢
  rw [flat_set hf xs i j x' u hi hj hx, List.length_set]
  refine ⟨by rw [List.length_set]; exact h.1, ?_⟩
  rcases h.2 with ⟨h0, _⟩ | ⟨g', cap, cur, hv, hb, hh, hn, hm, hcs, ht⟩
  · injection h0 with h0; cases h0
  · injection hv with h1 h2 h3
    injection h1 with h1
    injection h1 with h1
    subst h1
    refine .inr ⟨g, cap, cur.setIfInBounds (i * k + j) u, by rw [h2, h3], hb, by simp [World.setCell, Array.getElem?_modify, hh], hn, hm, by simpa using hcs, ?_⟩
    rw [Array.toList_setIfInBounds, List.take_set, ht]
section
variable {P : Program} {α : Type} {f : α → List Value} {k : Nat}
end
end Go.Proofs.Ytffciebjpiljgaa
namespace Go.Proofs.Ytffciebjpiljgaa
set_option linter.unusedSimpArgs false
set_option linter.unusedVariables false
set_option maxRecDepth 100000
open Go.RowKit

def kindsN (op : Nat) : Int × Int × Int × Int := match op with
  | 0 => (0, 0, 0, 0)
  | 1 => (1, 0, 0, 6)
  | 2 => (1, 1, 0, 0)
  | 3 => (1, 1, 1, 0)
  | 4 => (1, 1, 1, 0)
  | 5 => (1, 1, 1, 0)
  | 6 => (1, 1, 1, 0)
  | 7 => (1, 1, 1, 0)
  | 8 => (1, 1, 1, 0)
  | 9 => (1, 1, 1, 0)
  | 10 => (1, 1, 1, 0)
  | 11 => (1, 1, 0, 6)
  | 12 => (1, 1, 0, 6)
  | 13 => (1, 1, 1, 6)
  | 14 => (0, 0, 0, 4)
  | 15 => (1, 0, 0, 4)
  | 16 => (0, 0, 3, 4)
  | 17 => (1, 2, 0, 5)
  | 18 => (1, 2, 0, 5)
  | 19 => (1, 2, 0, 5)
  | 20 => (1, 2, 0, 5)
  | 21 => (0, 0, 0, 0)
  | _ => (0, 0, 0, 0)
/-- What the operands of a kind may be. -/
def kindsOf (op : Int) : Int × Int × Int × Int := kindsN op.toNat
def fitsB (k n : Int) : Bool := if k = 0 then n == 0 else if k = 1 then decide (0 ≤ n ∧ n < 8) else if k = 2 then decide (0 ≤ n ∧ n < 8) else if k = 3 then decide (1 ≤ n ∧ n ≤ 255) else if k = 4 then decide (n < 64) else if k = 5 then decide (n < 64) else true
/-- May an instruction be? -/
def rightI (x : Instr) : Bool := decide (0 ≤ x.op ∧ x.op < 22) && (fitsB (kindsOf x.op).1 x.a && (fitsB (kindsOf x.op).2.1 x.b && (fitsB (kindsOf x.op).2.2.1 x.c && fitsB (kindsOf x.op).2.2.2 x.n)))
/-- Does a right instruction lead elsewhere? -/
def leadsI (x : Instr) : Bool := rightI x && decide (14 ≤ x.op ∧ x.op ≤ 16)
def shapesV : Array Value := #[.string ⟨#[110, 111, 112]⟩, .int .i64 0, .int .i64 0, .int .i64 0, .int .i64 0, .string ⟨#[]⟩, .string ⟨#[]⟩, .string ⟨#[115, 101, 116]⟩, .int .i64 1, .int .i64 0, .int .i64 0, .int .i64 6, .string ⟨#[]⟩, .string ⟨#[97]⟩, .string ⟨#[109, 111, 118, 101]⟩, .int .i64 1, .int .i64 1, .int .i64 0, .int .i64 0, .string ⟨#[98]⟩, .string ⟨#[97]⟩, .string ⟨#[97, 100, 100]⟩, .int .i64 1, .int .i64 1, .int .i64 1, .int .i64 0, .string ⟨#[98, 99]⟩, .string ⟨#[97]⟩, .string ⟨#[115, 117, 98]⟩, .int .i64 1, .int .i64 1, .int .i64 1, .int .i64 0, .string ⟨#[98, 99]⟩, .string ⟨#[97]⟩, .string ⟨#[109, 117, 108]⟩, .int .i64 1, .int .i64 1, .int .i64 1, .int .i64 0, .string ⟨#[98, 99]⟩, .string ⟨#[97]⟩, .string ⟨#[97, 110, 100]⟩, .int .i64 1, .int .i64 1, .int .i64 1, .int .i64 0, .string ⟨#[98, 99]⟩, .string ⟨#[97]⟩, .string ⟨#[111, 114]⟩, .int .i64 1, .int .i64 1, .int .i64 1, .int .i64 0, .string ⟨#[98, 99]⟩, .string ⟨#[97]⟩, .string ⟨#[120, 111, 114]⟩, .int .i64 1, .int .i64 1, .int .i64 1, .int .i64 0, .string ⟨#[98, 99]⟩, .string ⟨#[97]⟩, .string ⟨#[108, 101, 115, 115]⟩, .int .i64 1, .int .i64 1, .int .i64 1, .int .i64 0, .string ⟨#[98, 99]⟩, .string ⟨#[97]⟩, .string ⟨#[101, 113, 117, 97, 108]⟩, .int .i64 1, .int .i64 1, .int .i64 1, .int .i64 0, .string ⟨#[98, 99]⟩, .string ⟨#[97]⟩, .string ⟨#[108, 111, 97, 100]⟩, .int .i64 1, .int .i64 1, .int .i64 0, .int .i64 6, .string ⟨#[98]⟩, .string ⟨#[97]⟩, .string ⟨#[115, 116, 111, 114, 101]⟩, .int .i64 1, .int .i64 1, .int .i64 0, .int .i64 6, .string ⟨#[97, 98]⟩, .string ⟨#[]⟩, .string ⟨#[99, 97, 115]⟩, .int .i64 1, .int .i64 1, .int .i64 1, .int .i64 6, .string ⟨#[97, 98, 99]⟩, .string ⟨#[97]⟩, .string ⟨#[106, 117, 109, 112]⟩, .int .i64 0, .int .i64 0, .int .i64 0, .int .i64 4, .string ⟨#[]⟩, .string ⟨#[]⟩, .string ⟨#[122, 101, 114, 111]⟩, .int .i64 1, .int .i64 0, .int .i64 0, .int .i64 4, .string ⟨#[97]⟩, .string ⟨#[]⟩, .string ⟨#[98, 97, 99, 107]⟩, .int .i64 0, .int .i64 0, .int .i64 3, .int .i64 4, .string ⟨#[]⟩, .string ⟨#[]⟩, .string ⟨#[114, 101, 97, 100]⟩, .int .i64 1, .int .i64 2, .int .i64 0, .int .i64 5, .string ⟨#[]⟩, .string ⟨#[97]⟩, .string ⟨#[119, 114, 105, 116, 101]⟩, .int .i64 1, .int .i64 2, .int .i64 0, .int .i64 5, .string ⟨#[]⟩, .string ⟨#[97]⟩, .string ⟨#[112, 117, 116]⟩, .int .i64 1, .int .i64 2, .int .i64 0, .int .i64 5, .string ⟨#[]⟩, .string ⟨#[97]⟩, .string ⟨#[116, 97, 107, 101]⟩, .int .i64 1, .int .i64 2, .int .i64 0, .int .i64 5, .string ⟨#[]⟩, .string ⟨#[97]⟩, .string ⟨#[100, 111, 110, 101]⟩, .int .i64 0, .int .i64 0, .int .i64 0, .int .i64 0, .string ⟨#[]⟩, .string ⟨#[]⟩]

theorem belowRow {B : Nat} {a w : World} (h : Below B a w) {g : Nat} (hg : B ≤ g) (cs : Array Value) : Below B a (w.setRow g cs) :=
  h.trans ⟨rfl, rfl, rfl, by simp [World.setRow], fun k hk => setRow_other w g k _ (by omega)⟩
theorem three_any (s : ByteArray) (w : World) : Calls Try.prog 133 #[.string s] w fun e w' => e = .returned (.agg #[.string s, .int .i64 1, .int .i64 1, .int .i64 1, .int .i64 0, .string ⟨#[98, 99]⟩, .string ⟨#[97]⟩]) ∧ w.alloc (.cells #[.string s, .int .i64 1, .int .i64 1, .int .i64 1, .int .i64 0, .string ⟨#[98, 99]⟩, .string ⟨#[97]⟩] 164) = w' := by
  go_enter Try.func133, Try.ntmps133
  go_wp2
  exact bodyPost_ret (v := .agg #[.string s, .int .i64 1, .int .i64 1, .int .i64 1, .int .i64 0, .string ⟨#[98, 99]⟩, .string ⟨#[97]⟩]) (by simp [results, Try.results133, go_sem]) rfl ⟨rfl, rfl⟩
theorem call_any (s : ByteArray) (w : World) : Calls Try.prog 134 #[.string s] w fun e w' => e = .returned (.agg #[.string s, .int .i64 1, .int .i64 2, .int .i64 0, .int .i64 5, .string ⟨#[]⟩, .string ⟨#[97]⟩]) ∧ w.alloc (.cells #[.string s, .int .i64 1, .int .i64 2, .int .i64 0, .int .i64 5, .string ⟨#[]⟩, .string ⟨#[97]⟩] 164) = w' := by
  go_enter Try.func134, Try.ntmps134
  go_wp2
  exact bodyPost_ret (v := .agg #[.string s, .int .i64 1, .int .i64 2, .int .i64 0, .int .i64 5, .string ⟨#[]⟩, .string ⟨#[97]⟩]) (by simp [results, Try.results134, go_sem]) rfl ⟨rfl, rfl⟩
set_option maxRecDepth 100000 in
set_option maxHeartbeats 2000000 in
theorem shapes_any (w : World) : Calls Try.prog 123 #[] w fun e w' => e = .returned (.agg shapesV) ∧ Below w.heap.size w w' := by
  go_enter Try.func123, Try.ntmps123
  go_wp2_with (first
    | (go_at_call 133; refine (three_any _ _).mono ?_; rintro e w' ⟨rfl, rfl⟩)
    | (go_at_call 134; refine (call_any _ _).mono ?_; rintro e w' ⟨rfl, rfl⟩))
  rw [run_storeCells_at Try.prog w.heap.size 0 165 _ 0 Try.zeroCells165 _ ?h1 ?h2 ?h3]
  case h1 =>
    have hB : ∀ W, Below (w.heap.size + 1) (w.alloc (.cells Try.zeroCells165 165)) W → W.heap[w.heap.size]? = some (.cells Try.zeroCells165 165 (0, 0)) := fun W h => (h.block w.heap.size (by omega)).trans (heap_alloc_new w _)
    refine hB _ ?_
    repeat (first | exact Below.refl _ _ | refine Below.alloc ?_ (by simp only [World.size_alloc]; omega) _)
  case h2 => exact of_decide_eq_true (by kernel_rfl)
  case h3 => decide
  simp only [Result.andThen_ok]
  go_wp2_with fail
  have hB : ∀ W, Below (w.heap.size + 1) (w.alloc (.cells Try.zeroCells165 165)) W → W.heap[w.heap.size]? = some (.cells Try.zeroCells165 165 (0, 0)) := fun W h => (h.block w.heap.size (by omega)).trans (heap_alloc_new w _)
  refine bodyPost_ret (v := .agg shapesV) (results_cell_row rfl _ _ w.heap.size 165 shapesV (0, 0) _ rfl ?_ Try.underlying165 rfl (by kernel_rfl)) rfl ⟨rfl, ?_⟩
  · refine setRow_heap _ _ Try.zeroCells165 _ _ _ (hB _ ?_)
    repeat (first | exact Below.refl _ _ | refine Below.alloc ?_ (by simp only [World.size_alloc]; omega) _)
  · refine belowRow ?_ (by omega) _
    repeat (first | exact Below.refl _ _ | refine Below.alloc ?_ (by first | omega | (simp only [World.size_alloc]; omega)) _)
end Go.Proofs.Ytffciebjpiljgaa
namespace Go.Proofs.Ytffciebjpiljgaa
set_option linter.unusedSimpArgs false
set_option linter.unusedVariables false
set_option maxRecDepth 100000
open Go.RowKit

/-- An alloc, and a store past the start. -/
theorem belowAl {a w : World} (h : Below a.heap.size a w) (o : Obj) : Below a.heap.size a (w.alloc o) := h.alloc h.size o
theorem new76 {w1 w' : World} (hb : Below (w1.alloc (.cells #[.string ⟨#[]⟩, .int .i64 0, .int .i64 0, .int .i64 0, .int .i64 0, .string ⟨#[]⟩, .string ⟨#[]⟩] 164)).drew.heap.size (w1.alloc (.cells #[.string ⟨#[]⟩, .int .i64 0, .int .i64 0, .int .i64 0, .int .i64 0, .string ⟨#[]⟩, .string ⟨#[]⟩] 164)).drew w') :
    w'.cell? ⟨w1.heap.size, 0, none⟩ = some (.string ⟨#[]⟩) ∧ w'.cell? ⟨w1.heap.size, 1, none⟩ = some (.int .i64 0) ∧ w'.cell? ⟨w1.heap.size, 2, none⟩ = some (.int .i64 0) ∧ w'.cell? ⟨w1.heap.size, 3, none⟩ = some (.int .i64 0) ∧ w'.cell? ⟨w1.heap.size, 4, none⟩ = some (.int .i64 0) ∧ w'.cell? ⟨w1.heap.size, 5, none⟩ = some (.string ⟨#[]⟩) ∧ w'.cell? ⟨w1.heap.size, 6, none⟩ = some (.string ⟨#[]⟩) ∧ w'.frozen? ⟨w1.heap.size, 0, none⟩ = false ∧ w'.frozen? ⟨w1.heap.size, 1, none⟩ = false ∧ w'.frozen? ⟨w1.heap.size, 2, none⟩ = false ∧ w'.frozen? ⟨w1.heap.size, 3, none⟩ = false ∧ w'.frozen? ⟨w1.heap.size, 4, none⟩ = false ∧ w'.frozen? ⟨w1.heap.size, 5, none⟩ = false ∧ w'.frozen? ⟨w1.heap.size, 6, none⟩ = false :=
  ⟨Ext.below hb _ _ ((World.cell?_drew _ _).trans ((World.cell?_alloc_at _ _ _ _ rfl).trans rfl)), Ext.below hb _ _ ((World.cell?_drew _ _).trans ((World.cell?_alloc_at _ _ _ _ rfl).trans rfl)), Ext.below hb _ _ ((World.cell?_drew _ _).trans ((World.cell?_alloc_at _ _ _ _ rfl).trans rfl)), Ext.below hb _ _ ((World.cell?_drew _ _).trans ((World.cell?_alloc_at _ _ _ _ rfl).trans rfl)), Ext.below hb _ _ ((World.cell?_drew _ _).trans ((World.cell?_alloc_at _ _ _ _ rfl).trans rfl)), Ext.below hb _ _ ((World.cell?_drew _ _).trans ((World.cell?_alloc_at _ _ _ _ rfl).trans rfl)), Ext.below hb _ _ ((World.cell?_drew _ _).trans ((World.cell?_alloc_at _ _ _ _ rfl).trans rfl)), (Below.frozen hb (by simp)).trans ((World.frozen?_drew _ _).trans (World.frozen?_alloc_at _ _ _ _ rfl)), (Below.frozen hb (by simp)).trans ((World.frozen?_drew _ _).trans (World.frozen?_alloc_at _ _ _ _ rfl)), (Below.frozen hb (by simp)).trans ((World.frozen?_drew _ _).trans (World.frozen?_alloc_at _ _ _ _ rfl)), (Below.frozen hb (by simp)).trans ((World.frozen?_drew _ _).trans (World.frozen?_alloc_at _ _ _ _ rfl)), (Below.frozen hb (by simp)).trans ((World.frozen?_drew _ _).trans (World.frozen?_alloc_at _ _ _ _ rfl)), (Below.frozen hb (by simp)).trans ((World.frozen?_drew _ _).trans (World.frozen?_alloc_at _ _ _ _ rfl)), (Below.frozen hb (by simp)).trans ((World.frozen?_drew _ _).trans (World.frozen?_alloc_at _ _ _ _ rfl))⟩
abbrev instrV (x : Instr) : Value := .agg #[.int .i64 x.op, .int .i64 x.a, .int .i64 x.b, .int .i64 x.c, .int .u32 x.n]
theorem shape_at (k : Nat) (hk : k < 22) : ∃ s1 s2 s3 : ByteArray, ∀ w : World, (Instr.index 165 (.agg shapesV) (.int .i64 (k : Int))).run Try.prog w = .ok (.agg #[.string s1, .int .i64 (kindsN k).1, .int .i64 (kindsN k).2.1, .int .i64 (kindsN k).2.2.1, .int .i64 (kindsN k).2.2.2, .string s2, .string s3]) w := by
  match k, hk with
  | 0, _ => exact ⟨⟨#[110, 111, 112]⟩, ⟨#[]⟩, ⟨#[]⟩, fun w => by kernel_rfl⟩
  | 1, _ => exact ⟨⟨#[115, 101, 116]⟩, ⟨#[]⟩, ⟨#[97]⟩, fun w => by kernel_rfl⟩
  | 2, _ => exact ⟨⟨#[109, 111, 118, 101]⟩, ⟨#[98]⟩, ⟨#[97]⟩, fun w => by kernel_rfl⟩
  | 3, _ => exact ⟨⟨#[97, 100, 100]⟩, ⟨#[98, 99]⟩, ⟨#[97]⟩, fun w => by kernel_rfl⟩
  | 4, _ => exact ⟨⟨#[115, 117, 98]⟩, ⟨#[98, 99]⟩, ⟨#[97]⟩, fun w => by kernel_rfl⟩
  | 5, _ => exact ⟨⟨#[109, 117, 108]⟩, ⟨#[98, 99]⟩, ⟨#[97]⟩, fun w => by kernel_rfl⟩
  | 6, _ => exact ⟨⟨#[97, 110, 100]⟩, ⟨#[98, 99]⟩, ⟨#[97]⟩, fun w => by kernel_rfl⟩
  | 7, _ => exact ⟨⟨#[111, 114]⟩, ⟨#[98, 99]⟩, ⟨#[97]⟩, fun w => by kernel_rfl⟩
  | 8, _ => exact ⟨⟨#[120, 111, 114]⟩, ⟨#[98, 99]⟩, ⟨#[97]⟩, fun w => by kernel_rfl⟩
  | 9, _ => exact ⟨⟨#[108, 101, 115, 115]⟩, ⟨#[98, 99]⟩, ⟨#[97]⟩, fun w => by kernel_rfl⟩
  | 10, _ => exact ⟨⟨#[101, 113, 117, 97, 108]⟩, ⟨#[98, 99]⟩, ⟨#[97]⟩, fun w => by kernel_rfl⟩
  | 11, _ => exact ⟨⟨#[108, 111, 97, 100]⟩, ⟨#[98]⟩, ⟨#[97]⟩, fun w => by kernel_rfl⟩
  | 12, _ => exact ⟨⟨#[115, 116, 111, 114, 101]⟩, ⟨#[97, 98]⟩, ⟨#[]⟩, fun w => by kernel_rfl⟩
  | 13, _ => exact ⟨⟨#[99, 97, 115]⟩, ⟨#[97, 98, 99]⟩, ⟨#[97]⟩, fun w => by kernel_rfl⟩
  | 14, _ => exact ⟨⟨#[106, 117, 109, 112]⟩, ⟨#[]⟩, ⟨#[]⟩, fun w => by kernel_rfl⟩
  | 15, _ => exact ⟨⟨#[122, 101, 114, 111]⟩, ⟨#[97]⟩, ⟨#[]⟩, fun w => by kernel_rfl⟩
  | 16, _ => exact ⟨⟨#[98, 97, 99, 107]⟩, ⟨#[]⟩, ⟨#[]⟩, fun w => by kernel_rfl⟩
  | 17, _ => exact ⟨⟨#[114, 101, 97, 100]⟩, ⟨#[]⟩, ⟨#[97]⟩, fun w => by kernel_rfl⟩
  | 18, _ => exact ⟨⟨#[119, 114, 105, 116, 101]⟩, ⟨#[]⟩, ⟨#[97]⟩, fun w => by kernel_rfl⟩
  | 19, _ => exact ⟨⟨#[112, 117, 116]⟩, ⟨#[]⟩, ⟨#[97]⟩, fun w => by kernel_rfl⟩
  | 20, _ => exact ⟨⟨#[116, 97, 107, 101]⟩, ⟨#[]⟩, ⟨#[97]⟩, fun w => by kernel_rfl⟩
  | 21, _ => exact ⟨⟨#[100, 111, 110, 101]⟩, ⟨#[]⟩, ⟨#[]⟩, fun w => by kernel_rfl⟩
  | n + 22, h => exact absurd h (by omega)
theorem shape_ix (op : Int) (h : 0 ≤ op ∧ op < 22) : ∃ s1 s2 s3 : ByteArray, ∀ w : World, (Instr.index 165 (.agg shapesV) (.int .i64 op)).run Try.prog w = .ok (.agg #[.string s1, .int .i64 (kindsOf op).1, .int .i64 (kindsOf op).2.1, .int .i64 (kindsOf op).2.2.1, .int .i64 (kindsOf op).2.2.2, .string s2, .string s3]) w := by
  obtain ⟨k, rfl⟩ := Int.eq_ofNat_of_zero_le h.1
  exact shape_at k (by omega)


theorem known_any (op : Int) (B : Bool) (w : World) (hB : decide (0 ≤ op ∧ op < 22) = B) : Calls Try.prog 122 #[.int .i64 op] w fun e w' => e = .returned (.bool B) ∧ w = w' := by
  subst hB
  by_cases h1 : 0 ≤ op
  · by_cases h2 : op < 22
    all_goals
      go_enter Try.func122, Try.ntmps122
      go_wp2
      go_ret
      exact ⟨rbool (by simp [h1, h2]), rfl⟩
  · go_enter Try.func122, Try.ntmps122
    go_wp2
    go_ret
    exact ⟨rbool (by simp [h1]; try omega), rfl⟩
set_option maxHeartbeats 1000000 in
theorem fits_any (k n : Int) (w : World) : Calls Try.prog 124 #[.int .i64 k, .int .i64 n] w fun e w' => e = .returned (.bool (fitsB k n)) ∧ w = w' := by
  go_enter Try.func124, Try.ntmps124
  go_wp2
  all_goals
    go_ret
    exact ⟨rbool (by simp_all [fitsB]; try omega), rfl⟩
/-- The same, in the order of the program. -/
theorem rightI_no {x : Instr} (h : ¬ (0 ≤ x.op ∧ x.op < 22)) : rightI x = false := by simp [rightI]; intro h1 h2; exact absurd ⟨h1, h2⟩ h
theorem rightI_yes {x : Instr} (h : 0 ≤ x.op ∧ x.op < 22) : rightI x = (fitsB (kindsOf x.op).1 x.a && (fitsB (kindsOf x.op).2.1 x.b && (fitsB (kindsOf x.op).2.2.1 x.c && fitsB (kindsOf x.op).2.2.2 x.n))) := by simp [rightI, h.1, h.2]
set_option maxHeartbeats 4000000 in
theorem right_any (x : Instr) (w : World) (hx : x.ok) : Calls Try.prog 103 #[instrV x] w fun e w' => e = .returned (.bool (rightI x)) ∧ Below w.heap.size w w' := by
  by_cases h : 0 ≤ x.op ∧ x.op < 22
  · rw [rightI_yes h]
    obtain ⟨s1, s2, s3, hix⟩ := shape_ix x.op h
    have hn := Go.bounds_u32 hx.2.2.2.2
    obtain ⟨hn1, hn2⟩ := hn
    generalize (kindsOf x.op).1 = k1 at *
    generalize (kindsOf x.op).2.1 = k2 at *
    generalize (kindsOf x.op).2.2.1 = k3 at *
    generalize (kindsOf x.op).2.2.2 = k4 at *
    go_enter Try.func103, Try.ntmps103
    go_wp2_with (go_at_call 122; refine (known_any _ true _ (by simpa using h)).mono ?_; rintro e w' ⟨rfl, rfl⟩)
    obtain ⟨w1, hw1⟩ : ∃ z, z = w.alloc (.cells #[.int .i64 x.op, .int .i64 x.a, .int .i64 x.b, .int .i64 x.c, .int .u32 x.n] 49) := ⟨_, rfl⟩
    have f1_0 : w1.cell? ⟨w.heap.size, 0, none⟩ = some (.int .i64 x.op) := by rw [hw1, World.cell?_alloc_at _ _ _ _ rfl]; rfl
    have f1_1 : w1.cell? ⟨w.heap.size, 1, none⟩ = some (.int .i64 x.a) := by rw [hw1, World.cell?_alloc_at _ _ _ _ rfl]; rfl
    have f1_2 : w1.cell? ⟨w.heap.size, 2, none⟩ = some (.int .i64 x.b) := by rw [hw1, World.cell?_alloc_at _ _ _ _ rfl]; rfl
    have f1_3 : w1.cell? ⟨w.heap.size, 3, none⟩ = some (.int .i64 x.c) := by rw [hw1, World.cell?_alloc_at _ _ _ _ rfl]; rfl
    have f1_4 : w1.cell? ⟨w.heap.size, 4, none⟩ = some (.int .u32 x.n) := by rw [hw1, World.cell?_alloc_at _ _ _ _ rfl]; rfl
    rw [← hw1]
    have hne : ∀ (W : World) (v : Value) (i j : Nat), i ≠ j → (W.setCell ⟨w1.heap.size, i, none⟩ v).cell? ⟨w1.heap.size, j, none⟩ = W.cell? ⟨w1.heap.size, j, none⟩ := fun W v i j h => World.cell?_setCell_other _ _ _ _ (by simp [h])
    have HB01 := hide (show Below w.heap.size w w1 by rw [hw1]; exact (Below.refl _ _).alloc (Nat.le_refl _) _)
    have MK1 := hide (show ∀ W, Below w1.heap.size w1 W → (W.cell? ⟨w.heap.size, 0, none⟩ = some (.int .i64 x.op) ∧ W.cell? ⟨w.heap.size, 1, none⟩ = some (.int .i64 x.a) ∧ W.cell? ⟨w.heap.size, 2, none⟩ = some (.int .i64 x.b) ∧ W.cell? ⟨w.heap.size, 3, none⟩ = some (.int .i64 x.c) ∧ W.cell? ⟨w.heap.size, 4, none⟩ = some (.int .u32 x.n) ∧ Below w1.heap.size w1 W) from fun W hb => ⟨Ext.below hb _ _ f1_0, Ext.below hb _ _ f1_1, Ext.below hb _ _ f1_2, Ext.below hb _ _ f1_3, Ext.below hb _ _ f1_4, hb⟩)
    have PR1 := hide (show ∀ W, (W.cell? ⟨w.heap.size, 0, none⟩ = some (.int .i64 x.op) ∧ W.cell? ⟨w.heap.size, 1, none⟩ = some (.int .i64 x.a) ∧ W.cell? ⟨w.heap.size, 2, none⟩ = some (.int .i64 x.b) ∧ W.cell? ⟨w.heap.size, 3, none⟩ = some (.int .i64 x.c) ∧ W.cell? ⟨w.heap.size, 4, none⟩ = some (.int .u32 x.n) ∧ Below w1.heap.size w1 W) → Below w1.heap.size w1 W from fun W h => h.2.2.2.2.2)
    have hb01 : Below w1.heap.size w1 w1 := Below.refl _ _
    clear hw1 f1_0 f1_1 f1_2 f1_3 f1_4
    go_region_held3 (fun W => W.cell? ⟨w.heap.size, 0, none⟩ = some (.int .i64 x.op) ∧ W.cell? ⟨w.heap.size, 1, none⟩ = some (.int .i64 x.a) ∧ W.cell? ⟨w.heap.size, 2, none⟩ = some (.int .i64 x.b) ∧ W.cell? ⟨w.heap.size, 3, none⟩ = some (.int .i64 x.c) ∧ W.cell? ⟨w.heap.size, 4, none⟩ = some (.int .u32 x.n) ∧ Below w1.heap.size w1 W) (first | exact MK1.out _ (by with_reducible assumption) | exact MK1.out _ (by with_reducible exact Below.drew (by assumption)) | exact MK1.out _ (by with_reducible (repeat (first | assumption | apply Below.drew | apply belowAl | (refine Below.setCell ?_ (by first | exact Nat.le_refl _ | exact Below.size (by assumption)) _)))))
      (first
        | (go_at_call 123; with_reducible (refine Calls.mono (shapes_any _) ?_); rintro e w' ⟨rfl, hb⟩; have hB : Below w1.heap.size w1 w' := Below.trans (PR1.out _ (by assumption)) (hb.mono (Below.size (PR1.out _ (by assumption)))); try have hg := new76 hb))
    go_goals
    go_wp2_with (first
      | (go_at_call 124; refine (fits_any _ _ _).mono ?_; rintro e w' ⟨rfl, rfl⟩))
    all_goals
      go_ret
      refine ⟨by simp_all, ?_⟩
      have hT : ∀ W, Below w1.heap.size w1 W → Below w.heap.size w W := fun W h => Below.trans HB01.out (h.mono HB01.out.size)
      refine hT _ ?_
      with_reducible (repeat (first | assumption | apply Below.drew | apply belowAl | (refine Below.setCell ?_ (by first | exact Nat.le_refl _ | exact Below.size (by assumption)) _)))
  · rw [rightI_no h]
    go_enter Try.func103, Try.ntmps103
    go_wp2_with (go_at_call 122; refine (known_any _ false _ (by simpa using h)).mono ?_; rintro e w' ⟨rfl, rfl⟩)
    go_ret
    exact ⟨rfl, (Below.refl _ _).alloc (Nat.le_refl _) _⟩
end Go.Proofs.Ytffciebjpiljgaa
namespace Go.Proofs.Ytffciebjpiljgaa
set_option linter.unusedSimpArgs false
set_option linter.unusedVariables false
set_option maxRecDepth 100000
open Go.RowKit

theorem target_k4 {op : Int} (h : 0 ≤ op ∧ op < 22) : decide ((kindsOf op).2.2.2 = 4) = decide (14 ≤ op ∧ op ≤ 16) := by
  obtain ⟨k, rfl⟩ := Int.eq_ofNat_of_zero_le h.1
  have hk : k < 22 := by omega
  revert hk; clear h; intro hk
  match k, hk with
  | 0, _ => rfl
  | 1, _ => rfl
  | 2, _ => rfl
  | 3, _ => rfl
  | 4, _ => rfl
  | 5, _ => rfl
  | 6, _ => rfl
  | 7, _ => rfl
  | 8, _ => rfl
  | 9, _ => rfl
  | 10, _ => rfl
  | 11, _ => rfl
  | 12, _ => rfl
  | 13, _ => rfl
  | 14, _ => rfl
  | 15, _ => rfl
  | 16, _ => rfl
  | 17, _ => rfl
  | 18, _ => rfl
  | 19, _ => rfl
  | 20, _ => rfl
  | 21, _ => rfl
  | n + 22, h => exact absurd h (by omega)
def tgtI (x : Instr) : Int := if leadsI x then x.n else 0
set_option maxHeartbeats 4000000 in
theorem target_any (x : Instr) (w : World) (hx : x.ok) : Calls Try.prog 110 #[instrV x] w fun e w' => e = .returned (.tuple #[.int .i64 (tgtI x), .bool (leadsI x)]) ∧ Below w.heap.size w w' := by
  obtain ⟨hn1, hn2⟩ := Go.bounds_u32 hx.2.2.2.2
  by_cases hr : rightI x = true
  · have h : 0 ≤ x.op ∧ x.op < 22 := by simp [rightI] at hr; exact hr.1
    obtain ⟨s1, s2, s3, hix⟩ := shape_ix x.op h
    have h4 := target_k4 h
    have cR : Hid (∀ w0, Calls Try.prog 103 #[instrV x] w0 fun e w' => e = .returned (.bool true) ∧ Below w0.heap.size w0 w') := hide (fun w0 => by have := right_any x w0 hx; rwa [hr] at this)
    have htL : ((kindsOf x.op).2.2.2 = 4) → leadsI x = true ∧ tgtI x = x.n := fun e => by
      have : leadsI x = true := by rw [leadsI, hr, ← h4, e]; rfl
      exact ⟨this, by rw [tgtI, this]; rfl⟩
    have htN : ¬ ((kindsOf x.op).2.2.2 = 4) → leadsI x = false ∧ tgtI x = 0 := fun e => by
      have : leadsI x = false := by rw [leadsI, hr, ← h4, decide_eq_false e]; rfl
      exact ⟨this, by rw [tgtI, this]; rfl⟩
    have htL := hide htL
    have htN := hide htN
    clear h4 hr
    generalize (kindsOf x.op).1 = k1 at *
    generalize (kindsOf x.op).2.1 = k2 at *
    generalize (kindsOf x.op).2.2.1 = k3 at *
    generalize (kindsOf x.op).2.2.2 = k4 at *
    have hf : ∀ W, (Instr.field 164 (.agg #[.string s1, .int .i64 k1, .int .i64 k2, .int .i64 k3, .int .i64 k4, .string s2, .string s3]) 4).run Try.prog W = .ok (.int .i64 k4) W := fun W => by kernel_rfl
    by_cases hk : k4 = 4
    · obtain ⟨e1, e2⟩ := htL.out hk
      rw [e1, e2]
      clear htL htN e1 e2
      subst hk
      go_enter Try.func110, Try.ntmps110
      go_wp2_with fail
      obtain ⟨w1, hw1⟩ : ∃ z, z = w.alloc (.cells #[.int .i64 x.op, .int .i64 x.a, .int .i64 x.b, .int .i64 x.c, .int .u32 x.n] 49) := ⟨_, rfl⟩
      have f1_0 : w1.cell? ⟨w.heap.size, 0, none⟩ = some (.int .i64 x.op) := by rw [hw1, World.cell?_alloc_at _ _ _ _ rfl]; rfl
      have f1_1 : w1.cell? ⟨w.heap.size, 1, none⟩ = some (.int .i64 x.a) := by rw [hw1, World.cell?_alloc_at _ _ _ _ rfl]; rfl
      have f1_2 : w1.cell? ⟨w.heap.size, 2, none⟩ = some (.int .i64 x.b) := by rw [hw1, World.cell?_alloc_at _ _ _ _ rfl]; rfl
      have f1_3 : w1.cell? ⟨w.heap.size, 3, none⟩ = some (.int .i64 x.c) := by rw [hw1, World.cell?_alloc_at _ _ _ _ rfl]; rfl
      have f1_4 : w1.cell? ⟨w.heap.size, 4, none⟩ = some (.int .u32 x.n) := by rw [hw1, World.cell?_alloc_at _ _ _ _ rfl]; rfl
      rw [← hw1]
      have HB01 := hide (show Below w.heap.size w w1 by rw [hw1]; exact (Below.refl _ _).alloc (Nat.le_refl _) _)
      have MK1 := hide (show ∀ W, Below w1.heap.size w1 W → (W.cell? ⟨w.heap.size, 0, none⟩ = some (.int .i64 x.op) ∧ W.cell? ⟨w.heap.size, 1, none⟩ = some (.int .i64 x.a) ∧ W.cell? ⟨w.heap.size, 2, none⟩ = some (.int .i64 x.b) ∧ W.cell? ⟨w.heap.size, 3, none⟩ = some (.int .i64 x.c) ∧ W.cell? ⟨w.heap.size, 4, none⟩ = some (.int .u32 x.n) ∧ Below w1.heap.size w1 W) from fun W hb => ⟨Ext.below hb _ _ f1_0, Ext.below hb _ _ f1_1, Ext.below hb _ _ f1_2, Ext.below hb _ _ f1_3, Ext.below hb _ _ f1_4, hb⟩)
      have PR1 := hide (show ∀ W, (W.cell? ⟨w.heap.size, 0, none⟩ = some (.int .i64 x.op) ∧ W.cell? ⟨w.heap.size, 1, none⟩ = some (.int .i64 x.a) ∧ W.cell? ⟨w.heap.size, 2, none⟩ = some (.int .i64 x.b) ∧ W.cell? ⟨w.heap.size, 3, none⟩ = some (.int .i64 x.c) ∧ W.cell? ⟨w.heap.size, 4, none⟩ = some (.int .u32 x.n) ∧ Below w1.heap.size w1 W) → Below w1.heap.size w1 W from fun W h => h.2.2.2.2.2)
      have hb01 : Below w1.heap.size w1 w1 := Below.refl _ _
      clear hw1 f1_0 f1_1 f1_2 f1_3 f1_4
      go_region_held3 (fun W => W.cell? ⟨w.heap.size, 0, none⟩ = some (.int .i64 x.op) ∧ W.cell? ⟨w.heap.size, 1, none⟩ = some (.int .i64 x.a) ∧ W.cell? ⟨w.heap.size, 2, none⟩ = some (.int .i64 x.b) ∧ W.cell? ⟨w.heap.size, 3, none⟩ = some (.int .i64 x.c) ∧ W.cell? ⟨w.heap.size, 4, none⟩ = some (.int .u32 x.n) ∧ Below w1.heap.size w1 W) (first | exact MK1.out _ (by with_reducible assumption) | exact MK1.out _ (by with_reducible exact Below.drew (by assumption)))
        (first
          | (go_at_call 103; with_reducible (refine Calls.mono (cR.out _) ?_); rintro e w' ⟨rfl, hb⟩; have hB : Below w1.heap.size w1 w' := Below.trans (PR1.out _ (by assumption)) (hb.mono (Below.size (PR1.out _ (by assumption)))))
          | (go_at_call 123; with_reducible (refine Calls.mono (shapes_any _) ?_); rintro e w' ⟨rfl, hb⟩; have hB : Below w1.heap.size w1 w' := Below.trans (PR1.out _ (by assumption)) (hb.mono (Below.size (PR1.out _ (by assumption))))))
      all_goals
        go_wp2
        go_ret2
        have hT : ∀ W, Below w1.heap.size w1 W → Below w.heap.size w W := fun W h => Below.trans HB01.out (h.mono HB01.out.size)
        exact ⟨rfl, hT _ (by first | (with_reducible assumption) | (with_reducible exact Below.drew (by assumption)))⟩
    · obtain ⟨e1, e2⟩ := htN.out hk
      rw [e1, e2]
      clear htL htN e1 e2
      go_enter Try.func110, Try.ntmps110
      go_wp2_with fail
      obtain ⟨w1, hw1⟩ : ∃ z, z = w.alloc (.cells #[.int .i64 x.op, .int .i64 x.a, .int .i64 x.b, .int .i64 x.c, .int .u32 x.n] 49) := ⟨_, rfl⟩
      have f1_0 : w1.cell? ⟨w.heap.size, 0, none⟩ = some (.int .i64 x.op) := by rw [hw1, World.cell?_alloc_at _ _ _ _ rfl]; rfl
      have f1_1 : w1.cell? ⟨w.heap.size, 1, none⟩ = some (.int .i64 x.a) := by rw [hw1, World.cell?_alloc_at _ _ _ _ rfl]; rfl
      have f1_2 : w1.cell? ⟨w.heap.size, 2, none⟩ = some (.int .i64 x.b) := by rw [hw1, World.cell?_alloc_at _ _ _ _ rfl]; rfl
      have f1_3 : w1.cell? ⟨w.heap.size, 3, none⟩ = some (.int .i64 x.c) := by rw [hw1, World.cell?_alloc_at _ _ _ _ rfl]; rfl
      have f1_4 : w1.cell? ⟨w.heap.size, 4, none⟩ = some (.int .u32 x.n) := by rw [hw1, World.cell?_alloc_at _ _ _ _ rfl]; rfl
      rw [← hw1]
      have HB01 := hide (show Below w.heap.size w w1 by rw [hw1]; exact (Below.refl _ _).alloc (Nat.le_refl _) _)
      have MK1 := hide (show ∀ W, Below w1.heap.size w1 W → (W.cell? ⟨w.heap.size, 0, none⟩ = some (.int .i64 x.op) ∧ W.cell? ⟨w.heap.size, 1, none⟩ = some (.int .i64 x.a) ∧ W.cell? ⟨w.heap.size, 2, none⟩ = some (.int .i64 x.b) ∧ W.cell? ⟨w.heap.size, 3, none⟩ = some (.int .i64 x.c) ∧ W.cell? ⟨w.heap.size, 4, none⟩ = some (.int .u32 x.n) ∧ Below w1.heap.size w1 W) from fun W hb => ⟨Ext.below hb _ _ f1_0, Ext.below hb _ _ f1_1, Ext.below hb _ _ f1_2, Ext.below hb _ _ f1_3, Ext.below hb _ _ f1_4, hb⟩)
      have PR1 := hide (show ∀ W, (W.cell? ⟨w.heap.size, 0, none⟩ = some (.int .i64 x.op) ∧ W.cell? ⟨w.heap.size, 1, none⟩ = some (.int .i64 x.a) ∧ W.cell? ⟨w.heap.size, 2, none⟩ = some (.int .i64 x.b) ∧ W.cell? ⟨w.heap.size, 3, none⟩ = some (.int .i64 x.c) ∧ W.cell? ⟨w.heap.size, 4, none⟩ = some (.int .u32 x.n) ∧ Below w1.heap.size w1 W) → Below w1.heap.size w1 W from fun W h => h.2.2.2.2.2)
      have hb01 : Below w1.heap.size w1 w1 := Below.refl _ _
      clear hw1 f1_0 f1_1 f1_2 f1_3 f1_4
      go_region_held3 (fun W => W.cell? ⟨w.heap.size, 0, none⟩ = some (.int .i64 x.op) ∧ W.cell? ⟨w.heap.size, 1, none⟩ = some (.int .i64 x.a) ∧ W.cell? ⟨w.heap.size, 2, none⟩ = some (.int .i64 x.b) ∧ W.cell? ⟨w.heap.size, 3, none⟩ = some (.int .i64 x.c) ∧ W.cell? ⟨w.heap.size, 4, none⟩ = some (.int .u32 x.n) ∧ Below w1.heap.size w1 W) (first | exact MK1.out _ (by with_reducible assumption) | exact MK1.out _ (by with_reducible exact Below.drew (by assumption)))
        (first
          | (go_at_call 103; with_reducible (refine Calls.mono (cR.out _) ?_); rintro e w' ⟨rfl, hb⟩; have hB : Below w1.heap.size w1 w' := Below.trans (PR1.out _ (by assumption)) (hb.mono (Below.size (PR1.out _ (by assumption)))))
          | (go_at_call 123; with_reducible (refine Calls.mono (shapes_any _) ?_); rintro e w' ⟨rfl, hb⟩; have hB : Below w1.heap.size w1 w' := Below.trans (PR1.out _ (by assumption)) (hb.mono (Below.size (PR1.out _ (by assumption))))))
      all_goals
        go_wp2
        go_ret2
        have hT : ∀ W, Below w1.heap.size w1 W → Below w.heap.size w W := fun W h => Below.trans HB01.out (h.mono HB01.out.size)
        exact ⟨rfl, hT _ (by first | (with_reducible assumption) | (with_reducible exact Below.drew (by assumption)))⟩
  · have hr : rightI x = false := by simpa using hr
    have e1 : leadsI x = false := by rw [leadsI, hr]; rfl
    have e2 : tgtI x = 0 := by rw [tgtI, e1]; rfl
    rw [e1, e2]
    have cR : Hid (∀ w0, Calls Try.prog 103 #[instrV x] w0 fun e w' => e = .returned (.bool false) ∧ Below w0.heap.size w0 w') := hide (fun w0 => by have := right_any x w0 hx; rwa [hr] at this)
    go_enter Try.func110, Try.ntmps110
    go_wp2_with fail
    first
      | go_region_with (go_at_call 103; refine (cR.out _).mono ?_; rintro e w' ⟨rfl, hb⟩)
      | fail
    all_goals
      go_wp2
      go_ret2
      refine ⟨rfl, ?_⟩
      have HB := (Below.refl w.heap.size w).alloc (Nat.le_refl _) (.cells #[.int .i64 x.op, .int .i64 x.a, .int .i64 x.b, .int .i64 x.c, .int .u32 x.n] 49)
      first
        | exact Below.trans HB ((by assumption : Below _ _ _).mono HB.size)
        | exact Below.trans HB.drew ((by assumption : Below _ _ _).mono HB.size)
        | exact Below.trans HB.drew.drew ((by assumption : Below _ _ _).mono HB.size)
        | exact (Below.trans HB ((by assumption : Below _ _ _).mono HB.size)).drew
        | exact (Below.trans HB.drew ((by assumption : Below _ _ _).mono HB.size)).drew
end Go.Proofs.Ytffciebjpiljgaa
namespace Go.Proofs.Ytffciebjpiljgaa
set_option linter.unusedSimpArgs false
set_option linter.unusedVariables false
set_option maxRecDepth 100000
open Go.RowKit

end Go.Proofs.Ytffciebjpiljgaa
namespace Go.Proofs.Ytffciebjpiljgaa
set_option linter.unusedSimpArgs false
set_option linter.unusedVariables false
set_option maxRecDepth 100000
open Go.RowKit
theorem fn_of_calls {P : Program} {f : FuncId} {args : List AV} {r : AV} (he : Entered P f) (hp : ∀ (σ : Sig) (ι : Nat → Value) (w : World) (vs : List Value), L2 (VR σ ι) args vs → ∃ u, (∀ σ', VR0 σ' r u) ∧ Calls P f vs.toArray w fun e w' => e = .returned u ∧ Below w.heap.size w w') : Fn P f args r :=
  ⟨he, fun σ ι w vs hsub hv => by
    obtain ⟨u, h1, h2⟩ := hp σ ι w vs hv
    refine h2.mono fun e w' ⟨h3, h4⟩ => ⟨u, σ, h3, h1 σ, ?_⟩
    have hcell : ∀ a v, σ a = some v → w'.cell? a = some v := fun a v ha => by
      have hb := World.block_lt_of_cell? w a (hsub a v ha)
      rw [h4.cell hb]; exact hsub a v ha
    exact ⟨h4.os, h4.tape, h4.output, h4.size, fun b hb _ => h4.block b hb, fun _ _ => rfl, hcell, fun i c hc => (by cases hc), fun i c hc => (by cases hc), fun i j c d hc => (by cases hc), fun p hp => (by cases hp), fun p hp => (by cases hp), fun p hp => (by cases hp)⟩⟩
end Go.Proofs.Ytffciebjpiljgaa
namespace Go.Proofs.Ytffciebjpiljgaa
set_option linter.unusedSimpArgs false
set_option linter.unusedVariables false
set_option maxRecDepth 100000
open Go.RowKit
theorem instr_arg {σ : Sig} {ι : Nat → Value} {x : Instr} {vs : List Value} (h : L2 (VR σ ι) [.agg (eInstr x)] vs) : vs = [instrV x] ∧ x.ok := by
  obtain ⟨v, ys, rfl, h1, h2⟩ := h.cons_inv
  rw [L2.nil_iff] at h2
  subst h2
  obtain ⟨us, rfl, h3⟩ := h1.agg_inv
  have hx := ex_Instr σ ι x us h3
  refine ⟨by rw [hx]; rfl, ?_⟩
  obtain ⟨_, _, _, r0, h3⟩ := L2.cons_inv h3
  obtain ⟨_, _, _, r1, h3⟩ := L2.cons_inv h3
  obtain ⟨_, _, _, r2, h3⟩ := L2.cons_inv h3
  obtain ⟨_, _, _, r3, h3⟩ := L2.cons_inv h3
  obtain ⟨_, _, _, r4, h3⟩ := L2.cons_inv h3
  exact ⟨rangeP_wf.1 r0.int_inv.2, rangeP_wf.1 r1.int_inv.2, rangeP_wf.1 r2.int_inv.2, rangeP_wf.1 r3.int_inv.2, rangeP_wf.1 r4.int_inv.2⟩
theorem right_fn (x : Instr) : Fn Try.prog 103 [.agg (eInstr x)] (.bool (rightI x)) :=
  fn_of_calls (entered_of (by kernel_rfl)) fun σ ι w vs hv => by
    obtain ⟨rfl, hx⟩ := instr_arg hv
    exact ⟨.bool (rightI x), fun _ => .bool _, right_any x w hx⟩
theorem target_fn (x : Instr) (h : 0 ≤ x.n ∧ x.n ≤ 4294967295) : Fn Try.prog 110 [.agg (eInstr x)] (.tup [.int .i64 (tgtI x), .bool (leadsI x)]) :=
  fn_of_calls (entered_of (by kernel_rfl)) fun σ ι w vs hv => by
    obtain ⟨rfl, hx⟩ := instr_arg hv
    refine ⟨.tuple #[.int .i64 (tgtI x), .bool (leadsI x)], fun σ' => .tup _ [_, _] rfl (((L2.nil _).cons (.bool _)).cons (.int _ _ ?_)).2, target_any x w hx⟩
    simp only [rangeP, tgtI]; split <;> omega
end Go.Proofs.Ytffciebjpiljgaa
