/- The struct Ask28: its cells, and how they are read; no condition. -/
import Derived.Test.YtnijdaidmpjccaaDoorRep
import Derived.WalkKit
namespace Go.Proofs.YtnijdaidmpjccaaDoor
set_option linter.unusedSimpArgs false
set_option linter.unusedVariables false
set_option maxRecDepth 100000
open Go.RowKit Go.ChangeShapes Go.WideShapes

structure Ask28 where
  kind : Int
  i : Int
  t : Int
instance : Inhabited Ask28 := ⟨⟨0, 0, 0⟩⟩
theorem Ask28.ext_ {x y : Ask28} (h : x.kind = y.kind ∧ x.i = y.i ∧ x.t = y.t) : x = y := by cases x; cases y; simp_all
instance : DecidableEq Ask28 := fun x y => decidable_of_iff (x.kind = y.kind ∧ x.i = y.i ∧ x.t = y.t) ⟨Ask28.ext_, fun h => by subst h; simp⟩
def Ask28.cells (x : Ask28) : List Value := [.int .i64 x.kind, .int .i64 x.i, .int .i64 x.t]
def Ask28.ok (x : Ask28) : Prop := (Lit.int .i64 x.kind).wf = true ∧ (Lit.int .i64 x.i).wf = true ∧ (Lit.int .i64 x.t).wf = true
def Ask28.cod : Cod Ask28 := fun _ cs x => cs = x.cells ∧ x.ok
theorem Ask28.mono : Mono Ask28.cod := fun _ _ _ _ _ h => h
theorem Ask28.size {w : World} {cs : List Value} {x : Ask28} (h : Ask28.cod w cs x) : cs.length = 3 := by rw [h.1]; rfl
/-- The cells of an element. -/
theorem Ask28.at {w : World} {b off : Nat} {xs : List Ask28} (h : Row' Ask28.cod 3 w b off xs) (i : Nat) (hi : i < xs.length) :
    w.cell? ⟨b, off + i * 3, none⟩ = some (.int .i64 xs[i].kind) ∧ w.cell? ⟨b, off + i * 3 + 1, none⟩ = some (.int .i64 xs[i].i) ∧ w.cell? ⟨b, off + i * 3 + 2, none⟩ = some (.int .i64 xs[i].t) ∧ xs[i].ok := by
  obtain ⟨cs, hx, _, hc⟩ := h i xs[i] (List.getElem?_eq_getElem hi)
  obtain ⟨rfl, hk⟩ := hx
  exact ⟨hc 0 _ rfl, hc 1 _ rfl, hc 2 _ rfl, hk⟩
/-- From the row's reading. -/
theorem Ask28.opens : Opens Tryd.prog 45 Ask28.cod := by
  intro H enc w base spare held fuel cs x h
  obtain ⟨xs, n, _, _, hlen, hxl, hf⟩ := DataW.trod_struct Tryd.underlying45 h
  have hxl' : xs.length = 3 := hxl
  have hl' : cs.length = 3 := hlen.trans (by kernel_rfl)
  have f0 := (hf 0 _ rfl).trans (List.getElem?_eq_getElem (show 0 < xs.length by omega))
  obtain ⟨v0, e0, _, w0⟩ := DataW.trod_int Tryd.underlying3 f0
  have g0 := takeHead e0
  have f1 := (hf 1 _ rfl).trans (List.getElem?_eq_getElem (show 1 < xs.length by omega))
  obtain ⟨v1, e1, _, w1⟩ := DataW.trod_int Tryd.underlying3 f1
  have g1 := takeHead e1
  have f2 := (hf 2 _ rfl).trans (List.getElem?_eq_getElem (show 2 < xs.length by omega))
  obtain ⟨v2, e2, _, w2⟩ := DataW.trod_int Tryd.underlying3 f2
  have g2 := takeHead e2
  refine ⟨⟨v0, v1, v2⟩, ?_, ⟨w0, w1, w2⟩⟩
  refine list_of_cells [.int .i64 v0, .int .i64 v1, .int .i64 v2] hl' fun i hi => ?_
  have hi' : i < 3 := hi
  match i, hi' with
  | 0, _ => exact g0
  | 1, _ => exact g1
  | 2, _ => exact g2
/-- Two of them, held against each other. -/
theorem Ask28.run_eqIn (x y : Ask28) (w : World) : (Op.equalIn 10000 45 (.agg #[.int .i64 x.kind, .int .i64 x.i, .int .i64 x.t]) (.agg #[.int .i64 y.kind, .int .i64 y.i, .int .i64 y.t])).run Tryd.prog w = .ok (decide (x = y)) w := by
  have hs : Tryd.prog.stoodInHeld 45 = false := by kernel_rfl
  rw [run_equalIn_agg w 9999 45 _ _ (by simp only [Program.fieldsOf, Tryd.underlying45]) hs]
  simp only [Program.fieldsOf, Tryd.underlying45]
  simp [go_sem]
  by_cases h : x = y
  · subst h; simp
  · rw [show decide (x = y) = false from by simp [h]]
    repeat' split
    all_goals first | rfl | exact absurd (Ask28.ext_ ⟨by assumption, by assumption, by assumption⟩) h
theorem Ask28.run_guard (op : BinOp) (xo yo : Operand) (xs ys : Array Value) (w : World) : (eqGuard op 45 xo yo (.agg xs) (.agg ys)).run Tryd.prog w = .ok () w := run_eqGuard_agg w op 45 xo yo xs ys (by kernel_rfl)
end Go.Proofs.YtnijdaidmpjccaaDoor
