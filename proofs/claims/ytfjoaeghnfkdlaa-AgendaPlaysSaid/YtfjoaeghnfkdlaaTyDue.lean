/- The struct Due: its cells, and how they are read; no condition. -/
import Derived.Test.YtfjoaeghnfkdlaaRep
import Derived.WalkKit
namespace Go.Proofs.Ytfjoaeghnfkdlaa
set_option linter.unusedSimpArgs false
set_option linter.unusedVariables false
set_option maxRecDepth 100000
open Go.RowKit Go.ChangeShapes Go.WideShapes

structure Due where
  at_ : Int
  task : Int
instance : Inhabited Due := ⟨⟨0, 0⟩⟩
theorem Due.ext_ {x y : Due} (h : x.at_ = y.at_ ∧ x.task = y.task) : x = y := by cases x; cases y; simp_all
instance : DecidableEq Due := fun x y => decidable_of_iff (x.at_ = y.at_ ∧ x.task = y.task) ⟨Due.ext_, fun h => by subst h; simp⟩
def Due.cells (x : Due) : List Value := [.int .i64 x.at_, .int .i64 x.task]
def Due.ok (x : Due) : Prop := (Lit.int .i64 x.at_).wf = true ∧ (Lit.int .i64 x.task).wf = true
def Due.cod : Cod Due := fun _ cs x => cs = x.cells ∧ x.ok
theorem Due.mono : Mono Due.cod := fun _ _ _ _ _ h => h
theorem Due.size {w : World} {cs : List Value} {x : Due} (h : Due.cod w cs x) : cs.length = 2 := by rw [h.1]; rfl
/-- The cells of an element. -/
theorem Due.at {w : World} {b off : Nat} {xs : List Due} (h : Row' Due.cod 2 w b off xs) (i : Nat) (hi : i < xs.length) :
    w.cell? ⟨b, off + i * 2, none⟩ = some (.int .i64 xs[i].at_) ∧ w.cell? ⟨b, off + i * 2 + 1, none⟩ = some (.int .i64 xs[i].task) ∧ xs[i].ok := by
  obtain ⟨cs, hx, _, hc⟩ := h i xs[i] (List.getElem?_eq_getElem hi)
  obtain ⟨rfl, hk⟩ := hx
  exact ⟨hc 0 _ rfl, hc 1 _ rfl, hk⟩
/-- From the row's reading. -/
theorem Due.opens : Opens Try.prog 41 Due.cod := by
  intro H enc w base spare held fuel cs x h
  obtain ⟨xs, n, _, _, hlen, hxl, hf⟩ := DataW.trod_struct Try.underlying41 h
  have hxl' : xs.length = 2 := hxl
  have hl' : cs.length = 2 := hlen.trans (by kernel_rfl)
  have f0 := (hf 0 _ rfl).trans (List.getElem?_eq_getElem (show 0 < xs.length by omega))
  obtain ⟨v0, e0, _, w0⟩ := DataW.trod_int Try.underlying3 f0
  have g0 := takeHead e0
  have f1 := (hf 1 _ rfl).trans (List.getElem?_eq_getElem (show 1 < xs.length by omega))
  obtain ⟨v1, e1, _, w1⟩ := DataW.trod_int Try.underlying3 f1
  have g1 := takeHead e1
  refine ⟨⟨v0, v1⟩, ?_, ⟨w0, w1⟩⟩
  refine list_of_cells [.int .i64 v0, .int .i64 v1] hl' fun i hi => ?_
  have hi' : i < 2 := hi
  match i, hi' with
  | 0, _ => exact g0
  | 1, _ => exact g1
/-- Two of them, held against each other. -/
theorem Due.run_eqIn (x y : Due) (w : World) : (Op.equalIn 10000 41 (.agg #[.int .i64 x.at_, .int .i64 x.task]) (.agg #[.int .i64 y.at_, .int .i64 y.task])).run Try.prog w = .ok (decide (x = y)) w := by
  have hs : Try.prog.stoodInHeld 41 = false := by kernel_rfl
  rw [run_equalIn_agg w 9999 41 _ _ (by simp only [Program.fieldsOf, Try.underlying41]) hs]
  simp only [Program.fieldsOf, Try.underlying41]
  simp [go_sem]
  by_cases h : x = y
  · subst h; simp
  · rw [show decide (x = y) = false from by simp [h]]
    repeat' split
    all_goals first | rfl | exact absurd (Due.ext_ ⟨by assumption, by assumption⟩) h
theorem Due.run_guard (op : BinOp) (xo yo : Operand) (xs ys : Array Value) (w : World) : (eqGuard op 41 xo yo (.agg xs) (.agg ys)).run Try.prog w = .ok () w := run_eqGuard_agg w op 41 xo yo xs ys (by kernel_rfl)
end Go.Proofs.Ytfjoaeghnfkdlaa
