/- The struct Job: its cells, and how they are read; no condition. -/
import Derived.Test.YtfjoaeghnfkdlaaRep
import Derived.WalkKit
namespace Go.Proofs.Ytfjoaeghnfkdlaa
set_option linter.unusedSimpArgs false
set_option linter.unusedVariables false
set_option maxRecDepth 100000
open Go.RowKit Go.ChangeShapes Go.WideShapes

structure Job where
  task : Int
  no : Int
  release : Int
  deadline : Int
  start : Int
  fin : Int
  steps : Int
  missed : Bool
instance : Inhabited Job := ⟨⟨0, 0, 0, 0, 0, 0, 0, false⟩⟩
theorem Job.ext_ {x y : Job} (h : x.task = y.task ∧ x.no = y.no ∧ x.release = y.release ∧ x.deadline = y.deadline ∧ x.start = y.start ∧ x.fin = y.fin ∧ x.steps = y.steps ∧ x.missed = y.missed) : x = y := by cases x; cases y; simp_all
instance : DecidableEq Job := fun x y => decidable_of_iff (x.task = y.task ∧ x.no = y.no ∧ x.release = y.release ∧ x.deadline = y.deadline ∧ x.start = y.start ∧ x.fin = y.fin ∧ x.steps = y.steps ∧ x.missed = y.missed) ⟨Job.ext_, fun h => by subst h; simp⟩
def Job.cells (x : Job) : List Value := [.int .i64 x.task, .int .i64 x.no, .int .i64 x.release, .int .i64 x.deadline, .int .i64 x.start, .int .i64 x.fin, .int .i64 x.steps, .bool x.missed]
def Job.ok (x : Job) : Prop := (Lit.int .i64 x.task).wf = true ∧ (Lit.int .i64 x.no).wf = true ∧ (Lit.int .i64 x.release).wf = true ∧ (Lit.int .i64 x.deadline).wf = true ∧ (Lit.int .i64 x.start).wf = true ∧ (Lit.int .i64 x.fin).wf = true ∧ (Lit.int .i64 x.steps).wf = true
def Job.cod : Cod Job := fun _ cs x => cs = x.cells ∧ x.ok
theorem Job.mono : Mono Job.cod := fun _ _ _ _ _ h => h
theorem Job.size {w : World} {cs : List Value} {x : Job} (h : Job.cod w cs x) : cs.length = 8 := by rw [h.1]; rfl
/-- The cells of an element. -/
theorem Job.at {w : World} {b off : Nat} {xs : List Job} (h : Row' Job.cod 8 w b off xs) (i : Nat) (hi : i < xs.length) :
    w.cell? ⟨b, off + i * 8, none⟩ = some (.int .i64 xs[i].task) ∧ w.cell? ⟨b, off + i * 8 + 1, none⟩ = some (.int .i64 xs[i].no) ∧ w.cell? ⟨b, off + i * 8 + 2, none⟩ = some (.int .i64 xs[i].release) ∧ w.cell? ⟨b, off + i * 8 + 3, none⟩ = some (.int .i64 xs[i].deadline) ∧ w.cell? ⟨b, off + i * 8 + 4, none⟩ = some (.int .i64 xs[i].start) ∧ w.cell? ⟨b, off + i * 8 + 5, none⟩ = some (.int .i64 xs[i].fin) ∧ w.cell? ⟨b, off + i * 8 + 6, none⟩ = some (.int .i64 xs[i].steps) ∧ w.cell? ⟨b, off + i * 8 + 7, none⟩ = some (.bool xs[i].missed) ∧ xs[i].ok := by
  obtain ⟨cs, hx, _, hc⟩ := h i xs[i] (List.getElem?_eq_getElem hi)
  obtain ⟨rfl, hk⟩ := hx
  exact ⟨hc 0 _ rfl, hc 1 _ rfl, hc 2 _ rfl, hc 3 _ rfl, hc 4 _ rfl, hc 5 _ rfl, hc 6 _ rfl, hc 7 _ rfl, hk⟩
/-- From the row's reading. -/
theorem Job.opens : Opens Try.prog 74 Job.cod := by
  intro H enc w base spare held fuel cs x h
  obtain ⟨xs, n, _, _, hlen, hxl, hf⟩ := DataW.trod_struct Try.underlying74 h
  have hxl' : xs.length = 8 := hxl
  have hl' : cs.length = 8 := hlen.trans (by kernel_rfl)
  have f0 := (hf 0 _ rfl).trans (List.getElem?_eq_getElem (show 0 < xs.length by omega))
  obtain ⟨v0, e0, _, w0⟩ := DataW.trod_int Try.underlying3 f0
  have g0 := takeHead e0
  have f1 := (hf 1 _ rfl).trans (List.getElem?_eq_getElem (show 1 < xs.length by omega))
  obtain ⟨v1, e1, _, w1⟩ := DataW.trod_int Try.underlying3 f1
  have g1 := takeHead e1
  have f2 := (hf 2 _ rfl).trans (List.getElem?_eq_getElem (show 2 < xs.length by omega))
  obtain ⟨v2, e2, _, w2⟩ := DataW.trod_int Try.underlying3 f2
  have g2 := takeHead e2
  have f3 := (hf 3 _ rfl).trans (List.getElem?_eq_getElem (show 3 < xs.length by omega))
  obtain ⟨v3, e3, _, w3⟩ := DataW.trod_int Try.underlying3 f3
  have g3 := takeHead e3
  have f4 := (hf 4 _ rfl).trans (List.getElem?_eq_getElem (show 4 < xs.length by omega))
  obtain ⟨v4, e4, _, w4⟩ := DataW.trod_int Try.underlying3 f4
  have g4 := takeHead e4
  have f5 := (hf 5 _ rfl).trans (List.getElem?_eq_getElem (show 5 < xs.length by omega))
  obtain ⟨v5, e5, _, w5⟩ := DataW.trod_int Try.underlying3 f5
  have g5 := takeHead e5
  have f6 := (hf 6 _ rfl).trans (List.getElem?_eq_getElem (show 6 < xs.length by omega))
  obtain ⟨v6, e6, _, w6⟩ := DataW.trod_int Try.underlying3 f6
  have g6 := takeHead e6
  have f7 := (hf 7 _ rfl).trans (List.getElem?_eq_getElem (show 7 < xs.length by omega))
  obtain ⟨v7, e7, _⟩ := DataW.trod_bool Try.underlying4 f7
  have g7 := takeHead e7
  refine ⟨⟨v0, v1, v2, v3, v4, v5, v6, v7⟩, ?_, ⟨w0, w1, w2, w3, w4, w5, w6⟩⟩
  refine list_of_cells [.int .i64 v0, .int .i64 v1, .int .i64 v2, .int .i64 v3, .int .i64 v4, .int .i64 v5, .int .i64 v6, .bool v7] hl' fun i hi => ?_
  have hi' : i < 8 := hi
  match i, hi' with
  | 0, _ => exact g0
  | 1, _ => exact g1
  | 2, _ => exact g2
  | 3, _ => exact g3
  | 4, _ => exact g4
  | 5, _ => exact g5
  | 6, _ => exact g6
  | 7, _ => exact g7
/-- Two of them, held against each other. -/
theorem Job.run_eqIn (x y : Job) (w : World) : (Op.equalIn 10000 74 (.agg #[.int .i64 x.task, .int .i64 x.no, .int .i64 x.release, .int .i64 x.deadline, .int .i64 x.start, .int .i64 x.fin, .int .i64 x.steps, .bool x.missed]) (.agg #[.int .i64 y.task, .int .i64 y.no, .int .i64 y.release, .int .i64 y.deadline, .int .i64 y.start, .int .i64 y.fin, .int .i64 y.steps, .bool y.missed])).run Try.prog w = .ok (decide (x = y)) w := by
  have hs : Try.prog.stoodInHeld 74 = false := by kernel_rfl
  rw [run_equalIn_agg w 9999 74 _ _ (by simp only [Program.fieldsOf, Try.underlying74]) hs]
  simp only [Program.fieldsOf, Try.underlying74]
  simp [go_sem]
  by_cases h : x = y
  · subst h; simp
  · rw [show decide (x = y) = false from by simp [h]]
    repeat' split
    all_goals first | rfl | exact absurd (Job.ext_ ⟨by assumption, by assumption, by assumption, by assumption, by assumption, by assumption, by assumption, by assumption⟩) h
theorem Job.run_guard (op : BinOp) (xo yo : Operand) (xs ys : Array Value) (w : World) : (eqGuard op 74 xo yo (.agg xs) (.agg ys)).run Try.prog w = .ok () w := run_eqGuard_agg w op 74 xo yo xs ys (by kernel_rfl)
end Go.Proofs.Ytfjoaeghnfkdlaa
