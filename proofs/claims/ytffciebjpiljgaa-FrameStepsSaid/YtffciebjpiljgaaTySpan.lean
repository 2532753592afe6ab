/- The struct Span: its cells, and how they are read; no condition. -/
import Derived.Test.YtffciebjpiljgaaRep
import Derived.WalkKit
namespace Go.Proofs.Ytffciebjpiljgaa
set_option linter.unusedSimpArgs false
set_option linter.unusedVariables false
set_option maxRecDepth 100000
open Go.RowKit Go.ChangeShapes Go.WideShapes

structure Span where
  frm : Int
  to : Int
instance : Inhabited Span := ⟨⟨0, 0⟩⟩
theorem Span.ext_ {x y : Span} (h : x.frm = y.frm ∧ x.to = y.to) : x = y := by cases x; cases y; simp_all
instance : DecidableEq Span := fun x y => decidable_of_iff (x.frm = y.frm ∧ x.to = y.to) ⟨Span.ext_, fun h => by subst h; simp⟩
def Span.cells (x : Span) : List Value := [.int .i64 x.frm, .int .i64 x.to]
def Span.ok (x : Span) : Prop := (Lit.int .i64 x.frm).wf = true ∧ (Lit.int .i64 x.to).wf = true
def Span.cod : Cod Span := fun _ cs x => cs = x.cells ∧ x.ok
theorem Span.mono : Mono Span.cod := fun _ _ _ _ _ h => h
theorem Span.size {w : World} {cs : List Value} {x : Span} (h : Span.cod w cs x) : cs.length = 2 := by rw [h.1]; rfl
/-- The cells of an element. -/
theorem Span.at {w : World} {b off : Nat} {xs : List Span} (h : Row' Span.cod 2 w b off xs) (i : Nat) (hi : i < xs.length) :
    w.cell? ⟨b, off + i * 2, none⟩ = some (.int .i64 xs[i].frm) ∧ w.cell? ⟨b, off + i * 2 + 1, none⟩ = some (.int .i64 xs[i].to) ∧ xs[i].ok := by
  obtain ⟨cs, hx, _, hc⟩ := h i xs[i] (List.getElem?_eq_getElem hi)
  obtain ⟨rfl, hk⟩ := hx
  exact ⟨hc 0 _ rfl, hc 1 _ rfl, hk⟩
/-- From the row's reading. -/
theorem Span.opens : Opens Try.prog 84 Span.cod := by
  intro H enc w base spare held fuel cs x h
  obtain ⟨xs, n, _, _, hlen, hxl, hf⟩ := DataW.trod_struct Try.underlying84 h
  have hxl' : xs.length = 2 := hxl
  have hl' : cs.length = 2 := hlen.trans (by kernel_rfl)
  have f0 := (hf 0 _ rfl).trans (List.getElem?_eq_getElem (show 0 < xs.length by omega))
  obtain ⟨v0, e0, _, w0⟩ := DataW.trod_int Try.underlying3 f0
  have g0 := takeHead e0
  have f1 := (hf 1 _ rfl).trans (List.getElem?_eq_getElem (show 1 < xs.length by omega))
  obtain ⟨v1, e1, _, w1⟩ := DataW.trod_int Try.underlying3 f1
  have g1 := takeHead e1
  refine ⟨⟨v0, v1⟩, ?_, ⟨w0, w1⟩⟩
  refine list_of_cells [.int .i64 v0, .int .i64 v1] hl' fun i hi => ?_
  have hi' : i < 2 := hi
  match i, hi' with
  | 0, _ => exact g0
  | 1, _ => exact g1
/-- Two of them, held against each other. -/
theorem Span.run_eqIn (x y : Span) (w : World) : (Op.equalIn 10000 84 (.agg #[.int .i64 x.frm, .int .i64 x.to]) (.agg #[.int .i64 y.frm, .int .i64 y.to])).run Try.prog w = .ok (decide (x = y)) w := by
  have hs : Try.prog.stoodInHeld 84 = false := by kernel_rfl
  rw [run_equalIn_agg w 9999 84 _ _ (by simp only [Program.fieldsOf, Try.underlying84]) hs]
  simp only [Program.fieldsOf, Try.underlying84]
  simp [go_sem]
  by_cases h : x = y
  · subst h; simp
  · rw [show decide (x = y) = false from by simp [h]]
    repeat' split
    all_goals first | rfl | exact absurd (Span.ext_ ⟨by assumption, by assumption⟩) h
theorem Span.run_guard (op : BinOp) (xo yo : Operand) (xs ys : Array Value) (w : World) : (eqGuard op 84 xo yo (.agg xs) (.agg ys)).run Try.prog w = .ok () w := run_eqGuard_agg w op 84 xo yo xs ys (by kernel_rfl)
end Go.Proofs.Ytffciebjpiljgaa
