/- The struct Instr: its cells, and how they are read; no condition. -/
import Derived.Test.YtfjoaeghnfkdlaaRep
import Derived.WalkKit
namespace Go.Proofs.Ytfjoaeghnfkdlaa
set_option linter.unusedSimpArgs false
set_option linter.unusedVariables false
set_option maxRecDepth 100000
open Go.RowKit Go.ChangeShapes Go.WideShapes

structure Instr where
  op : Int
  a : Int
  b : Int
  c : Int
  n : Int
instance : Inhabited Instr := ⟨⟨0, 0, 0, 0, 0⟩⟩
theorem Instr.ext_ {x y : Instr} (h : x.op = y.op ∧ x.a = y.a ∧ x.b = y.b ∧ x.c = y.c ∧ x.n = y.n) : x = y := by cases x; cases y; simp_all
instance : DecidableEq Instr := fun x y => decidable_of_iff (x.op = y.op ∧ x.a = y.a ∧ x.b = y.b ∧ x.c = y.c ∧ x.n = y.n) ⟨Instr.ext_, fun h => by subst h; simp⟩
def Instr.cells (x : Instr) : List Value := [.int .i64 x.op, .int .i64 x.a, .int .i64 x.b, .int .i64 x.c, .int .u32 x.n]
def Instr.ok (x : Instr) : Prop := (Lit.int .i64 x.op).wf = true ∧ (Lit.int .i64 x.a).wf = true ∧ (Lit.int .i64 x.b).wf = true ∧ (Lit.int .i64 x.c).wf = true ∧ (Lit.int .u32 x.n).wf = true
def Instr.cod : Cod Instr := fun _ cs x => cs = x.cells ∧ x.ok
theorem Instr.mono : Mono Instr.cod := fun _ _ _ _ _ h => h
theorem Instr.size {w : World} {cs : List Value} {x : Instr} (h : Instr.cod w cs x) : cs.length = 5 := by rw [h.1]; rfl
/-- The cells of an element. -/
theorem Instr.at {w : World} {b off : Nat} {xs : List Instr} (h : Row' Instr.cod 5 w b off xs) (i : Nat) (hi : i < xs.length) :
    w.cell? ⟨b, off + i * 5, none⟩ = some (.int .i64 xs[i].op) ∧ w.cell? ⟨b, off + i * 5 + 1, none⟩ = some (.int .i64 xs[i].a) ∧ w.cell? ⟨b, off + i * 5 + 2, none⟩ = some (.int .i64 xs[i].b) ∧ w.cell? ⟨b, off + i * 5 + 3, none⟩ = some (.int .i64 xs[i].c) ∧ w.cell? ⟨b, off + i * 5 + 4, none⟩ = some (.int .u32 xs[i].n) ∧ xs[i].ok := by
  obtain ⟨cs, hx, _, hc⟩ := h i xs[i] (List.getElem?_eq_getElem hi)
  obtain ⟨rfl, hk⟩ := hx
  exact ⟨hc 0 _ rfl, hc 1 _ rfl, hc 2 _ rfl, hc 3 _ rfl, hc 4 _ rfl, hk⟩
/-- From the row's reading. -/
theorem Instr.opens : Opens Try.prog 194 Instr.cod := by
  intro H enc w base spare held fuel cs x h
  obtain ⟨xs, n, _, _, hlen, hxl, hf⟩ := DataW.trod_struct Try.underlying194 h
  have hxl' : xs.length = 5 := hxl
  have hl' : cs.length = 5 := hlen.trans (by kernel_rfl)
  have f0 := (hf 0 _ rfl).trans (List.getElem?_eq_getElem (show 0 < xs.length by omega))
  obtain ⟨v0, e0, _, w0⟩ := DataW.trod_int Try.underlying3 f0
  have g0 := takeHead e0
  have f1 := (hf 1 _ rfl).trans (List.getElem?_eq_getElem (show 1 < xs.length by omega))
  obtain ⟨v1, e1, _, w1⟩ := DataW.trod_int Try.underlying3 f1
  have g1 := takeHead e1
  have f2 := (hf 2 _ rfl).trans (List.getElem?_eq_getElem (show 2 < xs.length by omega))
  obtain ⟨v2, e2, _, w2⟩ := DataW.trod_int Try.underlying3 f2
  have g2 := takeHead e2
  have f3 := (hf 3 _ rfl).trans (List.getElem?_eq_getElem (show 3 < xs.length by omega))
  obtain ⟨v3, e3, _, w3⟩ := DataW.trod_int Try.underlying3 f3
  have g3 := takeHead e3
  have f4 := (hf 4 _ rfl).trans (List.getElem?_eq_getElem (show 4 < xs.length by omega))
  obtain ⟨v4, e4, _, w4⟩ := DataW.trod_int Try.underlying150 f4
  have g4 := takeHead e4
  refine ⟨⟨v0, v1, v2, v3, v4⟩, ?_, ⟨w0, w1, w2, w3, w4⟩⟩
  refine list_of_cells [.int .i64 v0, .int .i64 v1, .int .i64 v2, .int .i64 v3, .int .u32 v4] hl' fun i hi => ?_
  have hi' : i < 5 := hi
  match i, hi' with
  | 0, _ => exact g0
  | 1, _ => exact g1
  | 2, _ => exact g2
  | 3, _ => exact g3
  | 4, _ => exact g4
/-- Two of them, held against each other. -/
theorem Instr.run_eqIn (x y : Instr) (w : World) : (Op.equalIn 10000 194 (.agg #[.int .i64 x.op, .int .i64 x.a, .int .i64 x.b, .int .i64 x.c, .int .u32 x.n]) (.agg #[.int .i64 y.op, .int .i64 y.a, .int .i64 y.b, .int .i64 y.c, .int .u32 y.n])).run Try.prog w = .ok (decide (x = y)) w := by
  have hs : Try.prog.stoodInHeld 194 = false := by kernel_rfl
  rw [run_equalIn_agg w 9999 194 _ _ (by simp only [Program.fieldsOf, Try.underlying194]) hs]
  simp only [Program.fieldsOf, Try.underlying194]
  simp [go_sem]
  by_cases h : x = y
  · subst h; simp
  · rw [show decide (x = y) = false from by simp [h]]
    repeat' split
    all_goals first | rfl | exact absurd (Instr.ext_ ⟨by assumption, by assumption, by assumption, by assumption, by assumption⟩) h
theorem Instr.run_guard (op : BinOp) (xo yo : Operand) (xs ys : Array Value) (w : World) : (eqGuard op 194 xo yo (.agg xs) (.agg ys)).run Try.prog w = .ok () w := run_eqGuard_agg w op 194 xo yo xs ys (by kernel_rfl)
end Go.Proofs.Ytfjoaeghnfkdlaa
