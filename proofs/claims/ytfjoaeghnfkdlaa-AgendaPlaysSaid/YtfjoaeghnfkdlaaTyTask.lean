/- The struct Task: its cells, and how they are read; no condition. -/
import Derived.Test.YtfjoaeghnfkdlaaTyInstr
namespace Go.Proofs.Ytfjoaeghnfkdlaa
set_option linter.unusedSimpArgs false
set_option linter.unusedVariables false
set_option maxRecDepth 100000
open Go.RowKit Go.ChangeShapes Go.WideShapes

structure Task where
  kind : Int
  prio : Int
  period : Int
  offset : Int
  deadline : Int
  own : Int
  code : List Instr
instance : Inhabited Task := ⟨⟨0, 0, 0, 0, 0, 0, []⟩⟩
theorem Task.ext_ {x y : Task} (h : x.kind = y.kind ∧ x.prio = y.prio ∧ x.period = y.period ∧ x.offset = y.offset ∧ x.deadline = y.deadline ∧ x.own = y.own ∧ x.code = y.code) : x = y := by cases x; cases y; simp_all
instance : DecidableEq Task := fun x y => decidable_of_iff (x.kind = y.kind ∧ x.prio = y.prio ∧ x.period = y.period ∧ x.offset = y.offset ∧ x.deadline = y.deadline ∧ x.own = y.own ∧ x.code = y.code) ⟨Task.ext_, fun h => by subst h; simp⟩
def Task.ok (x : Task) : Prop := (Lit.int .i64 x.kind).wf = true ∧ (Lit.int .i64 x.prio).wf = true ∧ (Lit.int .i64 x.period).wf = true ∧ (Lit.int .i64 x.offset).wf = true ∧ (Lit.int .i64 x.deadline).wf = true ∧ (Lit.int .i64 x.own).wf = true
def Task.cod : Cod Task := fun w cs x => ∃ (A_code : Option Addr) (c_code : Nat), cs = [.int .i64 x.kind, .int .i64 x.prio, .int .i64 x.period, .int .i64 x.offset, .int .i64 x.deadline, .int .i64 x.own, .slice A_code x.code.length c_code] ∧ x.ok ∧ x.code.length ≤ c_code ∧ c_code ≤ maxLen ∧ Row Instr.cod 5 w A_code x.code
theorem Task.mono : Mono Task.cod := fun _ _ _ _ he ⟨A_code, c_code, h, hk, l_code, m_code, r_code⟩ => ⟨A_code, c_code, h, hk, l_code, m_code, r_code.ext Instr.mono he⟩
theorem Task.size {w : World} {cs : List Value} {x : Task} (h : Task.cod w cs x) : cs.length = 7 := by obtain ⟨A_code, c_code, h, _⟩ := h; rw [h]; rfl
/-- The cells of an element. -/
theorem Task.at {w : World} {b off : Nat} {xs : List Task} (h : Row' Task.cod 7 w b off xs) (i : Nat) (hi : i < xs.length) :
    ∃ (A_code : Option Addr) (c_code : Nat), w.cell? ⟨b, off + i * 7, none⟩ = some (.int .i64 xs[i].kind) ∧ w.cell? ⟨b, off + i * 7 + 1, none⟩ = some (.int .i64 xs[i].prio) ∧ w.cell? ⟨b, off + i * 7 + 2, none⟩ = some (.int .i64 xs[i].period) ∧ w.cell? ⟨b, off + i * 7 + 3, none⟩ = some (.int .i64 xs[i].offset) ∧ w.cell? ⟨b, off + i * 7 + 4, none⟩ = some (.int .i64 xs[i].deadline) ∧ w.cell? ⟨b, off + i * 7 + 5, none⟩ = some (.int .i64 xs[i].own) ∧ w.cell? ⟨b, off + i * 7 + 6, none⟩ = some (.slice A_code xs[i].code.length c_code) ∧ xs[i].ok ∧ xs[i].code.length ≤ c_code ∧ c_code ≤ maxLen ∧ Row Instr.cod 5 w A_code xs[i].code := by
  obtain ⟨cs, hx, _, hc⟩ := h i xs[i] (List.getElem?_eq_getElem hi)
  obtain ⟨A_code, c_code, rfl, hk, l_code, m_code, r_code⟩ := hx
  exact ⟨A_code, c_code, hc 0 _ rfl, hc 1 _ rfl, hc 2 _ rfl, hc 3 _ rfl, hc 4 _ rfl, hc 5 _ rfl, hc 6 _ rfl, hk, l_code, m_code, r_code⟩
/-- From the row's reading. -/
theorem Task.opens : Opens Try.prog 39 Task.cod := by
  intro H enc w base spare held fuel cs x h
  obtain ⟨xs, n, _, _, hlen, hxl, hf⟩ := DataW.trod_struct Try.underlying39 h
  have hxl' : xs.length = 7 := hxl
  have hl' : cs.length = 7 := hlen.trans (by kernel_rfl)
  have f0 := (hf 0 _ rfl).trans (List.getElem?_eq_getElem (show 0 < xs.length by omega))
  obtain ⟨v0, e0, _, w0⟩ := DataW.trod_int Try.underlying3 f0
  have g0 := takeHead e0
  have f1 := (hf 1 _ rfl).trans (List.getElem?_eq_getElem (show 1 < xs.length by omega))
  obtain ⟨v1, e1, _, w1⟩ := DataW.trod_int Try.underlying3 f1
  have g1 := takeHead e1
  have f2 := (hf 2 _ rfl).trans (List.getElem?_eq_getElem (show 2 < xs.length by omega))
  obtain ⟨v2, e2, _, w2⟩ := DataW.trod_int Try.underlying3 f2
  have g2 := takeHead e2
  have f3 := (hf 3 _ rfl).trans (List.getElem?_eq_getElem (show 3 < xs.length by omega))
  obtain ⟨v3, e3, _, w3⟩ := DataW.trod_int Try.underlying3 f3
  have g3 := takeHead e3
  have f4 := (hf 4 _ rfl).trans (List.getElem?_eq_getElem (show 4 < xs.length by omega))
  obtain ⟨v4, e4, _, w4⟩ := DataW.trod_int Try.underlying3 f4
  have g4 := takeHead e4
  have f5 := (hf 5 _ rfl).trans (List.getElem?_eq_getElem (show 5 < xs.length by omega))
  obtain ⟨v5, e5, _, w5⟩ := DataW.trod_int Try.underlying3 f5
  have g5 := takeHead e5
  have f6 := (hf 6 _ rfl).trans (List.getElem?_eq_getElem (show 6 < xs.length by omega))
  obtain ⟨v6, A6, c6, e6, l6, m6, r6⟩ := Opens.slice (R := Instr.cod) (k := 5) Try.underlying37 (show Try.prog.cellsOf 194 = 5 by kernel_rfl) (by decide) Instr.opens _ _ _ _ _ _ _ _ _ f6
  have g6 := takeHead e6
  refine ⟨⟨v0, v1, v2, v3, v4, v5, v6⟩, A6, c6, ?_, ⟨w0, w1, w2, w3, w4, w5⟩, l6, m6, r6⟩
  refine list_of_cells [.int .i64 v0, .int .i64 v1, .int .i64 v2, .int .i64 v3, .int .i64 v4, .int .i64 v5, .slice A6 v6.length c6] hl' fun i hi => ?_
  have hi' : i < 7 := hi
  match i, hi' with
  | 0, _ => exact g0
  | 1, _ => exact g1
  | 2, _ => exact g2
  | 3, _ => exact g3
  | 4, _ => exact g4
  | 5, _ => exact g5
  | 6, _ => exact g6
end Go.Proofs.Ytfjoaeghnfkdlaa
