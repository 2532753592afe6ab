/- The struct Call: its cells, and how they are read; no condition. -/
import Derived.Test.YthmifkibfpcncaaRep
import Derived.WalkKit
namespace Go.Proofs.Ythmifkibfpcncaa
set_option linter.unusedSimpArgs false
set_option linter.unusedVariables false
set_option maxRecDepth 100000
open Go.RowKit Go.ChangeShapes Go.WideShapes

structure Call where
  proc : Int
  object : Int
  op : Int
  rc : List Int
  code : Int
  begin_ : Int
  fin : Int
instance : Inhabited Call := ⟨⟨0, 0, 0, [], 0, 0, 0⟩⟩
theorem Call.ext_ {x y : Call} (h : x.proc = y.proc ∧ x.object = y.object ∧ x.op = y.op ∧ x.rc = y.rc ∧ x.code = y.code ∧ x.begin_ = y.begin_ ∧ x.fin = y.fin) : x = y := by cases x; cases y; simp_all
instance : DecidableEq Call := fun x y => decidable_of_iff (x.proc = y.proc ∧ x.object = y.object ∧ x.op = y.op ∧ x.rc = y.rc ∧ x.code = y.code ∧ x.begin_ = y.begin_ ∧ x.fin = y.fin) ⟨Call.ext_, fun h => by subst h; simp⟩
def Call.ok (x : Call) : Prop := (Lit.int .i64 x.proc).wf = true ∧ (Lit.int .i64 x.object).wf = true ∧ (Lit.int .i64 x.op).wf = true ∧ (Lit.int .i64 x.code).wf = true ∧ (Lit.int .i64 x.begin_).wf = true ∧ (Lit.int .i64 x.fin).wf = true
def Call.cod : Cod Call := fun w cs x => ∃ (A_rc : Option Addr) (c_rc : Nat), cs = [.int .i64 x.proc, .int .i64 x.object, .int .i64 x.op, .slice A_rc x.rc.length c_rc, .int .i64 x.code, .int .i64 x.begin_, .int .i64 x.fin] ∧ x.ok ∧ x.rc.length ≤ c_rc ∧ c_rc ≤ maxLen ∧ Row (cInt .u32) 1 w A_rc x.rc
theorem Call.mono : Mono Call.cod := fun _ _ _ _ he ⟨A_rc, c_rc, h, hk, l_rc, m_rc, r_rc⟩ => ⟨A_rc, c_rc, h, hk, l_rc, m_rc, r_rc.ext (Mono.int _) he⟩
theorem Call.size {w : World} {cs : List Value} {x : Call} (h : Call.cod w cs x) : cs.length = 7 := by obtain ⟨A_rc, c_rc, h, _⟩ := h; rw [h]; rfl
/-- The cells of an element. -/
theorem Call.at {w : World} {b off : Nat} {xs : List Call} (h : Row' Call.cod 7 w b off xs) (i : Nat) (hi : i < xs.length) :
    ∃ (A_rc : Option Addr) (c_rc : Nat), w.cell? ⟨b, off + i * 7, none⟩ = some (.int .i64 xs[i].proc) ∧ w.cell? ⟨b, off + i * 7 + 1, none⟩ = some (.int .i64 xs[i].object) ∧ w.cell? ⟨b, off + i * 7 + 2, none⟩ = some (.int .i64 xs[i].op) ∧ w.cell? ⟨b, off + i * 7 + 3, none⟩ = some (.slice A_rc xs[i].rc.length c_rc) ∧ w.cell? ⟨b, off + i * 7 + 4, none⟩ = some (.int .i64 xs[i].code) ∧ w.cell? ⟨b, off + i * 7 + 5, none⟩ = some (.int .i64 xs[i].begin_) ∧ w.cell? ⟨b, off + i * 7 + 6, none⟩ = some (.int .i64 xs[i].fin) ∧ xs[i].ok ∧ xs[i].rc.length ≤ c_rc ∧ c_rc ≤ maxLen ∧ Row (cInt .u32) 1 w A_rc xs[i].rc := by
  obtain ⟨cs, hx, _, hc⟩ := h i xs[i] (List.getElem?_eq_getElem hi)
  obtain ⟨A_rc, c_rc, rfl, hk, l_rc, m_rc, r_rc⟩ := hx
  exact ⟨A_rc, c_rc, hc 0 _ rfl, hc 1 _ rfl, hc 2 _ rfl, hc 3 _ rfl, hc 4 _ rfl, hc 5 _ rfl, hc 6 _ rfl, hk, l_rc, m_rc, r_rc⟩
/-- From the row's reading. -/
theorem Call.opens : Opens Try.prog 33 Call.cod := by
  intro H enc w base spare held fuel cs x h
  obtain ⟨xs, n, _, _, hlen, hxl, hf⟩ := DataW.trod_struct Try.underlying33 h
  have hxl' : xs.length = 7 := hxl
  have hl' : cs.length = 7 := hlen.trans (by kernel_rfl)
  have f0 := (hf 0 _ rfl).trans (List.getElem?_eq_getElem (show 0 < xs.length by omega))
  obtain ⟨v0, e0, _, w0⟩ := DataW.trod_int Try.underlying3 f0
  have g0 := takeHead e0
  have f1 := (hf 1 _ rfl).trans (List.getElem?_eq_getElem (show 1 < xs.length by omega))
  obtain ⟨v1, e1, _, w1⟩ := DataW.trod_int Try.underlying3 f1
  have g1 := takeHead e1
  have f2 := (hf 2 _ rfl).trans (List.getElem?_eq_getElem (show 2 < xs.length by omega))
  obtain ⟨v2, e2, _, w2⟩ := DataW.trod_int Try.underlying3 f2
  have g2 := takeHead e2
  have f3 := (hf 3 _ rfl).trans (List.getElem?_eq_getElem (show 3 < xs.length by omega))
  obtain ⟨v3, A3, c3, e3, l3, m3, r3⟩ := Opens.slice (R := (cInt .u32)) (k := 1) Try.underlying22 (show Try.prog.cellsOf 35 = 1 by kernel_rfl) (by decide) (Opens.int Try.underlying35) _ _ _ _ _ _ _ _ _ f3
  have g3 := takeHead e3
  have f4 := (hf 4 _ rfl).trans (List.getElem?_eq_getElem (show 4 < xs.length by omega))
  obtain ⟨v4, e4, _, w4⟩ := DataW.trod_int Try.underlying3 f4
  have g4 := takeHead e4
  have f5 := (hf 5 _ rfl).trans (List.getElem?_eq_getElem (show 5 < xs.length by omega))
  obtain ⟨v5, e5, _, w5⟩ := DataW.trod_int Try.underlying3 f5
  have g5 := takeHead e5
  have f6 := (hf 6 _ rfl).trans (List.getElem?_eq_getElem (show 6 < xs.length by omega))
  obtain ⟨v6, e6, _, w6⟩ := DataW.trod_int Try.underlying3 f6
  have g6 := takeHead e6
  refine ⟨⟨v0, v1, v2, v3, v4, v5, v6⟩, A3, c3, ?_, ⟨w0, w1, w2, w4, w5, w6⟩, l3, m3, r3⟩
  refine list_of_cells [.int .i64 v0, .int .i64 v1, .int .i64 v2, .slice A3 v3.length c3, .int .i64 v4, .int .i64 v5, .int .i64 v6] hl' fun i hi => ?_
  have hi' : i < 7 := hi
  match i, hi' with
  | 0, _ => exact g0
  | 1, _ => exact g1
  | 2, _ => exact g2
  | 3, _ => exact g3
  | 4, _ => exact g4
  | 5, _ => exact g5
  | 6, _ => exact g6
end Go.Proofs.Ythmifkibfpcncaa
