/- The struct Case: its cells, and how they are read; no condition. -/
import Derived.Test.YtfjoaeghnfkdlaaTyTask
import Derived.Test.YtfjoaeghnfkdlaaTyDue
namespace Go.Proofs.Ytfjoaeghnfkdlaa
set_option linter.unusedSimpArgs false
set_option linter.unusedVariables false
set_option maxRecDepth 100000
open Go.RowKit Go.ChangeShapes Go.WideShapes

structure Case where
  l : List Task
  lt : List Due
  dm : List (List Int)
  ticks : Int
instance : Inhabited Case := ⟨⟨[], [], [], 0⟩⟩
theorem Case.ext_ {x y : Case} (h : x.l = y.l ∧ x.lt = y.lt ∧ x.dm = y.dm ∧ x.ticks = y.ticks) : x = y := by cases x; cases y; simp_all
instance : DecidableEq Case := fun x y => decidable_of_iff (x.l = y.l ∧ x.lt = y.lt ∧ x.dm = y.dm ∧ x.ticks = y.ticks) ⟨Case.ext_, fun h => by subst h; simp⟩
def Case.ok (x : Case) : Prop := (Lit.int .i64 x.ticks).wf = true
def Case.cod : Cod Case := fun w cs x => ∃ (A_l : Option Addr) (c_l : Nat) (A_lt : Option Addr) (c_lt : Nat) (A_dm : Option Addr) (c_dm : Nat), cs = [.slice A_l x.l.length c_l, .slice A_lt x.lt.length c_lt, .slice A_dm x.dm.length c_dm, .int .i64 x.ticks] ∧ x.ok ∧ x.l.length ≤ c_l ∧ c_l ≤ maxLen ∧ Row Task.cod 7 w A_l x.l ∧ x.lt.length ≤ c_lt ∧ c_lt ≤ maxLen ∧ Row Due.cod 2 w A_lt x.lt ∧ x.dm.length ≤ c_dm ∧ c_dm ≤ maxLen ∧ Row (cSlice (cInt .i64) 1) 1 w A_dm x.dm
theorem Case.mono : Mono Case.cod := fun _ _ _ _ he ⟨A_l, c_l, A_lt, c_lt, A_dm, c_dm, h, hk, l_l, m_l, r_l, l_lt, m_lt, r_lt, l_dm, m_dm, r_dm⟩ => ⟨A_l, c_l, A_lt, c_lt, A_dm, c_dm, h, hk, l_l, m_l, r_l.ext Task.mono he, l_lt, m_lt, r_lt.ext Due.mono he, l_dm, m_dm, r_dm.ext (Mono.slice (Mono.int _) 1) he⟩
theorem Case.size {w : World} {cs : List Value} {x : Case} (h : Case.cod w cs x) : cs.length = 4 := by obtain ⟨A_l, c_l, A_lt, c_lt, A_dm, c_dm, h, _⟩ := h; rw [h]; rfl
/-- The cells of an element. -/
theorem Case.at {w : World} {b off : Nat} {xs : List Case} (h : Row' Case.cod 4 w b off xs) (i : Nat) (hi : i < xs.length) :
    ∃ (A_l : Option Addr) (c_l : Nat) (A_lt : Option Addr) (c_lt : Nat) (A_dm : Option Addr) (c_dm : Nat), w.cell? ⟨b, off + i * 4, none⟩ = some (.slice A_l xs[i].l.length c_l) ∧ w.cell? ⟨b, off + i * 4 + 1, none⟩ = some (.slice A_lt xs[i].lt.length c_lt) ∧ w.cell? ⟨b, off + i * 4 + 2, none⟩ = some (.slice A_dm xs[i].dm.length c_dm) ∧ w.cell? ⟨b, off + i * 4 + 3, none⟩ = some (.int .i64 xs[i].ticks) ∧ xs[i].ok ∧ xs[i].l.length ≤ c_l ∧ c_l ≤ maxLen ∧ Row Task.cod 7 w A_l xs[i].l ∧ xs[i].lt.length ≤ c_lt ∧ c_lt ≤ maxLen ∧ Row Due.cod 2 w A_lt xs[i].lt ∧ xs[i].dm.length ≤ c_dm ∧ c_dm ≤ maxLen ∧ Row (cSlice (cInt .i64) 1) 1 w A_dm xs[i].dm := by
  obtain ⟨cs, hx, _, hc⟩ := h i xs[i] (List.getElem?_eq_getElem hi)
  obtain ⟨A_l, c_l, A_lt, c_lt, A_dm, c_dm, rfl, hk, l_l, m_l, r_l, l_lt, m_lt, r_lt, l_dm, m_dm, r_dm⟩ := hx
  exact ⟨A_l, c_l, A_lt, c_lt, A_dm, c_dm, hc 0 _ rfl, hc 1 _ rfl, hc 2 _ rfl, hc 3 _ rfl, hk, l_l, m_l, r_l, l_lt, m_lt, r_lt, l_dm, m_dm, r_dm⟩
/-- From the row's reading. -/
theorem Case.opens : Opens Try.prog 65 Case.cod := by
  intro H enc w base spare held fuel cs x h
  obtain ⟨xs, n, _, _, hlen, hxl, hf⟩ := DataW.trod_struct Try.underlying65 h
  have hxl' : xs.length = 4 := hxl
  have hl' : cs.length = 4 := hlen.trans (by kernel_rfl)
  have f0 := (hf 0 _ rfl).trans (List.getElem?_eq_getElem (show 0 < xs.length by omega))
  obtain ⟨v0, A0, c0, e0, l0, m0, r0⟩ := Opens.slice (R := Task.cod) (k := 7) Try.underlying28 (show Try.prog.cellsOf 39 = 7 by kernel_rfl) (by decide) Task.opens _ _ _ _ _ _ _ _ _ f0
  have g0 := takeHead e0
  have f1 := (hf 1 _ rfl).trans (List.getElem?_eq_getElem (show 1 < xs.length by omega))
  obtain ⟨v1, A1, c1, e1, l1, m1, r1⟩ := Opens.slice (R := Due.cod) (k := 2) Try.underlying29 (show Try.prog.cellsOf 41 = 2 by kernel_rfl) (by decide) Due.opens _ _ _ _ _ _ _ _ _ f1
  have g1 := takeHead e1
  have f2 := (hf 2 _ rfl).trans (List.getElem?_eq_getElem (show 2 < xs.length by omega))
  obtain ⟨v2, A2, c2, e2, l2, m2, r2⟩ := Opens.slice (R := (cSlice (cInt .i64) 1)) (k := 1) Try.underlying63 (show Try.prog.cellsOf 22 = 1 by kernel_rfl) (by decide) (Opens.slice (R := cInt .i64) (k := 1) Try.underlying22 (show Try.prog.cellsOf 3 = 1 by kernel_rfl) (by decide) (Opens.int Try.underlying3)) _ _ _ _ _ _ _ _ _ f2
  have g2 := takeHead e2
  have f3 := (hf 3 _ rfl).trans (List.getElem?_eq_getElem (show 3 < xs.length by omega))
  obtain ⟨v3, e3, _, w3⟩ := DataW.trod_int Try.underlying3 f3
  have g3 := takeHead e3
  refine ⟨⟨v0, v1, v2, v3⟩, A0, c0, A1, c1, A2, c2, ?_, w3, l0, m0, r0, l1, m1, r1, l2, m2, r2⟩
  refine list_of_cells [.slice A0 v0.length c0, .slice A1 v1.length c1, .slice A2 v2.length c2, .int .i64 v3] hl' fun i hi => ?_
  have hi' : i < 4 := hi
  match i, hi' with
  | 0, _ => exact g0
  | 1, _ => exact g1
  | 2, _ => exact g2
  | 3, _ => exact g3
end Go.Proofs.Ytfjoaeghnfkdlaa
