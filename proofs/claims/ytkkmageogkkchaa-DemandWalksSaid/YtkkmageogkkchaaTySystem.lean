/- The struct System: its cells, and how they are read; no condition. -/
import Derived.Test.YtkkmageogkkchaaTyTask
import Derived.Test.YtkkmageogkkchaaTyObject
namespace Go.Proofs.Ytkkmageogkkchaa
set_option linter.unusedSimpArgs false
set_option linter.unusedVariables false
set_option maxRecDepth 100000
open Go.RowKit Go.ChangeShapes Go.WideShapes

structure System where
  tasks : List Task
  objects : List Object
instance : Inhabited System := ⟨⟨[], []⟩⟩
theorem System.ext_ {x y : System} (h : x.tasks = y.tasks ∧ x.objects = y.objects) : x = y := by cases x; cases y; simp_all
instance : DecidableEq System := fun x y => decidable_of_iff (x.tasks = y.tasks ∧ x.objects = y.objects) ⟨System.ext_, fun h => by subst h; simp⟩
def System.ok (x : System) : Prop := True
def System.cod : Cod System := fun w cs x => ∃ (A_tasks : Option Addr) (c_tasks : Nat) (A_objects : Option Addr) (c_objects : Nat), cs = [.slice A_tasks x.tasks.length c_tasks, .slice A_objects x.objects.length c_objects] ∧ x.ok ∧ x.tasks.length ≤ c_tasks ∧ c_tasks ≤ maxLen ∧ Row Task.cod 7 w A_tasks x.tasks ∧ x.objects.length ≤ c_objects ∧ c_objects ≤ maxLen ∧ Row Object.cod 8 w A_objects x.objects
theorem System.mono : Mono System.cod := fun _ _ _ _ he ⟨A_tasks, c_tasks, A_objects, c_objects, h, hk, l_tasks, m_tasks, r_tasks, l_objects, m_objects, r_objects⟩ => ⟨A_tasks, c_tasks, A_objects, c_objects, h, hk, l_tasks, m_tasks, r_tasks.ext Task.mono he, l_objects, m_objects, r_objects.ext Object.mono he⟩
theorem System.size {w : World} {cs : List Value} {x : System} (h : System.cod w cs x) : cs.length = 2 := by obtain ⟨A_tasks, c_tasks, A_objects, c_objects, h, _⟩ := h; rw [h]; rfl
/-- The cells of an element. -/
theorem System.at {w : World} {b off : Nat} {xs : List System} (h : Row' System.cod 2 w b off xs) (i : Nat) (hi : i < xs.length) :
    ∃ (A_tasks : Option Addr) (c_tasks : Nat) (A_objects : Option Addr) (c_objects : Nat), w.cell? ⟨b, off + i * 2, none⟩ = some (.slice A_tasks xs[i].tasks.length c_tasks) ∧ w.cell? ⟨b, off + i * 2 + 1, none⟩ = some (.slice A_objects xs[i].objects.length c_objects) ∧ xs[i].ok ∧ xs[i].tasks.length ≤ c_tasks ∧ c_tasks ≤ maxLen ∧ Row Task.cod 7 w A_tasks xs[i].tasks ∧ xs[i].objects.length ≤ c_objects ∧ c_objects ≤ maxLen ∧ Row Object.cod 8 w A_objects xs[i].objects := by
  obtain ⟨cs, hx, _, hc⟩ := h i xs[i] (List.getElem?_eq_getElem hi)
  obtain ⟨A_tasks, c_tasks, A_objects, c_objects, rfl, hk, l_tasks, m_tasks, r_tasks, l_objects, m_objects, r_objects⟩ := hx
  exact ⟨A_tasks, c_tasks, A_objects, c_objects, hc 0 _ rfl, hc 1 _ rfl, hk, l_tasks, m_tasks, r_tasks, l_objects, m_objects, r_objects⟩
/-- From the row's reading. -/
theorem System.opens : Opens Try.prog 25 System.cod := by
  intro H enc w base spare held fuel cs x h
  obtain ⟨xs, n, _, _, hlen, hxl, hf⟩ := DataW.trod_struct Try.underlying25 h
  have hxl' : xs.length = 2 := hxl
  have hl' : cs.length = 2 := hlen.trans (by kernel_rfl)
  have f0 := (hf 0 _ rfl).trans (List.getElem?_eq_getElem (show 0 < xs.length by omega))
  obtain ⟨v0, A0, c0, e0, l0, m0, r0⟩ := Opens.slice (R := Task.cod) (k := 7) Try.underlying22 (show Try.prog.cellsOf 44 = 7 by kernel_rfl) (by decide) Task.opens _ _ _ _ _ _ _ _ _ f0
  have g0 := takeHead e0
  have f1 := (hf 1 _ rfl).trans (List.getElem?_eq_getElem (show 1 < xs.length by omega))
  obtain ⟨v1, A1, c1, e1, l1, m1, r1⟩ := Opens.slice (R := Object.cod) (k := 8) Try.underlying23 (show Try.prog.cellsOf 33 = 8 by kernel_rfl) (by decide) Object.opens _ _ _ _ _ _ _ _ _ f1
  have g1 := takeHead e1
  refine ⟨⟨v0, v1⟩, A0, c0, A1, c1, ?_, trivial, l0, m0, r0, l1, m1, r1⟩
  refine list_of_cells [.slice A0 v0.length c0, .slice A1 v1.length c1] hl' fun i hi => ?_
  have hi' : i < 2 := hi
  match i, hi' with
  | 0, _ => exact g0
  | 1, _ => exact g1
end Go.Proofs.Ytkkmageogkkchaa
