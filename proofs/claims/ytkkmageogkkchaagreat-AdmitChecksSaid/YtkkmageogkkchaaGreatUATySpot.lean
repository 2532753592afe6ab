/- The struct Spot: its cells, and how they are read; no condition. -/
import Derived.Test.YtkkmageogkkchaaGreatUAX
import Derived.WalkKit
set_option linter.unusedSimpArgs false
set_option linter.unusedVariables false
set_option maxHeartbeats 1000000
namespace Go.Proofs.YtkkmageogkkchaaGreat
set_option maxRecDepth 100000
open Go.RowKit Go.ChangeShapes Go.WideShapes

structure Spot where
  task : Int
  object : Int
  at_ : Int
instance : Inhabited Spot := ⟨⟨0, 0, 0⟩⟩
theorem Spot.ext_ {x y : Spot} (h : x.task = y.task ∧ x.object = y.object ∧ x.at_ = y.at_) : x = y := by cases x; cases y; simp_all
instance : DecidableEq Spot := fun x y => decidable_of_iff (x.task = y.task ∧ x.object = y.object ∧ x.at_ = y.at_) ⟨Spot.ext_, fun h => by subst h; simp⟩
def Spot.cells (x : Spot) : List Value := [.int .i64 x.task, .int .i64 x.object, .int .i64 x.at_]
def Spot.ok (x : Spot) : Prop := (Lit.int .i64 x.task).wf = true ∧ (Lit.int .i64 x.object).wf = true ∧ (Lit.int .i64 x.at_).wf = true
def Spot.cod : Cod Spot := fun _ cs x => cs = x.cells ∧ x.ok
theorem Spot.mono : Mono Spot.cod := fun _ _ _ _ _ h => h
theorem Spot.size {w : World} {cs : List Value} {x : Spot} (h : Spot.cod w cs x) : cs.length = 3 := by rw [h.1]; rfl
theorem Spot.at {w : World} {b off : Nat} {xs : List Spot} (h : Row' Spot.cod 3 w b off xs) (i : Nat) (hi : i < xs.length) :
    w.cell? ⟨b, off + i * 3, none⟩ = some (.int .i64 xs[i].task) ∧ w.cell? ⟨b, off + i * 3 + 1, none⟩ = some (.int .i64 xs[i].object) ∧ w.cell? ⟨b, off + i * 3 + 2, none⟩ = some (.int .i64 xs[i].at_) ∧ xs[i].ok := by
  obtain ⟨cs, hx, _, hc⟩ := h i xs[i] (List.getElem?_eq_getElem hi)
  obtain ⟨rfl, hk⟩ := hx
  exact ⟨hc 0 _ rfl, hc 1 _ rfl, hc 2 _ rfl, hk⟩
theorem Spot.opens : Opens Tryz.prog 87 Spot.cod := by
  intro H enc w base spare held fuel cs x h
  obtain ⟨xs, n, _, _, hlen, hxl, hf⟩ := DataW.trod_struct Tryz.underlying87 h
  have hxl' : xs.length = 3 := hxl
  have hl' : cs.length = 3 := hlen.trans (by kernel_rfl)
  have f0 := (hf 0 _ rfl).trans (List.getElem?_eq_getElem (show 0 < xs.length by omega))
  obtain ⟨v0, e0, _, w0⟩ := DataW.trod_int Tryz.underlying3 f0
  have g0 := takeHead e0
  have f1 := (hf 1 _ rfl).trans (List.getElem?_eq_getElem (show 1 < xs.length by omega))
  obtain ⟨v1, e1, _, w1⟩ := DataW.trod_int Tryz.underlying3 f1
  have g1 := takeHead e1
  have f2 := (hf 2 _ rfl).trans (List.getElem?_eq_getElem (show 2 < xs.length by omega))
  obtain ⟨v2, e2, _, w2⟩ := DataW.trod_int Tryz.underlying3 f2
  have g2 := takeHead e2
  refine ⟨⟨v0, v1, v2⟩, ?_, ⟨w0, w1, w2⟩⟩
  refine list_of_cells [.int .i64 v0, .int .i64 v1, .int .i64 v2] hl' fun i hi => ?_
  have hi' : i < 3 := hi
  match i, hi' with
  | 0, _ => exact g0
  | 1, _ => exact g1
  | 2, _ => exact g2
end Go.Proofs.YtkkmageogkkchaaGreat
