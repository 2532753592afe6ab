/- The struct Ask of law 5: its cells, and how they are read; no condition. -/
import Derived.Test.YtfjoaeghnfkdlaaTyDue
namespace Go.Proofs.Ytfjoaeghnfkdlaa
set_option linter.unusedSimpArgs false
set_option linter.unusedVariables false
set_option maxRecDepth 100000
open Go.RowKit Go.ChangeShapes Go.WideShapes
structure Ask05 where
  kind : Int
  d : Due
  t : Int
instance : Inhabited Ask05 := ⟨⟨0, ⟨0, 0⟩, 0⟩⟩
def Ask05.cells (x : Ask05) : List Value := [.int .i64 x.kind, .int .i64 x.d.at_, .int .i64 x.d.task, .int .i64 x.t]
def Ask05.ok (x : Ask05) : Prop := (Lit.int .i64 x.kind).wf = true ∧ x.d.ok ∧ (Lit.int .i64 x.t).wf = true
def Ask05.cod : Cod Ask05 := fun _ cs x => cs = x.cells ∧ x.ok
theorem Ask05.mono : Mono Ask05.cod := fun _ _ _ _ _ h => h
theorem Ask05.size {w : World} {cs : List Value} {x : Ask05} (h : Ask05.cod w cs x) : cs.length = 4 := by rw [h.1]; rfl
theorem Ask05.opens : Opens Try.prog 55 Ask05.cod := by
  intro H enc w base spare held fuel cs x h
  obtain ⟨xs, n, _, _, hlen, hxl, hf⟩ := DataW.trod_struct Try.underlying55 h
  have hxl' : xs.length = 3 := hxl
  have hl' : cs.length = 4 := hlen.trans (by kernel_rfl)
  have f0 := (hf 0 _ rfl).trans (List.getElem?_eq_getElem (show 0 < xs.length by omega))
  obtain ⟨v0, e0, _, w0⟩ := DataW.trod_int Try.underlying3 f0
  have g0 := takeHead e0
  have f1 := (hf 1 _ rfl).trans (List.getElem?_eq_getElem (show 1 < xs.length by omega))
  obtain ⟨d, hd, hk⟩ := Due.opens _ _ _ _ _ _ _ _ _ f1
  have f2 := (hf 2 _ rfl).trans (List.getElem?_eq_getElem (show 2 < xs.length by omega))
  obtain ⟨v3, e3, _, w3⟩ := DataW.trod_int Try.underlying3 f2
  have g3 := takeHead e3
  refine ⟨⟨v0, d, v3⟩, ?_, ⟨w0, hk, w3⟩⟩
  have hd' : (cs.drop 1).take 2 = d.cells := hd
  have k1 : cs[1]? = some (.int .i64 d.at_) := by
    have : ((cs.drop 1).take 2)[0]? = some (.int .i64 d.at_) := by rw [hd']; rfl
    rwa [List.getElem?_take_of_lt (by omega), List.getElem?_drop] at this
  have k2 : cs[2]? = some (.int .i64 d.task) := by
    have : ((cs.drop 1).take 2)[1]? = some (.int .i64 d.task) := by rw [hd']; rfl
    rwa [List.getElem?_take_of_lt (by omega), List.getElem?_drop] at this
  refine list_of_cells [.int .i64 v0, .int .i64 d.at_, .int .i64 d.task, .int .i64 v3] hl' fun i hi => ?_
  have hi' : i < 4 := hi
  match i, hi' with
  | 0, _ => exact g0
  | 1, _ => exact k1
  | 2, _ => exact k2
  | 3, _ => exact g3
end Go.Proofs.Ytfjoaeghnfkdlaa
