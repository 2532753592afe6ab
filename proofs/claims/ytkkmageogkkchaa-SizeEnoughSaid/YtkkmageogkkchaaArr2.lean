/- An argument that is an array of two integers. No condition. -/
import Derived.Test.YtkkmageogkkchaaAvTop
import Derived.OpenShut
namespace Go.Proofs.Ytkkmageogkkchaa
set_option linter.unusedSimpArgs false
set_option linter.unusedVariables false
set_option maxRecDepth 100000
open Go.RowKit Go.ChangeShapes Go.WideShapes
theorem open_arr2_arg {H : Type} {enc : TypeId × Value → H} {P : Program} {W : World} {t e : TypeId} {r : Reach} {b0 : Nat} {k : IntKind} {v : Value} {d : DataW H} {p : List MemPlace} {sp : Nat → Bool}
    (ht : P.underlying t = some (.array 2 e)) (he : P.underlying e = some (.int k)) (hc : P.cellsOf e = 1) (hct : P.cellsOf t = 2) (hv : Value.okWide P W r b0 t v) (h : DataW.Trod enc P W 0 sp true t v d p) :
    ∃ x y, v = .agg #[.int k x, .int k y] ∧ (Lit.int k x).wf = true ∧ (Lit.int k y).wf = true := by
  obtain ⟨cs, rfl, hsz, _⟩ : ∃ cs, v = .agg cs ∧ cs.size = P.cellsOf t ∧ True := by
    simp only [Value.okWide, ht] at hv
    obtain ⟨cs, h1, h2, _⟩ := hv
    exact ⟨cs, h1, h2, trivial⟩
  obtain ⟨fuel, hf⟩ := h
  obtain ⟨xs, m, _, _, hl, hxl, hi⟩ := DataW.trod_array ht hf
  have e1 : (Value.agg cs).cells.toList = cs.toList := by simp [Value.cells]
  rw [e1, hc] at hi
  have f0 := (hi 0 (by omega)).trans (List.getElem?_eq_getElem (show 0 < xs.length by omega))
  have f1 := (hi 1 (by omega)).trans (List.getElem?_eq_getElem (show 1 < xs.length by omega))
  obtain ⟨v0, q0, _, w0⟩ := DataW.trod_int he f0
  obtain ⟨v1, q1, _, w1⟩ := DataW.trod_int he f1
  have hl2 : cs.toList.length = 2 := by rw [Array.length_toList (xs := cs), hsz, hct]
  refine ⟨v0, v1, congrArg _ ?_, w0, w1⟩
  apply Array.toList_inj.1
  match cs.toList, hl2, q0, q1 with
  | [a, b], _, q0, q1 =>
    simp at q0 q1
    rw [q0, q1]
theorem v_arr2 {w : World} {k : IntKind} {x y : Int} (hx : (Lit.int k x).wf = true) (hy : (Lit.int k y).wf = true) : VR0 (sg w) (.agg [.int k x, .int k y]) (.agg #[.int k x, .int k y]) := by
  have h : L2 (VR0 (sg w)) [.int k x, .int k y] [Value.int k x, Value.int k y] := (((L2.nil _).cons (v_int hy)).cons (v_int hx))
  exact .agg _ [Value.int k x, Value.int k y] h.1 h.2
end Go.Proofs.Ytkkmageogkkchaa
