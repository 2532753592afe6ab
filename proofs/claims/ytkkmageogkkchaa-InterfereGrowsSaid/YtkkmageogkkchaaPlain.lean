/- Rows, whether they are the same: the package coxswainplain. No condition. -/
import Derived.Test.YtkkmageogkkchaaAvTop
namespace Go.Proofs.Ytkkmageogkkchaa
set_option linter.unusedSimpArgs false
set_option linter.unusedVariables false
set_option maxRecDepth 100000
open Go.RowKit
theorem parts_eq {α : Type} {xs ys : List α} (hl : xs.length = ys.length) : (∀ k, k < xs.length → xs[k]? = ys[k]?) → xs = ys := by
  intro h
  apply List.ext_getElem?
  intro i
  by_cases hi : i < xs.length
  · exact h i hi
  · rw [List.getElem?_eq_none (by omega), List.getElem?_eq_none (by omega)]
theorem get_next {α : Type} [Inhabited α] {xs ys : List α} {k : Nat} (h : xs.getD k default = ys.getD k default) (h1 : k < xs.length) (h2 : k < ys.length) (he : ∀ j, j < k → xs[j]? = ys[j]?) : ∀ j, j < k + 1 → xs[j]? = ys[j]? := fun j hj => by
  rcases Nat.lt_succ_iff_lt_or_eq.1 hj with h' | rfl
  · exact he j h'
  · rw [List.getElem?_eq_getElem h1, List.getElem?_eq_getElem h2]
    simpa [h1, h2] using h
theorem pl_Ints (xs ys : List Int) : Fn Try.prog 117 [.lst 1 (xs.map eI), .lst 1 (ys.map eI)] (.bool (decide (xs = ys))) := by
  refine fnb Try.func117 (entered_of (by kernel_rfl)) rfl rfl rfl ?_
  repeat' (first | (show W _ _ _ _ _ _; first | refine wseq ?_ | refine wregion rfl ?_ | refine wcondT rfl rfl ?_ | refine wcondF rfl rfl ?_ | refine wblock ?_ | refine wskip ?_ | refine wexit ?_ | refine wret ?_ | refine wdraw (by kernel_rfl) (by kernel_rfl) ?_) | (show O _ _ _ _ _ _ _; first | (show O _ _ _ _ (⟨_, .store _ _ _, _, _, _, _⟩ :: _) _ _; refine ao_st rfl rfl rfl rfl rfl rfl rfl rfl rfl rfl rfl ?_) | refine onil ?_) | refine dnil ?_ | ((first | apply ao_k | apply ad_k); (· exact rfl); (· exact rfl); (· exact rfl); (· first | exact ya)) | refine ogrdN rfl rfl rfl rfl rfl ?_ | refine dgrdN rfl rfl rfl ?_ | ((first | refine wcond rfl rfl (fun hc => ?_) (fun hc => ?_) | refine ogrd rfl rfl rfl rfl rfl (fun hc => ?_) (fun hc => ?_) | refine dgrd rfl rfl rfl (fun hc => ?_) (fun hc => ?_)) <;> (try simp only [KL, cond_true, cond_false, beq_iff_eq, bne_iff_ne, ne_eq, reduceCtorEq] at hc) <;> (try (have hT : True := hc; clear hT hc)) <;> (try (exfalso; omega))) | refine nThen ?_ | refine nIn ?_ | refine eThen ?_ | refine eIn ?_ | refine eInNe rfl ?_ | refine rThen ?_ | refine rIn ?_)
  · exact retq rfl (congrArg AV.bool (decide_eq_false fun e => hc (by rw [e])).symm)
  · refine wloop (fun k : Nat => ([(0, .lst 1 (xs.map eI)), (1, .lst 1 (ys.map eI)), (12, .int .i64 xs.length), (13, .int .i64 k)], [])) (fun k => k ≤ xs.length ∧ ∀ j, j < k → xs[j]? = ys[j]?) (fun k => xs.length - k) 0 ⟨by omega, fun j hj => by omega⟩ les leh (fun k hk => ?_)
    obtain ⟨hk, he⟩ := hk
    refine wrange 12 rfl (fun hr => ?_)
    simp only [rangeP] at hr
    have hl : xs.length = ys.length := by omega
    repeat' (first | (show W _ _ _ _ _ _; first | refine wseq ?_ | refine wregion rfl ?_ | refine wcondT rfl rfl ?_ | refine wcondF rfl rfl ?_ | refine wblock ?_ | refine wskip ?_ | refine wexit ?_ | refine wret ?_ | refine wdraw (by kernel_rfl) (by kernel_rfl) ?_) | (show O _ _ _ _ _ _ _; first | (show O _ _ _ _ (⟨_, .store _ _ _, _, _, _, _⟩ :: _) _ _; refine ao_st rfl rfl rfl rfl rfl rfl rfl rfl rfl rfl rfl ?_) | refine onil ?_) | refine dnil ?_ | ((first | apply ao_k | apply ad_k); (· exact rfl); (· exact rfl); (· exact rfl); (· first | exact ya)) | refine ogrdN rfl rfl rfl rfl rfl ?_ | refine dgrdN rfl rfl rfl ?_ | ((first | refine wcond rfl rfl (fun hc => ?_) (fun hc => ?_) | refine ogrd rfl rfl rfl rfl rfl (fun hc => ?_) (fun hc => ?_) | refine dgrd rfl rfl rfl (fun hc => ?_) (fun hc => ?_)) <;> (try simp only [KL, cond_true, cond_false, beq_iff_eq, bne_iff_ne, ne_eq, reduceCtorEq] at hc) <;> (try (have hT : True := hc; clear hT hc)) <;> (try (exfalso; omega))) | refine nThen ?_ | refine nIn ?_ | refine eThen ?_ | refine eIn ?_ | refine eInNe rfl ?_ | refine rThen ?_ | refine rIn ?_)
    · exact retq rfl (congrArg AV.bool (decide_eq_false fun e => hc (by rw [e])).symm)
    · exact ⟨k + 1, ⟨by omega, get_next hc (by omega) (by omega) he⟩, by omega, les, leh⟩
    · exact retq rfl (congrArg AV.bool (decide_eq_true (parts_eq hl fun j hj => he j (by omega))).symm)
end Go.Proofs.Ytkkmageogkkchaa
