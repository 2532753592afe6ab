/- Rows, whether they are the same: the package coxswainplain. No condition. -/
import Derived.Test.YtfjoaeghnfkdlaaAvTop
import Derived.Test.YtfjoaeghnfkdlaaEnDue
import Derived.Test.YtfjoaeghnfkdlaaEnJob
namespace Go.Proofs.Ytfjoaeghnfkdlaa
set_option linter.unusedSimpArgs false
set_option linter.unusedVariables false
set_option maxRecDepth 100000
open Go.RowKit
theorem parts_eq {α : Type} {xs ys : List α} (hl : xs.length = ys.length) : (∀ k, k < xs.length → xs[k]? = ys[k]?) → xs = ys := by
  intro h
  apply List.ext_getElem?
  intro i
  by_cases hi : i < xs.length
  · exact h i hi
  · rw [List.getElem?_eq_none (by omega), List.getElem?_eq_none (by omega)]
theorem get_next {α : Type} [Inhabited α] {xs ys : List α} {k : Nat} (h : xs.getD k default = ys.getD k default) (h1 : k < xs.length) (h2 : k < ys.length) (he : ∀ j, j < k → xs[j]? = ys[j]?) : ∀ j, j < k + 1 → xs[j]? = ys[j]? := fun j hj => by
  rcases Nat.lt_succ_iff_lt_or_eq.1 hj with h' | rfl
  · exact he j h'
  · rw [List.getElem?_eq_getElem h1, List.getElem?_eq_getElem h2]
    simpa [h1, h2] using h
theorem pl_Ints (xs ys : List Int) : Fn Try.prog 15 [.lst 1 (xs.map eI), .lst 1 (ys.map eI)] (.bool (decide (xs = ys))) := by
  refine fnb Try.func15 (entered_of (by kernel_rfl)) rfl rfl rfl ?_
  repeat' (first | (show W _ _ _ _ _ _; first | apply kA | refine kB rfl ?_ | refine kC rfl rfl ?_ | refine kD rfl rfl ?_ | apply kE | apply kF | apply kG | apply kH | refine kI (by kernel_rfl) (by kernel_rfl) ?_) | (show O _ _ _ _ _ _ _; first | (show O _ _ _ _ (⟨_, .store _ _ _, _, _, _, _⟩ :: _) _ _; refine kJ rfl rfl rfl rfl rfl rfl rfl rfl rfl rfl rfl ?_) | apply kK) | apply kL | ((first | apply kM | apply kN); (iterate 3 (· exact rfl)); (· first | exact ya)) | refine kO rfl rfl rfl rfl rfl ?_ | refine kP rfl rfl rfl ?_ | ((first | refine kQ rfl rfl ?_ ?_ | refine kR rfl rfl rfl rfl rfl ?_ ?_ | refine kS rfl rfl rfl ?_ ?_) <;> intro hc <;> (try simp only [KL, cond_true, cond_false, beq_iff_eq, bne_iff_ne, ne_eq, reduceCtorEq] at hc) <;> (try (have hT : True := hc; clear hT hc)) <;> (try (exfalso; omega))) | apply kT | apply kU | apply kV | apply kW | refine kX rfl ?_ | apply kY | apply kZ)
  · exact retq rfl (congrArg AV.bool (decide_eq_false fun e => hc (by rw [e])).symm)
  · refine wloop (fun k : Nat => ([(0, .lst 1 (xs.map eI)), (1, .lst 1 (ys.map eI)), (12, .int .i64 xs.length), (13, .int .i64 k)], [])) (fun k => k ≤ xs.length ∧ ∀ j, j < k → xs[j]? = ys[j]?) (fun k => xs.length - k) 0 ⟨by omega, fun j hj => by omega⟩ les leh (fun k hk => ?_)
    obtain ⟨hk, he⟩ := hk
    refine wrange 12 rfl (fun hr => ?_)
    simp only [rangeP] at hr
    have hl : xs.length = ys.length := by omega
    repeat' (first | (show W _ _ _ _ _ _; first | apply kA | refine kB rfl ?_ | refine kC rfl rfl ?_ | refine kD rfl rfl ?_ | apply kE | apply kF | apply kG | apply kH | refine kI (by kernel_rfl) (by kernel_rfl) ?_) | (show O _ _ _ _ _ _ _; first | (show O _ _ _ _ (⟨_, .store _ _ _, _, _, _, _⟩ :: _) _ _; refine kJ rfl rfl rfl rfl rfl rfl rfl rfl rfl rfl rfl ?_) | apply kK) | apply kL | ((first | apply kM | apply kN); (iterate 3 (· exact rfl)); (· first | exact ya)) | refine kO rfl rfl rfl rfl rfl ?_ | refine kP rfl rfl rfl ?_ | ((first | refine kQ rfl rfl ?_ ?_ | refine kR rfl rfl rfl rfl rfl ?_ ?_ | refine kS rfl rfl rfl ?_ ?_) <;> intro hc <;> (try simp only [KL, cond_true, cond_false, beq_iff_eq, bne_iff_ne, ne_eq, reduceCtorEq] at hc) <;> (try (have hT : True := hc; clear hT hc)) <;> (try (exfalso; omega))) | apply kT | apply kU | apply kV | apply kW | refine kX rfl ?_ | apply kY | apply kZ)
    · exact retq rfl (congrArg AV.bool (decide_eq_false fun e => hc (by rw [e])).symm)
    · exact ⟨k + 1, ⟨by omega, get_next hc (by omega) (by omega) he⟩, by omega, les, leh⟩
    · exact retq rfl (congrArg AV.bool (decide_eq_true (parts_eq hl fun j hj => he j (by omega))).symm)
theorem pl_Dues (xs ys : List Due) : Fn Try.prog 19 [.lst 2 (xs.map eDue), .lst 2 (ys.map eDue)] (.bool (decide (xs = ys))) := by
  refine fnb Try.func19 (entered_of (by kernel_rfl)) rfl rfl rfl ?_
  repeat' (first | (show W _ _ _ _ _ _; first | apply kA | refine kB rfl ?_ | refine kC rfl rfl ?_ | refine kD rfl rfl ?_ | apply kE | apply kF | apply kG | apply kH | refine kI (by kernel_rfl) (by kernel_rfl) ?_) | (show O _ _ _ _ _ _ _; first | (show O _ _ _ _ (⟨_, .store _ _ _, _, _, _, _⟩ :: _) _ _; refine kJ rfl rfl rfl rfl rfl rfl rfl rfl rfl rfl rfl ?_) | apply kK) | apply kL | ((first | apply kM | apply kN); (iterate 3 (· exact rfl)); (· first | exact ya | exact Y.mk (neq_Due rfl rfl rfl))) | refine kO rfl rfl rfl rfl rfl ?_ | refine kP rfl rfl rfl ?_ | ((first | refine kQ rfl rfl ?_ ?_ | refine kR rfl rfl rfl rfl rfl ?_ ?_ | refine kS rfl rfl rfl ?_ ?_) <;> intro hc <;> (try simp only [KL, cond_true, cond_false, beq_iff_eq, bne_iff_ne, ne_eq, reduceCtorEq] at hc) <;> (try (have hT : True := hc; clear hT hc)) <;> (try (exfalso; omega))) | apply kT | apply kU | apply kV | apply kW | refine kX rfl ?_ | apply kY | apply kZ)
  · exact retq rfl (congrArg AV.bool (decide_eq_false fun e => hc (by rw [e])).symm)
  · refine wloop (fun k : Nat => ([(0, .lst 2 (xs.map eDue)), (1, .lst 2 (ys.map eDue)), (12, .int .i64 xs.length), (13, .int .i64 k)], [])) (fun k => k ≤ xs.length ∧ ∀ j, j < k → xs[j]? = ys[j]?) (fun k => xs.length - k) 0 ⟨by omega, fun j hj => by omega⟩ les leh (fun k hk => ?_)
    obtain ⟨hk, he⟩ := hk
    refine wrange 12 rfl (fun hr => ?_)
    simp only [rangeP] at hr
    have hl : xs.length = ys.length := by omega
    repeat' (first | (show W _ _ _ _ _ _; first | apply kA | refine kB rfl ?_ | refine kC rfl rfl ?_ | refine kD rfl rfl ?_ | apply kE | apply kF | apply kG | apply kH | refine kI (by kernel_rfl) (by kernel_rfl) ?_) | (show O _ _ _ _ _ _ _; first | (show O _ _ _ _ (⟨_, .store _ _ _, _, _, _, _⟩ :: _) _ _; refine kJ rfl rfl rfl rfl rfl rfl rfl rfl rfl rfl rfl ?_) | apply kK) | apply kL | ((first | apply kM | apply kN); (iterate 3 (· exact rfl)); (· first | exact ya | exact Y.mk (neq_Due rfl rfl rfl))) | refine kO rfl rfl rfl rfl rfl ?_ | refine kP rfl rfl rfl ?_ | ((first | refine kQ rfl rfl ?_ ?_ | refine kR rfl rfl rfl rfl rfl ?_ ?_ | refine kS rfl rfl rfl ?_ ?_) <;> intro hc <;> (try simp only [KL, cond_true, cond_false, beq_iff_eq, bne_iff_ne, ne_eq, reduceCtorEq] at hc) <;> (try (have hT : True := hc; clear hT hc)) <;> (try (exfalso; omega))) | apply kT | apply kU | apply kV | apply kW | refine kX rfl ?_ | apply kY | apply kZ)
    · exact retq rfl (congrArg AV.bool (decide_eq_false fun e => hc (by rw [e])).symm)
    · exact ⟨k + 1, ⟨by omega, get_next hc (by omega) (by omega) he⟩, by omega, les, leh⟩
    · exact retq rfl (congrArg AV.bool (decide_eq_true (parts_eq hl fun j hj => he j (by omega))).symm)
theorem pl_Jobs (xs ys : List Job) : Fn Try.prog 39 [.lst 8 (xs.map eJob), .lst 8 (ys.map eJob)] (.bool (decide (xs = ys))) := by
  refine fnb Try.func39 (entered_of (by kernel_rfl)) rfl rfl rfl ?_
  repeat' (first | (show W _ _ _ _ _ _; first | apply kA | refine kB rfl ?_ | refine kC rfl rfl ?_ | refine kD rfl rfl ?_ | apply kE | apply kF | apply kG | apply kH | refine kI (by kernel_rfl) (by kernel_rfl) ?_) | (show O _ _ _ _ _ _ _; first | (show O _ _ _ _ (⟨_, .store _ _ _, _, _, _, _⟩ :: _) _ _; refine kJ rfl rfl rfl rfl rfl rfl rfl rfl rfl rfl rfl ?_) | apply kK) | apply kL | ((first | apply kM | apply kN); (iterate 3 (· exact rfl)); (· first | exact ya | exact Y.mk (neq_Job rfl rfl rfl))) | refine kO rfl rfl rfl rfl rfl ?_ | refine kP rfl rfl rfl ?_ | ((first | refine kQ rfl rfl ?_ ?_ | refine kR rfl rfl rfl rfl rfl ?_ ?_ | refine kS rfl rfl rfl ?_ ?_) <;> intro hc <;> (try simp only [KL, cond_true, cond_false, beq_iff_eq, bne_iff_ne, ne_eq, reduceCtorEq] at hc) <;> (try (have hT : True := hc; clear hT hc)) <;> (try (exfalso; omega))) | apply kT | apply kU | apply kV | apply kW | refine kX rfl ?_ | apply kY | apply kZ)
  · exact retq rfl (congrArg AV.bool (decide_eq_false fun e => hc (by rw [e])).symm)
  · refine wloop (fun k : Nat => ([(0, .lst 8 (xs.map eJob)), (1, .lst 8 (ys.map eJob)), (12, .int .i64 xs.length), (13, .int .i64 k)], [])) (fun k => k ≤ xs.length ∧ ∀ j, j < k → xs[j]? = ys[j]?) (fun k => xs.length - k) 0 ⟨by omega, fun j hj => by omega⟩ les leh (fun k hk => ?_)
    obtain ⟨hk, he⟩ := hk
    refine wrange 12 rfl (fun hr => ?_)
    simp only [rangeP] at hr
    have hl : xs.length = ys.length := by omega
    repeat' (first | (show W _ _ _ _ _ _; first | apply kA | refine kB rfl ?_ | refine kC rfl rfl ?_ | refine kD rfl rfl ?_ | apply kE | apply kF | apply kG | apply kH | refine kI (by kernel_rfl) (by kernel_rfl) ?_) | (show O _ _ _ _ _ _ _; first | (show O _ _ _ _ (⟨_, .store _ _ _, _, _, _, _⟩ :: _) _ _; refine kJ rfl rfl rfl rfl rfl rfl rfl rfl rfl rfl rfl ?_) | apply kK) | apply kL | ((first | apply kM | apply kN); (iterate 3 (· exact rfl)); (· first | exact ya | exact Y.mk (neq_Job rfl rfl rfl))) | refine kO rfl rfl rfl rfl rfl ?_ | refine kP rfl rfl rfl ?_ | ((first | refine kQ rfl rfl ?_ ?_ | refine kR rfl rfl rfl rfl rfl ?_ ?_ | refine kS rfl rfl rfl ?_ ?_) <;> intro hc <;> (try simp only [KL, cond_true, cond_false, beq_iff_eq, bne_iff_ne, ne_eq, reduceCtorEq] at hc) <;> (try (have hT : True := hc; clear hT hc)) <;> (try (exfalso; omega))) | apply kT | apply kU | apply kV | apply kW | refine kX rfl ?_ | apply kY | apply kZ)
    · exact retq rfl (congrArg AV.bool (decide_eq_false fun e => hc (by rw [e])).symm)
    · exact ⟨k + 1, ⟨by omega, get_next hc (by omega) (by omega) he⟩, by omega, les, leh⟩
    · exact retq rfl (congrArg AV.bool (decide_eq_true (parts_eq hl fun j hj => he j (by omega))).symm)
end Go.Proofs.Ytfjoaeghnfkdlaa
