/- The reference's sort of dues. No condition. -/
import Derived.Test.YtfjoaeghnfkdlaaRa2
namespace Go.Proofs.Ytfjoaeghnfkdlaa
set_option linter.unusedSimpArgs false
set_option linter.unusedVariables false
set_option maxRecDepth 100000
set_option linter.unusedSimpArgs false
set_option linter.unusedVariables false
set_option maxRecDepth 100000
open Go.RowKit
theorem rsort_fn (l : List Due) (hn : l.length ≤ 1000000) : Fn Try.prog 24 [.lst 2 (l.map eDue)] (.lst 2 ((sortD l).map eDue)) := by
  refine fnb Try.func24 (entered_of (by kernel_rfl)) rfl rfl rfl ?_
  repeat' (first | (show W _ _ _ _ _ _; first | apply kA | refine kB rfl ?_ | refine kC rfl rfl ?_ | refine kD rfl rfl ?_ | apply kE | apply kF | apply kG | apply kH | refine kI (by kernel_rfl) (by kernel_rfl) ?_) | (show O _ _ _ _ _ _ _; first | (show O _ _ _ _ (⟨_, .store _ _ _, _, _, _, _⟩ :: _) _ _; refine kJ rfl rfl rfl rfl rfl rfl rfl rfl rfl rfl rfl ?_) | apply kK) | apply kL | ((first | apply kM | apply kN); (iterate 3 (· exact rfl)); (· first | exact ya)) | refine kO rfl rfl rfl rfl rfl ?_ | refine kP rfl rfl rfl ?_ | ((first | refine kQ rfl rfl ?_ ?_ | refine kR rfl rfl rfl rfl rfl ?_ ?_ | refine kS rfl rfl rfl ?_ ?_) <;> intro hc <;> (try simp only [KL, cond_true, cond_false, beq_iff_eq, bne_iff_ne, ne_eq, reduceCtorEq] at hc) <;> (try (have hT : True := hc; clear hT hc)) <;> (try (exfalso; omega))) | apply kT | apply kU | apply kV | apply kW | refine kX rfl ?_ | apply kY | apply kZ)
  refine wloop (fun k : Nat => ([(3, .lst 2 ((sortD (l.take k)).map eDue)), (6, .lst 2 (l.map eDue)), (7, .int .i64 l.length), (8, .int .i64 k)], [])) (fun k => k ≤ l.length) (fun k => l.length - k) 0 (by omega) les leh (fun k hk => ?_)
  have hl : (sortD (l.take k)).length ≤ 1000000 := by rw [sortD_len, List.length_take]; omega
  repeat' (first | (show W _ _ _ _ _ _; first | apply kA | refine kB rfl ?_ | refine kC rfl rfl ?_ | refine kD rfl rfl ?_ | apply kE | apply kF | apply kG | apply kH | refine kI (by kernel_rfl) (by kernel_rfl) ?_) | (show O _ _ _ _ _ _ _; first | (show O _ _ _ _ (⟨_, .alloc _, _, _, _, _⟩ :: _) _ _; first | refine ao_alloc (id := 12) rfl rfl rfl rfl rfl rfl rfl ?_) | (show O _ _ _ _ (⟨_, .store _ _ _, _, _, _, _⟩ :: _) _ _; refine kJ rfl rfl rfl rfl rfl rfl rfl rfl rfl rfl rfl ?_) | apply kK) | apply kL | ((first | apply kM | apply kN); (iterate 3 (· exact rfl)); (· first | (show Y _ ⟨_, .call ⟨.value _, _, _⟩, _, _, _, _⟩ _ _ _; first | exact q_c (rput_fn _ _ hl) rfl) | exact ya)) | refine kO rfl rfl rfl rfl rfl ?_ | refine kP rfl rfl rfl ?_ | ((first | refine kQ rfl rfl ?_ ?_ | refine kR rfl rfl rfl rfl rfl ?_ ?_ | refine kS rfl rfl rfl ?_ ?_) <;> intro hc <;> (try simp only [KL, cond_true, cond_false, beq_iff_eq, bne_iff_ne, ne_eq, reduceCtorEq] at hc) <;> (try (have hT : True := hc; clear hT hc)) <;> (try (exfalso; omega))) | apply kT | apply kU | apply kV | apply kW | refine kX rfl ?_ | apply kY | apply kZ)
  · exact ⟨k + 1, by omega, by omega, by rw [sortD_next l k (by omega)]; exact les, leh⟩
  · obtain rfl : k = l.length := by omega
    rw [List.take_length]
    exact retq rfl rfl
end Go.Proofs.Ytfjoaeghnfkdlaa
