/- The chapter's example. No condition. -/
import Derived.Test.YtnijdaidmpjccaaFl8
namespace Go.Proofs.Ytnijdaidmpjccaa
set_option linter.unusedSimpArgs false
set_option linter.unusedVariables false
set_option maxRecDepth 100000
open Go.RowKit
def ex10 : List Instr := [⟨0, 0, 0, 0, 0⟩, ⟨16, 0, 0, 3, 0⟩, ⟨21, 0, 0, 0, 0⟩]
theorem ex10_check : checkF ex10 = (0, 0) := by decide
theorem ex10_fine : fineB ex10 = true := by rw [fineB, ex10_check]; rfl
theorem ex10_loops : loopsF ex10 = [⟨0, 1⟩] := by rw [loopsF, ex10_fine]; decide
theorem ex10_next : nextF ex10 1 = [0, 2] := by rw [nextF, ex10_fine]; decide
theorem ex10_depth : (arndL ex10 0).length = 1 := by rw [arndL, ex10_loops]; decide
theorem awake10_fn : Fn Try.prog 27 [] (.bool true) := by
  have c1 := check_fn ex10 (by decide)
  have c2 := Loops_fn ex10 (by decide)
  have c3 := Next_fn ex10 1 (by decide)
  have c4 := depth_fn ex10 0 (by decide)
  have c5 := pl_Spans [⟨0, 1⟩] [⟨0, 1⟩]
  have c6 := pl_Ints [0, 2] [0, 2]
  rw [ex10_check] at c1
  rw [ex10_loops] at c2
  rw [ex10_next] at c3
  rw [ex10_depth] at c4
  rw [decide_eq_true rfl] at c5 c6
  refine fnb Try.func27 (entered_of (by kernel_rfl)) rfl rfl rfl ?_
  repeat' (first | (show W _ _ _ _ _ _; first | refine wseq ?_ | refine wregion ?_ | refine wcondT rfl rfl ?_ | refine wcondF rfl rfl ?_ | (refine wcond rfl rfl (fun hc => ?_) (fun hc => ?_) <;> (try simp only [KL, cond_true, cond_false, beq_iff_eq, bne_iff_ne, ne_eq, reduceCtorEq] at hc) <;> (try (have hT : True := hc; clear hT hc)) <;> (try (exfalso; omega))) | refine wblock ?_ | refine wskip ?_ | refine wexit ?_ | refine wret ?_ | refine wdraw (by kernel_rfl) (by kernel_rfl) ?_) | (show O _ _ _ _ _ _ _; first | (show O _ _ _ _ (⟨_, .store _ _ _, _, _, _, _⟩ :: _) _ _; refine ao_st rfl rfl rfl rfl rfl rfl rfl rfl rfl rfl rfl ?_) | refine onil ?_) | refine dnil ?_ | ((first | apply ao_k | apply ad_k); (· exact rfl); (· exact rfl); (· exact rfl); (· first | (show Y _ ⟨_, .indexAddr _ _ _, _, _, _, _⟩ _ _ _; first | exact q_i rfl rfl rfl rfl rfl (by omega) | exact q_iz rfl rfl rfl rfl rfl (by omega) (by omega) | exact q_io rfl rfl rfl rfl rfl rfl (by omega) | exact q_ioz rfl rfl rfl rfl rfl rfl (by omega) (by omega)) | (show Y _ ⟨_, .slice _ _ _ _ none, _, _, _, _⟩ _ _ _; first | exact q_sl rfl rfl rfl rfl rfl (Exists.intro _ rfl) (by omega) (by omega) | exact q_sl rfl rfl rfl rfl rfl rfl (by omega) (by omega) | exact q_sl rfl rfl rfl rfl (Exists.intro _ rfl) (Exists.intro _ rfl) (by omega) (by omega) | exact q_sl rfl rfl rfl rfl (Exists.intro _ rfl) rfl (by omega) (by omega)) | (show Y _ ⟨_, .call ⟨.builtin .len, _, _⟩, _, _, _, _⟩ _ _ _; first | exact q_l rfl rfl rfl | exact q_lo rfl rfl rfl rfl | exact q_n rfl rfl rfl) | (show Y _ ⟨_, .call ⟨.value _, _, _⟩, _, _, _, _⟩ _ _ _; first | exact q_c (c1) rfl | exact q_c (c2) rfl | exact q_c (c3) rfl | exact q_c (c4) rfl | exact q_c (c5) rfl | exact q_c (c6) rfl) | (refine q_s rfl ?_ <;> (first | trivial | exact Nat.le_of_ble_eq_true rfl | (simp only [rangeP]; omega) | omega)) | (refine q_p rfl rfl rfl rfl ?_ ?_ <;> (first | trivial | exact Nat.le_of_ble_eq_true rfl | (simp only [rangeP]; omega) | omega)) | exact q_u rfl rfl | exact q_b rfl rfl rfl rfl | exact q_g rfl rfl rfl rfl rfl rfl rfl rfl rfl)) | refine ogrdN rfl rfl rfl rfl rfl ?_ | refine dgrdN rfl rfl rfl ?_ | ((first | refine ogrd rfl rfl rfl rfl rfl (fun hc => ?_) (fun hc => ?_) | refine dgrd rfl rfl rfl (fun hc => ?_) (fun hc => ?_)) <;> (try simp only [KL, cond_true, cond_false, beq_iff_eq, bne_iff_ne, ne_eq, reduceCtorEq] at hc) <;> (try (have hT : True := hc; clear hT hc)) <;> (try (exfalso; omega))) | refine nThen ?_ | refine nIn ?_ | refine eThen ?_ | refine eIn ?_ | refine eInNe rfl ?_ | refine rThen ?_ | refine rIn ?_)
  exact retq rfl rfl
end Go.Proofs.Ytnijdaidmpjccaa
