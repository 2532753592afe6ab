/- cmp.Compare of integers. No condition. -/
import Derived.Test.YtnijdaidmpjccaaDoorAvTop
namespace Go.Proofs.YtnijdaidmpjccaaDoor
set_option linter.unusedSimpArgs false
set_option linter.unusedVariables false
set_option maxRecDepth 100000
set_option linter.unusedSimpArgs false
set_option linter.unnecessarySimpa false
open Go.RowKit
def cmpI (a b : Int) : Int := if a < b then -1 else if b < a then 1 else 0
theorem cmpI_neg {a b : Int} : cmpI a b < 0 ↔ a < b := by
  unfold cmpI; split
  · omega
  · split <;> omega
theorem cmpI_z {a b : Int} : cmpI a b = 0 ↔ a = b := by
  unfold cmpI; split
  · omega
  · split <;> omega
theorem nan_fn (a : Int) : Fn Tryd.prog 64 [.int .i64 a] (.bool false) := by
  refine fnb Tryd.func64 (entered_of (by kernel_rfl)) rfl rfl rfl ?_
  repeat' (first | (show W _ _ _ _ _ _; first | refine wseq ?_ | refine wregion rfl ?_ | refine wcondT rfl rfl ?_ | refine wcondF rfl rfl ?_ | refine wblock ?_ | refine wskip ?_ | refine wexit ?_ | refine wret ?_ | refine wdraw (by kernel_rfl) (by kernel_rfl) ?_) | (show O _ _ _ _ _ _ _; first | (show O _ _ _ _ (⟨_, .store _ _ _, _, _, _, _⟩ :: _) _ _; refine ao_st rfl rfl rfl rfl rfl rfl rfl rfl rfl rfl rfl ?_) | refine onil ?_) | refine dnil ?_ | ((first | apply ao_k | apply ad_k); (· exact rfl); (· exact rfl); (· exact rfl); (· first | exact ya)) | refine ogrdN rfl rfl rfl rfl rfl ?_ | refine dgrdN rfl rfl rfl ?_ | ((first | refine wcond rfl rfl (fun hc => ?_) (fun hc => ?_) | refine ogrd rfl rfl rfl rfl rfl (fun hc => ?_) (fun hc => ?_) | refine dgrd rfl rfl rfl (fun hc => ?_) (fun hc => ?_)) <;> (try simp only [KL, cond_true, cond_false, beq_iff_eq, bne_iff_ne, ne_eq, reduceCtorEq] at hc) <;> (try (have hT : True := hc; clear hT hc)) <;> (try (exfalso; omega))) | refine nThen ?_ | refine nIn ?_ | refine eThen ?_ | refine eIn ?_ | refine eInNe rfl ?_ | refine rThen ?_ | refine rIn ?_)
  all_goals exact retq rfl (congrArg AV.bool (by simp))
theorem cmp_fn (a b : Int) : Fn Tryd.prog 46 [.int .i64 a, .int .i64 b] (.int .i64 (cmpI a b)) := by
  refine fnb Tryd.func46 (entered_of (by kernel_rfl)) rfl rfl rfl ?_
  repeat' (first | (show W _ _ _ _ _ _; first | refine wseq ?_ | refine wregion rfl ?_ | refine wcondT rfl rfl ?_ | refine wcondF rfl rfl ?_ | refine wblock ?_ | refine wskip ?_ | refine wexit ?_ | refine wret ?_ | refine wdraw (by kernel_rfl) (by kernel_rfl) ?_) | (show O _ _ _ _ _ _ _; first | (show O _ _ _ _ (⟨_, .store _ _ _, _, _, _, _⟩ :: _) _ _; refine ao_st rfl rfl rfl rfl rfl rfl rfl rfl rfl rfl rfl ?_) | refine onil ?_) | refine dnil ?_ | ((first | apply ao_k | apply ad_k); (· exact rfl); (· exact rfl); (· exact rfl); (· first | (show Y _ ⟨_, .call ⟨.value _, _, _⟩, _, _, _, _⟩ _ _ _; first | exact q_c (nan_fn _) rfl) | exact ya)) | refine ogrdN rfl rfl rfl rfl rfl ?_ | refine dgrdN rfl rfl rfl ?_ | ((first | refine wcond rfl rfl (fun hc => ?_) (fun hc => ?_) | refine ogrd rfl rfl rfl rfl rfl (fun hc => ?_) (fun hc => ?_) | refine dgrd rfl rfl rfl (fun hc => ?_) (fun hc => ?_)) <;> (try simp only [KL, cond_true, cond_false, beq_iff_eq, bne_iff_ne, ne_eq, reduceCtorEq] at hc) <;> (try (have hT : True := hc; clear hT hc)) <;> (try (exfalso; omega))) | refine nThen ?_ | refine nIn ?_ | refine eThen ?_ | refine eIn ?_ | refine eInNe rfl ?_ | refine rThen ?_ | refine rIn ?_)
  all_goals exact retq rfl (congrArg (AV.int .i64) (by unfold cmpI; split <;> first | omega | (split <;> omega)))
end Go.Proofs.YtnijdaidmpjccaaDoor
