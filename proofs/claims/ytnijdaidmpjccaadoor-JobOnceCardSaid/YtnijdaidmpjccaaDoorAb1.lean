/- A plan: how a job gets its ticks. No condition. -/
import Derived.Test.YtnijdaidmpjccaaDoorAvMap
import Derived.Test.YtnijdaidmpjccaaDoorAvSt
import Derived.Test.YtnijdaidmpjccaaDoorPlain
import Derived.Test.YtnijdaidmpjccaaDoorEnTask
import Derived.Test.YtnijdaidmpjccaaDoorEnJob
import Derived.Test.YtnijdaidmpjccaaDoorEnDue
namespace Go.Proofs.YtnijdaidmpjccaaDoor
set_option linter.unusedSimpArgs false
set_option linter.unusedVariables false
set_option maxRecDepth 100000
set_option linter.unusedSimpArgs false
set_option linter.unusedVariables false
set_option maxRecDepth 100000
open Go.RowKit
def inT (n : Int) : Int := max 0 (min n 1099511627776)
def addT (a b : Int) : Int := inT (inT a + inT b)
theorem inT_le (n : Int) : 0 ≤ inT n ∧ inT n ≤ 1099511627776 := by unfold inT; omega
def eLI (x : List Int) : List AV := [.lst 1 (x.map eI)]
/-- Blocks that nobody needs any more are left out at the end. -/
theorem FnH.drop' {P : Program} {f : FuncId} {args : List AV} {hin : Heap} {R : AV → Heap → Prop} (hf : FnH P f args hin (fun r h' => ∃ h2, LeH h' h2 ∧ R r h2)) : FnH P f args hin R :=
  ⟨hf.1, fun may pin σ ι w vs hr hv => (hf.2 may pin σ ι w vs hr hv).mono fun e w' ⟨u, r, h', σ', ι', h1, ⟨h2, hl, hR⟩, h3, h4⟩ => ⟨u, r, h2, σ', ι', h1, hR, h3, h4.le hl⟩⟩
theorem wclamp_fn (n low high : Int) : Fn Tryd.prog 65 [.int .i64 n, .int .i64 low, .int .i64 high] (.int .i64 (max low (min n high))) := by
  refine fnb Tryd.func65 (entered_of (by kernel_rfl)) rfl rfl rfl ?_
  repeat' (first | (show W _ _ _ _ _ _; first | refine wseq ?_ | refine wregion rfl ?_ | refine wcondT rfl rfl ?_ | refine wcondF rfl rfl ?_ | refine wblock ?_ | refine wskip ?_ | refine wexit ?_ | refine wret ?_ | refine wdraw (by kernel_rfl) (by kernel_rfl) ?_) | (show O _ _ _ _ _ _ _; first | (show O _ _ _ _ (⟨_, .store _ _ _, _, _, _, _⟩ :: _) _ _; refine ao_st rfl rfl rfl rfl rfl rfl rfl rfl rfl rfl rfl ?_) | refine onil ?_) | refine dnil ?_ | ((first | apply ao_k | apply ad_k); (· exact rfl); (· exact rfl); (· exact rfl); (· first | exact ya)) | refine ogrdN rfl rfl rfl rfl rfl ?_ | refine dgrdN rfl rfl rfl ?_ | ((first | refine wcond rfl rfl (fun hc => ?_) (fun hc => ?_) | refine ogrd rfl rfl rfl rfl rfl (fun hc => ?_) (fun hc => ?_) | refine dgrd rfl rfl rfl (fun hc => ?_) (fun hc => ?_)) <;> (try simp only [KL, cond_true, cond_false, beq_iff_eq, bne_iff_ne, ne_eq, reduceCtorEq] at hc) <;> (try (have hT : True := hc; clear hT hc)) <;> (try (exfalso; omega))) | refine nThen ?_ | refine nIn ?_ | refine eThen ?_ | refine eIn ?_ | refine eInNe rfl ?_ | refine rThen ?_ | refine rIn ?_)
  exact retq rfl rfl
theorem inside_fn (n : Int) : Fn Tryd.prog 66 [.int .i64 n] (.int .i64 (inT n)) := by
  refine fnb Tryd.func66 (entered_of (by kernel_rfl)) rfl rfl rfl ?_
  repeat' (first | (show W _ _ _ _ _ _; first | refine wseq ?_ | refine wregion rfl ?_ | refine wcondT rfl rfl ?_ | refine wcondF rfl rfl ?_ | refine wblock ?_ | refine wskip ?_ | refine wexit ?_ | refine wret ?_ | refine wdraw (by kernel_rfl) (by kernel_rfl) ?_) | (show O _ _ _ _ _ _ _; first | (show O _ _ _ _ (⟨_, .store _ _ _, _, _, _, _⟩ :: _) _ _; refine ao_st rfl rfl rfl rfl rfl rfl rfl rfl rfl rfl rfl ?_) | refine onil ?_) | refine dnil ?_ | ((first | apply ao_k | apply ad_k); (· exact rfl); (· exact rfl); (· exact rfl); (· first | (show Y _ ⟨_, .call ⟨.value _, _, _⟩, _, _, _, _⟩ _ _ _; first | exact q_c (wclamp_fn _ _ _) rfl) | exact ya)) | refine ogrdN rfl rfl rfl rfl rfl ?_ | refine dgrdN rfl rfl rfl ?_ | ((first | refine wcond rfl rfl (fun hc => ?_) (fun hc => ?_) | refine ogrd rfl rfl rfl rfl rfl (fun hc => ?_) (fun hc => ?_) | refine dgrd rfl rfl rfl (fun hc => ?_) (fun hc => ?_)) <;> (try simp only [KL, cond_true, cond_false, beq_iff_eq, bne_iff_ne, ne_eq, reduceCtorEq] at hc) <;> (try (have hT : True := hc; clear hT hc)) <;> (try (exfalso; omega))) | refine nThen ?_ | refine nIn ?_ | refine eThen ?_ | refine eIn ?_ | refine eInNe rfl ?_ | refine rThen ?_ | refine rIn ?_)
  exact retq rfl rfl
theorem wadd_fn (a b : Int) : Fn Tryd.prog 50 [.int .i64 a, .int .i64 b] (.int .i64 (addT a b)) := by
  have h1 := inT_le a
  have h2 := inT_le b
  refine fnb Tryd.func50 (entered_of (by kernel_rfl)) rfl rfl rfl ?_
  repeat' (first | (show W _ _ _ _ _ _; first | refine wseq ?_ | refine wregion rfl ?_ | refine wcondT rfl rfl ?_ | refine wcondF rfl rfl ?_ | refine wblock ?_ | refine wskip ?_ | refine wexit ?_ | refine wret ?_ | refine wdraw (by kernel_rfl) (by kernel_rfl) ?_) | (show O _ _ _ _ _ _ _; first | (show O _ _ _ _ (⟨_, .store _ _ _, _, _, _, _⟩ :: _) _ _; refine ao_st rfl rfl rfl rfl rfl rfl rfl rfl rfl rfl rfl ?_) | refine onil ?_) | refine dnil ?_ | ((first | apply ao_k | apply ad_k); (· exact rfl); (· exact rfl); (· exact rfl); (· first | (show Y _ ⟨_, .call ⟨.value _, _, _⟩, _, _, _, _⟩ _ _ _; first | exact q_c (inside_fn _) rfl) | exact ya)) | refine ogrdN rfl rfl rfl rfl rfl ?_ | refine dgrdN rfl rfl rfl ?_ | ((first | refine wcond rfl rfl (fun hc => ?_) (fun hc => ?_) | refine ogrd rfl rfl rfl rfl rfl (fun hc => ?_) (fun hc => ?_) | refine dgrd rfl rfl rfl (fun hc => ?_) (fun hc => ?_)) <;> (try simp only [KL, cond_true, cond_false, beq_iff_eq, bne_iff_ne, ne_eq, reduceCtorEq] at hc) <;> (try (have hT : True := hc; clear hT hc)) <;> (try (exfalso; omega))) | refine nThen ?_ | refine nIn ?_ | refine eThen ?_ | refine eIn ?_ | refine eInNe rfl ?_ | refine rThen ?_ | refine rIn ?_)
  exact retq rfl rfl
end Go.Proofs.YtnijdaidmpjccaaDoor
