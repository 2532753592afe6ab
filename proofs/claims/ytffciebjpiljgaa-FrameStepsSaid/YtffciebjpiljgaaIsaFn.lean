/- Which instructions are right, and where they may lead, over abstract values. No condition. -/
import Derived.Test.YtffciebjpiljgaaAvTop
import Derived.Test.YtffciebjpiljgaaEnInstr
import Derived.Test.YtffciebjpiljgaaIsa4
import Derived.Test.YtffciebjpiljgaaFnC
namespace Go.Proofs.Ytffciebjpiljgaa
set_option linter.unusedSimpArgs false
set_option linter.unusedVariables false
set_option maxRecDepth 100000
open Go.RowKit
theorem instr_arg {σ : Sig} {ι : Nat → Value} {x : Instr} {vs : List Value} (h : L2 (VR σ ι) [.agg (eInstr x)] vs) : vs = [instrV x] ∧ x.ok := by
  obtain ⟨v, ys, rfl, h1, h2⟩ := h.cons_inv
  rw [L2.nil_iff] at h2
  subst h2
  obtain ⟨us, rfl, h3⟩ := h1.agg_inv
  have hx := ex_Instr σ ι x us h3
  refine ⟨by rw [hx]; rfl, ?_⟩
  obtain ⟨_, _, _, r0, h3⟩ := L2.cons_inv h3
  obtain ⟨_, _, _, r1, h3⟩ := L2.cons_inv h3
  obtain ⟨_, _, _, r2, h3⟩ := L2.cons_inv h3
  obtain ⟨_, _, _, r3, h3⟩ := L2.cons_inv h3
  obtain ⟨_, _, _, r4, h3⟩ := L2.cons_inv h3
  exact ⟨rangeP_wf.1 r0.int_inv.2, rangeP_wf.1 r1.int_inv.2, rangeP_wf.1 r2.int_inv.2, rangeP_wf.1 r3.int_inv.2, rangeP_wf.1 r4.int_inv.2⟩
theorem right_fn (x : Instr) : Fn Try.prog 103 [.agg (eInstr x)] (.bool (rightI x)) :=
  fn_of_calls (entered_of (by kernel_rfl)) fun σ ι w vs hv => by
    obtain ⟨rfl, hx⟩ := instr_arg hv
    exact ⟨.bool (rightI x), fun _ => .bool _, right_any x w hx⟩
theorem target_fn (x : Instr) (h : 0 ≤ x.n ∧ x.n ≤ 4294967295) : Fn Try.prog 110 [.agg (eInstr x)] (.tup [.int .i64 (tgtI x), .bool (leadsI x)]) :=
  fn_of_calls (entered_of (by kernel_rfl)) fun σ ι w vs hv => by
    obtain ⟨rfl, hx⟩ := instr_arg hv
    refine ⟨.tuple #[.int .i64 (tgtI x), .bool (leadsI x)], fun σ' => .tup _ [_, _] rfl (((L2.nil _).cons (.bool _)).cons (.int _ _ ?_)).2, target_any x w hx⟩
    simp only [rangeP, tgtI]; split <;> omega
theorem right08_fn (x : Instr) : Fn Try.prog 49 [.agg (eInstr x)] (.bool (rightI x)) :=
  fn_of_calls (entered_of (by kernel_rfl)) fun σ ι w vs hv => by
    obtain ⟨rfl, hx⟩ := instr_arg hv
    exact ⟨.bool (rightI x), fun _ => .bool _, right08_any x w hx⟩
theorem leads08_fn (n : Int) : Fn Try.prog 131 [.int .i64 n] (.bool (decide (14 ≤ n ∧ n ≤ 16))) := by
  refine fnb Try.func131 (entered_of (by kernel_rfl)) rfl rfl rfl ?_
  repeat' (first | (show W _ _ _ _ _ _; first | apply kA | refine kB rfl ?_ | refine kC rfl rfl ?_ | refine kD rfl rfl ?_ | apply kE | apply kF | apply kG | apply kH | refine kI (by kernel_rfl) (by kernel_rfl) ?_) | (show O _ _ _ _ _ _ _; first | (show O _ _ _ _ (⟨_, .store _ _ _, _, _, _, _⟩ :: _) _ _; refine kJ rfl rfl rfl rfl rfl rfl rfl rfl rfl rfl rfl ?_) | apply kK) | apply kL | ((first | apply kM | apply kN); (iterate 3 (· exact rfl)); (· first | exact ya)) | refine kO rfl rfl rfl rfl rfl ?_ | refine kP rfl rfl rfl ?_ | ((first | refine kQ rfl rfl ?_ ?_ | refine kR rfl rfl rfl rfl rfl ?_ ?_ | refine kS rfl rfl rfl ?_ ?_) <;> intro hc <;> (try simp only [KL, cond_true, cond_false, beq_iff_eq, bne_iff_ne, ne_eq, reduceCtorEq] at hc) <;> (try (have hT : True := hc; clear hT hc)) <;> (try (exfalso; omega))) | apply kT | apply kU | apply kV | apply kW | refine kX rfl ?_ | apply kY | apply kZ)
  all_goals exact retq rfl (congrArg AV.bool (by rw [Bool.eq_iff_iff]; (try simp only [cond_true, cond_false, decide_eq_true_eq, Bool.not_eq_true', decide_eq_false_iff_not, Bool.and_eq_true, Bool.or_eq_true, true_iff, false_iff, iff_true, iff_false, Bool.false_eq_true, Bool.not_true, Bool.not_false, reduceCtorEq]); (first | done | omega | (constructor <;> intros <;> omega))))
end Go.Proofs.Ytffciebjpiljgaa
