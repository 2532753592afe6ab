/- What the package word, and its reference, compute. No condition. -/
import Derived.Test.YtkkmageogkkchaaPlain
namespace Go.Proofs.Ytkkmageogkkchaa
set_option linter.unusedSimpArgs false
set_option linter.unusedVariables false
set_option maxRecDepth 100000
set_option linter.unusedSimpArgs false
set_option linter.unusedVariables false
set_option maxRecDepth 100000
open Go.RowKit
def clampI (n lo hi : Int) : Int := max lo (min n hi)
def insI (n : Int) : Int := max 0 (min n 1099511627776)
def addI (a b : Int) : Int := min 1099511627776 (insI a + insI b)
def mulI (a b : Int) : Int := min 1099511627776 (insI a * insI b)
def ceilI (a b : Int) : Int := if a < 1 ∨ b < 1 then 0 else (a - 1) / b + 1
def gcdI (a b : Int) : Int := if a < 1 ∨ b < 1 then 0 else (Int.gcd a b : Int)
def lcmI (a b : Int) : Int := if a < 1 ∨ b < 1 then 0 else mulI (a / gcdI a b) b

theorem insB (n : Int) : 0 ≤ insI n ∧ insI n ≤ 1099511627776 := by unfold insI; omega
theorem addB (a b : Int) : 0 ≤ addI a b ∧ addI a b ≤ 1099511627776 := by have := insB a; have := insB b; unfold addI; omega
theorem mulB (a b : Int) : 0 ≤ mulI a b ∧ mulI a b ≤ 1099511627776 := by
  have := Int.mul_nonneg (insB a).1 (insB b).1
  unfold mulI; omega
theorem insId {n : Int} (h : 0 ≤ n) (h' : n ≤ 1099511627776) : insI n = n := by unfold insI; omega
/-- The test on the product's size, as the program makes it. -/
theorem mul_top {x y : Int} (hx : 0 < x) (hy : 0 < y) : 1099511627776 / y < x ↔ 1099511627776 < x * y := by
  rw [Int.ediv_lt_iff_lt_mul hy]
theorem mul_le {x y : Int} (hx : 0 < x) (hy : 0 < y) (h : ¬ 1099511627776 / y < x) : x * y ≤ 1099511627776 := by
  rw [mul_top hx hy] at h; omega

theorem insE (n : Int) : max 0 (min n 1099511627776) = insI n := rfl
theorem addE (a b : Int) : insI (insI a + insI b) = addI a b := by have := insB a; have := insB b; unfold addI; rw [insI]; omega
theorem mul_0 {a b : Int} (h : insI a = 0 ∨ insI b = 0) : mulI a b = 0 := by
  have e : insI a * insI b = 0 := by rcases h with h | h <;> rw [h] <;> simp
  rw [mulI, e]; decide
theorem mul_t {a b : Int} (h1 : 0 < insI a) (h2 : 0 < insI b) (h : 1099511627776 / insI b < insI a) : mulI a b = 1099511627776 := by
  rw [mulI]; have := (mul_top h1 h2).1 h; omega
theorem mul_in {a b : Int} (h1 : 0 < insI a) (h2 : 0 < insI b) (h : ¬ 1099511627776 / insI b < insI a) : mulI a b = insI a * insI b ∧ 0 ≤ insI a * insI b ∧ insI a * insI b ≤ 1099511627776 := by
  have := mul_le h1 h2 h
  have := Int.mul_nonneg (Int.le_of_lt h1) (Int.le_of_lt h2)
  rw [mulI]; omega
theorem rmul_top {x y : Int} (hx : 0 < x) : 1099511627775 / x < y ↔ 1099511627776 ≤ x * y := by
  rw [Int.ediv_lt_iff_lt_mul hx, Int.mul_comm]; omega
theorem kdiv (y : Int) (h : 0 < y) : 0 ≤ 1099511627776 / y ∧ 1099511627776 / y ≤ 1099511627776 := ⟨Int.ediv_nonneg (by omega) (by omega), Int.ediv_le_self _ (by omega)⟩
theorem rdiv (y : Int) (h : 0 < y) : 0 ≤ 1099511627775 / y ∧ 1099511627775 / y ≤ 1099511627775 := ⟨Int.ediv_nonneg (by omega) (by omega), Int.ediv_le_self _ (by omega)⟩
theorem kClamp_fn (n low high : Int) : Fn Try.prog 151 [.int .i64 n, .int .i64 low, .int .i64 high] (.int .i64 (max low (min n high))) := by
  refine fnb Try.func151 (entered_of (by kernel_rfl)) rfl rfl rfl ?_
  repeat' (first | (show W _ _ _ _ _ _; first | apply kA | refine kB rfl ?_ | refine kC rfl rfl ?_ | refine kD rfl rfl ?_ | apply kE | apply kF | apply kG | apply kH | refine kI (by kernel_rfl) (by kernel_rfl) ?_) | (show O _ _ _ _ _ _ _; first | (show O _ _ _ _ (⟨_, .store _ _ _, _, _, _, _⟩ :: _) _ _; refine kJ rfl rfl rfl rfl rfl rfl rfl rfl rfl rfl rfl ?_) | apply kK) | apply kL | ((first | apply kM | apply kN); (iterate 3 (· exact rfl)); (· first | exact ya)) | refine kO rfl rfl rfl rfl rfl ?_ | refine kP rfl rfl rfl ?_ | ((first | refine kQ rfl rfl ?_ ?_ | refine kR rfl rfl rfl rfl rfl ?_ ?_ | refine kS rfl rfl rfl ?_ ?_) <;> intro hc <;> (try simp only [KL, cond_true, cond_false, beq_iff_eq, bne_iff_ne, ne_eq, reduceCtorEq] at hc) <;> (try (have hT : True := hc; clear hT hc)) <;> (try (exfalso; omega))) | apply kT | apply kU | apply kV | apply kW | refine kX rfl ?_ | apply kY | apply kZ)
  exact retq rfl rfl
theorem kInside_fn (n : Int) : Fn Try.prog 122 [.int .i64 n] (.int .i64 (insI n)) := by
  refine fnb Try.func122 (entered_of (by kernel_rfl)) rfl rfl rfl ?_
  repeat' (first | (show W _ _ _ _ _ _; first | apply kA | refine kB rfl ?_ | refine kC rfl rfl ?_ | refine kD rfl rfl ?_ | apply kE | apply kF | apply kG | apply kH | refine kI (by kernel_rfl) (by kernel_rfl) ?_) | (show O _ _ _ _ _ _ _; first | (show O _ _ _ _ (⟨_, .store _ _ _, _, _, _, _⟩ :: _) _ _; refine kJ rfl rfl rfl rfl rfl rfl rfl rfl rfl rfl rfl ?_) | apply kK) | apply kL | ((first | apply kM | apply kN); (iterate 3 (· exact rfl)); (· first | (show Y _ ⟨_, .call ⟨.value _, _, _⟩, _, _, _, _⟩ _ _ _; first | exact q_c (kClamp_fn _ _ _) rfl) | exact ya)) | refine kO rfl rfl rfl rfl rfl ?_ | refine kP rfl rfl rfl ?_ | ((first | refine kQ rfl rfl ?_ ?_ | refine kR rfl rfl rfl rfl rfl ?_ ?_ | refine kS rfl rfl rfl ?_ ?_) <;> intro hc <;> (try simp only [KL, cond_true, cond_false, beq_iff_eq, bne_iff_ne, ne_eq, reduceCtorEq] at hc) <;> (try (have hT : True := hc; clear hT hc)) <;> (try (exfalso; omega))) | apply kT | apply kU | apply kV | apply kW | refine kX rfl ?_ | apply kY | apply kZ)
  exact retq rfl rfl
theorem kAdd_fn (a b : Int) : Fn Try.prog 84 [.int .i64 a, .int .i64 b] (.int .i64 (addI a b)) := by
  have h1 := insB a
  have h2 := insB b
  refine fnb Try.func84 (entered_of (by kernel_rfl)) rfl rfl rfl ?_
  repeat' (first | (show W _ _ _ _ _ _; first | apply kA | refine kB rfl ?_ | refine kC rfl rfl ?_ | refine kD rfl rfl ?_ | apply kE | apply kF | apply kG | apply kH | refine kI (by kernel_rfl) (by kernel_rfl) ?_) | (show O _ _ _ _ _ _ _; first | (show O _ _ _ _ (⟨_, .store _ _ _, _, _, _, _⟩ :: _) _ _; refine kJ rfl rfl rfl rfl rfl rfl rfl rfl rfl rfl rfl ?_) | apply kK) | apply kL | ((first | apply kM | apply kN); (iterate 3 (· exact rfl)); (· first | (show Y _ ⟨_, .call ⟨.value _, _, _⟩, _, _, _, _⟩ _ _ _; first | exact q_c (kInside_fn _) rfl) | exact ya)) | refine kO rfl rfl rfl rfl rfl ?_ | refine kP rfl rfl rfl ?_ | ((first | refine kQ rfl rfl ?_ ?_ | refine kR rfl rfl rfl rfl rfl ?_ ?_ | refine kS rfl rfl rfl ?_ ?_) <;> intro hc <;> (try simp only [KL, cond_true, cond_false, beq_iff_eq, bne_iff_ne, ne_eq, reduceCtorEq] at hc) <;> (try (have hT : True := hc; clear hT hc)) <;> (try (exfalso; omega))) | apply kT | apply kU | apply kV | apply kW | refine kX rfl ?_ | apply kY | apply kZ)
  exact retq rfl (congrArg (AV.int .i64) (addE a b))
theorem kMul_fn (a b : Int) : Fn Try.prog 82 [.int .i64 a, .int .i64 b] (.int .i64 (mulI a b)) := by
  have h1 := insB a
  have h2 := insB b
  have c1 := kInside_fn a
  have c2 := kInside_fn b
  by_cases h0 : insI a = 0 ∨ insI b = 0
  · rw [mul_0 h0]
    generalize insI a = x at *
    generalize insI b = y at *
    refine fnb Try.func82 (entered_of (by kernel_rfl)) rfl rfl rfl ?_
    repeat' (first | (show W _ _ _ _ _ _; first | apply kA | refine kB rfl ?_ | refine kC rfl rfl ?_ | refine kD rfl rfl ?_ | apply kE | apply kF | apply kG | apply kH | refine kI (by kernel_rfl) (by kernel_rfl) ?_) | (show O _ _ _ _ _ _ _; first | (show O _ _ _ _ (⟨_, .store _ _ _, _, _, _, _⟩ :: _) _ _; refine kJ rfl rfl rfl rfl rfl rfl rfl rfl rfl rfl rfl ?_) | apply kK) | apply kL | ((first | apply kM | apply kN); (iterate 3 (· exact rfl)); (· first | (show Y _ ⟨_, .call ⟨.value _, _, _⟩, _, _, _, _⟩ _ _ _; first | exact q_c (c1) rfl | exact q_c (c2) rfl) | exact ya)) | refine kO rfl rfl rfl rfl rfl ?_ | refine kP rfl rfl rfl ?_ | ((first | refine kQ rfl rfl ?_ ?_ | refine kR rfl rfl rfl rfl rfl ?_ ?_ | refine kS rfl rfl rfl ?_ ?_) <;> intro hc <;> (try simp only [KL, cond_true, cond_false, beq_iff_eq, bne_iff_ne, ne_eq, reduceCtorEq] at hc) <;> (try (have hT : True := hc; clear hT hc)) <;> (try (exfalso; omega))) | apply kT | apply kU | apply kV | apply kW | refine kX rfl ?_ | apply kY | apply kZ)
    all_goals first | (exfalso; omega) | exact retq rfl rfl
  have hd := kdiv (insI b) (by omega)
  by_cases ht : 1099511627776 / insI b < insI a
  · rw [mul_t (by omega) (by omega) ht]
    generalize insI a = x at *
    generalize insI b = y at *
    refine fnb Try.func82 (entered_of (by kernel_rfl)) rfl rfl rfl ?_
    repeat' (first | (show W _ _ _ _ _ _; first | apply kA | refine kB rfl ?_ | refine kC rfl rfl ?_ | refine kD rfl rfl ?_ | apply kE | apply kF | apply kG | apply kH | refine kI (by kernel_rfl) (by kernel_rfl) ?_) | (show O _ _ _ _ _ _ _; first | (show O _ _ _ _ (⟨_, .store _ _ _, _, _, _, _⟩ :: _) _ _; refine kJ rfl rfl rfl rfl rfl rfl rfl rfl rfl rfl rfl ?_) | apply kK) | apply kL | ((first | apply kM | apply kN); (iterate 3 (· exact rfl)); (· first | (show Y _ ⟨_, .call ⟨.value _, _, _⟩, _, _, _, _⟩ _ _ _; first | exact q_c (c1) rfl | exact q_c (c2) rfl) | exact ya)) | refine kO rfl rfl rfl rfl rfl ?_ | refine kP rfl rfl rfl ?_ | ((first | refine kQ rfl rfl ?_ ?_ | refine kR rfl rfl rfl rfl rfl ?_ ?_ | refine kS rfl rfl rfl ?_ ?_) <;> intro hc <;> (try simp only [KL, cond_true, cond_false, beq_iff_eq, bne_iff_ne, ne_eq, reduceCtorEq] at hc) <;> (try (have hT : True := hc; clear hT hc)) <;> (try (exfalso; omega))) | apply kT | apply kU | apply kV | apply kW | refine kX rfl ?_ | apply kY | apply kZ)
    all_goals first | (exfalso; omega) | exact retq rfl rfl
  · obtain ⟨e, h3, h4⟩ := mul_in (a := a) (b := b) (by omega) (by omega) ht
    rw [e]
    generalize insI a = x at *
    generalize insI b = y at *
    refine fnb Try.func82 (entered_of (by kernel_rfl)) rfl rfl rfl ?_
    repeat' (first | (show W _ _ _ _ _ _; first | apply kA | refine kB rfl ?_ | refine kC rfl rfl ?_ | refine kD rfl rfl ?_ | apply kE | apply kF | apply kG | apply kH | refine kI (by kernel_rfl) (by kernel_rfl) ?_) | (show O _ _ _ _ _ _ _; first | (show O _ _ _ _ (⟨_, .store _ _ _, _, _, _, _⟩ :: _) _ _; refine kJ rfl rfl rfl rfl rfl rfl rfl rfl rfl rfl rfl ?_) | apply kK) | apply kL | ((first | apply kM | apply kN); (iterate 3 (· exact rfl)); (· first | (show Y _ ⟨_, .call ⟨.value _, _, _⟩, _, _, _, _⟩ _ _ _; first | exact q_c (c1) rfl | exact q_c (c2) rfl) | exact ya)) | refine kO rfl rfl rfl rfl rfl ?_ | refine kP rfl rfl rfl ?_ | ((first | refine kQ rfl rfl ?_ ?_ | refine kR rfl rfl rfl rfl rfl ?_ ?_ | refine kS rfl rfl rfl ?_ ?_) <;> intro hc <;> (try simp only [KL, cond_true, cond_false, beq_iff_eq, bne_iff_ne, ne_eq, reduceCtorEq] at hc) <;> (try (have hT : True := hc; clear hT hc)) <;> (try (exfalso; omega))) | apply kT | apply kU | apply kV | apply kW | refine kX rfl ?_ | apply kY | apply kZ)
    all_goals first | (exfalso; omega) | exact retq rfl rfl
theorem kCeil_fn (a b : Int) : Fn Try.prog 83 [.int .i64 a, .int .i64 b] (.int .i64 (ceilI a b)) := by
  refine fnb Try.func83 (entered_of (by kernel_rfl)) rfl rfl rfl ?_
  refine wrange 0 rfl (fun hr => ?_)
  simp only [rangeP] at hr
  have hd : 1 ≤ a → 1 ≤ b → 0 ≤ (a - 1) / b ∧ (a - 1) / b ≤ a - 1 := fun h1 h2 => ⟨Int.ediv_nonneg (by omega) (by omega), Int.ediv_le_self _ (by omega)⟩
  by_cases h1 : a < 1
  · repeat' (first | (show W _ _ _ _ _ _; first | apply kA | refine kB rfl ?_ | refine kC rfl rfl ?_ | refine kD rfl rfl ?_ | apply kE | apply kF | apply kG | apply kH | refine kI (by kernel_rfl) (by kernel_rfl) ?_) | (show O _ _ _ _ _ _ _; first | (show O _ _ _ _ (⟨_, .store _ _ _, _, _, _, _⟩ :: _) _ _; refine kJ rfl rfl rfl rfl rfl rfl rfl rfl rfl rfl rfl ?_) | apply kK) | apply kL | ((first | apply kM | apply kN); (iterate 3 (· exact rfl)); (· first | exact ya)) | refine kO rfl rfl rfl rfl rfl ?_ | refine kP rfl rfl rfl ?_ | ((first | refine kQ rfl rfl ?_ ?_ | refine kR rfl rfl rfl rfl rfl ?_ ?_ | refine kS rfl rfl rfl ?_ ?_) <;> intro hc <;> (try simp only [KL, cond_true, cond_false, beq_iff_eq, bne_iff_ne, ne_eq, reduceCtorEq] at hc) <;> (try (have hT : True := hc; clear hT hc)) <;> (try (exfalso; omega))) | apply kT | apply kU | apply kV | apply kW | refine kX rfl ?_ | apply kY | apply kZ)
    all_goals first | (exfalso; omega) | exact retq rfl (congrArg (AV.int _) (by rw [ceilI, if_pos (.inl h1)]))
  by_cases h2 : b < 1
  · repeat' (first | (show W _ _ _ _ _ _; first | apply kA | refine kB rfl ?_ | refine kC rfl rfl ?_ | refine kD rfl rfl ?_ | apply kE | apply kF | apply kG | apply kH | refine kI (by kernel_rfl) (by kernel_rfl) ?_) | (show O _ _ _ _ _ _ _; first | (show O _ _ _ _ (⟨_, .store _ _ _, _, _, _, _⟩ :: _) _ _; refine kJ rfl rfl rfl rfl rfl rfl rfl rfl rfl rfl rfl ?_) | apply kK) | apply kL | ((first | apply kM | apply kN); (iterate 3 (· exact rfl)); (· first | exact ya)) | refine kO rfl rfl rfl rfl rfl ?_ | refine kP rfl rfl rfl ?_ | ((first | refine kQ rfl rfl ?_ ?_ | refine kR rfl rfl rfl rfl rfl ?_ ?_ | refine kS rfl rfl rfl ?_ ?_) <;> intro hc <;> (try simp only [KL, cond_true, cond_false, beq_iff_eq, bne_iff_ne, ne_eq, reduceCtorEq] at hc) <;> (try (have hT : True := hc; clear hT hc)) <;> (try (exfalso; omega))) | apply kT | apply kU | apply kV | apply kW | refine kX rfl ?_ | apply kY | apply kZ)
    all_goals first | (exfalso; omega) | exact retq rfl (congrArg (AV.int _) (by rw [ceilI, if_pos (.inr h2)]))
  have hd := hd (by omega) (by omega)
  repeat' (first | (show W _ _ _ _ _ _; first | apply kA | refine kB rfl ?_ | refine kC rfl rfl ?_ | refine kD rfl rfl ?_ | apply kE | apply kF | apply kG | apply kH | refine kI (by kernel_rfl) (by kernel_rfl) ?_) | (show O _ _ _ _ _ _ _; first | (show O _ _ _ _ (⟨_, .store _ _ _, _, _, _, _⟩ :: _) _ _; refine kJ rfl rfl rfl rfl rfl rfl rfl rfl rfl rfl rfl ?_) | apply kK) | apply kL | ((first | apply kM | apply kN); (iterate 3 (· exact rfl)); (· first | exact ya)) | refine kO rfl rfl rfl rfl rfl ?_ | refine kP rfl rfl rfl ?_ | ((first | refine kQ rfl rfl ?_ ?_ | refine kR rfl rfl rfl rfl rfl ?_ ?_ | refine kS rfl rfl rfl ?_ ?_) <;> intro hc <;> (try simp only [KL, cond_true, cond_false, beq_iff_eq, bne_iff_ne, ne_eq, reduceCtorEq] at hc) <;> (try (have hT : True := hc; clear hT hc)) <;> (try (exfalso; omega))) | apply kT | apply kU | apply kV | apply kW | refine kX rfl ?_ | apply kY | apply kZ)
  all_goals exact retq rfl (congrArg (AV.int _) (by rw [ceilI, if_neg (by omega)]))
theorem rClamp_fn (n low high : Int) (h : low ≤ high) : Fn Try.prog 138 [.int .i64 n, .int .i64 low, .int .i64 high] (.int .i64 (max low (min n high))) := by
  refine fnb Try.func138 (entered_of (by kernel_rfl)) rfl rfl rfl ?_
  repeat' (first | (show W _ _ _ _ _ _; first | apply kA | refine kB rfl ?_ | refine kC rfl rfl ?_ | refine kD rfl rfl ?_ | apply kE | apply kF | apply kG | apply kH | refine kI (by kernel_rfl) (by kernel_rfl) ?_) | (show O _ _ _ _ _ _ _; first | (show O _ _ _ _ (⟨_, .store _ _ _, _, _, _, _⟩ :: _) _ _; refine kJ rfl rfl rfl rfl rfl rfl rfl rfl rfl rfl rfl ?_) | apply kK) | apply kL | ((first | apply kM | apply kN); (iterate 3 (· exact rfl)); (· first | exact ya)) | refine kO rfl rfl rfl rfl rfl ?_ | refine kP rfl rfl rfl ?_ | ((first | refine kQ rfl rfl ?_ ?_ | refine kR rfl rfl rfl rfl rfl ?_ ?_ | refine kS rfl rfl rfl ?_ ?_) <;> intro hc <;> (try simp only [KL, cond_true, cond_false, beq_iff_eq, bne_iff_ne, ne_eq, reduceCtorEq] at hc) <;> (try (have hT : True := hc; clear hT hc)) <;> (try (exfalso; omega))) | apply kT | apply kU | apply kV | apply kW | refine kX rfl ?_ | apply kY | apply kZ)
  all_goals first | (exfalso; omega) | exact retq rfl (congrArg (AV.int .i64) (by omega))
theorem rIns_fn (n : Int) : Fn Try.prog 138 [.int .i64 n, .int .i64 0, .int .i64 1099511627776] (.int .i64 (insI n)) := rClamp_fn n 0 1099511627776 (by omega)
theorem rAdd_fn (a b : Int) : Fn Try.prog 175 [.int .i64 a, .int .i64 b] (.int .i64 (addI a b)) := by
  have h1 := insB a
  have h2 := insB b
  refine fnb Try.func175 (entered_of (by kernel_rfl)) rfl rfl rfl ?_
  repeat' (first | (show W _ _ _ _ _ _; first | apply kA | refine kB rfl ?_ | refine kC rfl rfl ?_ | refine kD rfl rfl ?_ | apply kE | apply kF | apply kG | apply kH | refine kI (by kernel_rfl) (by kernel_rfl) ?_) | (show O _ _ _ _ _ _ _; first | (show O _ _ _ _ (⟨_, .store _ _ _, _, _, _, _⟩ :: _) _ _; refine kJ rfl rfl rfl rfl rfl rfl rfl rfl rfl rfl rfl ?_) | apply kK) | apply kL | ((first | apply kM | apply kN); (iterate 3 (· exact rfl)); (· first | (show Y _ ⟨_, .call ⟨.value _, _, _⟩, _, _, _, _⟩ _ _ _; first | exact q_c (rIns_fn _) rfl) | exact ya)) | refine kO rfl rfl rfl rfl rfl ?_ | refine kP rfl rfl rfl ?_ | ((first | refine kQ rfl rfl ?_ ?_ | refine kR rfl rfl rfl rfl rfl ?_ ?_ | refine kS rfl rfl rfl ?_ ?_) <;> intro hc <;> (try simp only [KL, cond_true, cond_false, beq_iff_eq, bne_iff_ne, ne_eq, reduceCtorEq] at hc) <;> (try (have hT : True := hc; clear hT hc)) <;> (try (exfalso; omega))) | apply kT | apply kU | apply kV | apply kW | refine kX rfl ?_ | apply kY | apply kZ)
  exact retq rfl (congrArg (AV.int .i64) (addE a b))
theorem rMul_fn (a b : Int) : Fn Try.prog 137 [.int .i64 a, .int .i64 b] (.int .i64 (mulI a b)) := by
  have h1 := insB a
  have h2 := insB b
  have c1 := rIns_fn a
  have c2 := rIns_fn b
  by_cases h0 : insI a = 0
  · rw [mul_0 (.inl h0)]
    rw [h0] at c1
    generalize insI b = y at *
    refine fnb Try.func137 (entered_of (by kernel_rfl)) rfl rfl rfl ?_
    repeat' (first | (show W _ _ _ _ _ _; first | apply kA | refine kB rfl ?_ | refine kC rfl rfl ?_ | refine kD rfl rfl ?_ | apply kE | apply kF | apply kG | apply kH | refine kI (by kernel_rfl) (by kernel_rfl) ?_) | (show O _ _ _ _ _ _ _; first | (show O _ _ _ _ (⟨_, .store _ _ _, _, _, _, _⟩ :: _) _ _; refine kJ rfl rfl rfl rfl rfl rfl rfl rfl rfl rfl rfl ?_) | apply kK) | apply kL | ((first | apply kM | apply kN); (iterate 3 (· exact rfl)); (· first | (show Y _ ⟨_, .call ⟨.value _, _, _⟩, _, _, _, _⟩ _ _ _; first | exact q_c (c1) rfl | exact q_c (c2) rfl) | exact ya)) | refine kO rfl rfl rfl rfl rfl ?_ | refine kP rfl rfl rfl ?_ | ((first | refine kQ rfl rfl ?_ ?_ | refine kR rfl rfl rfl rfl rfl ?_ ?_ | refine kS rfl rfl rfl ?_ ?_) <;> intro hc <;> (try simp only [KL, cond_true, cond_false, beq_iff_eq, bne_iff_ne, ne_eq, reduceCtorEq] at hc) <;> (try (have hT : True := hc; clear hT hc)) <;> (try (exfalso; omega))) | apply kT | apply kU | apply kV | apply kW | refine kX rfl ?_ | apply kY | apply kZ)
    all_goals first | (exfalso; omega) | exact retq rfl (congrArg (AV.int .i64) (by simp))
  have hd := rdiv (insI a) (by omega)
  have hm := rmul_top (x := insI a) (y := insI b) (by omega)
  have hp := Int.mul_nonneg h1.1 h2.1
  by_cases ht : 1099511627775 / insI a < insI b
  · have e : mulI a b = 1099511627776 := by rw [mulI]; have := hm.1 ht; omega
    rw [e]
    generalize insI a = x at *
    generalize insI b = y at *
    refine fnb Try.func137 (entered_of (by kernel_rfl)) rfl rfl rfl ?_
    repeat' (first | (show W _ _ _ _ _ _; first | apply kA | refine kB rfl ?_ | refine kC rfl rfl ?_ | refine kD rfl rfl ?_ | apply kE | apply kF | apply kG | apply kH | refine kI (by kernel_rfl) (by kernel_rfl) ?_) | (show O _ _ _ _ _ _ _; first | (show O _ _ _ _ (⟨_, .store _ _ _, _, _, _, _⟩ :: _) _ _; refine kJ rfl rfl rfl rfl rfl rfl rfl rfl rfl rfl rfl ?_) | apply kK) | apply kL | ((first | apply kM | apply kN); (iterate 3 (· exact rfl)); (· first | (show Y _ ⟨_, .call ⟨.value _, _, _⟩, _, _, _, _⟩ _ _ _; first | exact q_c (c1) rfl | exact q_c (c2) rfl) | exact ya)) | refine kO rfl rfl rfl rfl rfl ?_ | refine kP rfl rfl rfl ?_ | ((first | refine kQ rfl rfl ?_ ?_ | refine kR rfl rfl rfl rfl rfl ?_ ?_ | refine kS rfl rfl rfl ?_ ?_) <;> intro hc <;> (try simp only [KL, cond_true, cond_false, beq_iff_eq, bne_iff_ne, ne_eq, reduceCtorEq] at hc) <;> (try (have hT : True := hc; clear hT hc)) <;> (try (exfalso; omega))) | apply kT | apply kU | apply kV | apply kW | refine kX rfl ?_ | apply kY | apply kZ)
    all_goals first | (exfalso; omega) | exact retq rfl rfl
  · have h3 : insI a * insI b < 1099511627776 := by
      rcases Int.lt_or_le (insI a * insI b) 1099511627776 with q | q
      · exact q
      · exact absurd (hm.2 q) ht
    have e : mulI a b = insI a * insI b := by rw [mulI]; omega
    rw [e]
    generalize insI a = x at *
    generalize insI b = y at *
    refine fnb Try.func137 (entered_of (by kernel_rfl)) rfl rfl rfl ?_
    repeat' (first | (show W _ _ _ _ _ _; first | apply kA | refine kB rfl ?_ | refine kC rfl rfl ?_ | refine kD rfl rfl ?_ | apply kE | apply kF | apply kG | apply kH | refine kI (by kernel_rfl) (by kernel_rfl) ?_) | (show O _ _ _ _ _ _ _; first | (show O _ _ _ _ (⟨_, .store _ _ _, _, _, _, _⟩ :: _) _ _; refine kJ rfl rfl rfl rfl rfl rfl rfl rfl rfl rfl rfl ?_) | apply kK) | apply kL | ((first | apply kM | apply kN); (iterate 3 (· exact rfl)); (· first | (show Y _ ⟨_, .call ⟨.value _, _, _⟩, _, _, _, _⟩ _ _ _; first | exact q_c (c1) rfl | exact q_c (c2) rfl) | exact ya)) | refine kO rfl rfl rfl rfl rfl ?_ | refine kP rfl rfl rfl ?_ | ((first | refine kQ rfl rfl ?_ ?_ | refine kR rfl rfl rfl rfl rfl ?_ ?_ | refine kS rfl rfl rfl ?_ ?_) <;> intro hc <;> (try simp only [KL, cond_true, cond_false, beq_iff_eq, bne_iff_ne, ne_eq, reduceCtorEq] at hc) <;> (try (have hT : True := hc; clear hT hc)) <;> (try (exfalso; omega))) | apply kT | apply kU | apply kV | apply kW | refine kX rfl ?_ | apply kY | apply kZ)
    all_goals first | (exfalso; omega) | exact retq rfl rfl
end Go.Proofs.Ytkkmageogkkchaa
