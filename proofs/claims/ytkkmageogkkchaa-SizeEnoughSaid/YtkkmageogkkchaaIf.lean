/- What a task does with an object; how often its reads are spoilt, and what a job takes. No condition. -/
import Derived.Test.YtkkmageogkkchaaDc
import Derived.Test.YtkkmageogkkchaaCs4
import Derived.Test.YtkkmageogkkchaaArr2
import Derived.Test.YtkkmageogkkchaaAvDrN
namespace Go.Proofs.Ytkkmageogkkchaa
set_option linter.unusedSimpArgs false
set_option linter.unusedVariables false
set_option maxRecDepth 100000
set_option linter.unusedSimpArgs false
set_option linter.unusedVariables false
set_option maxRecDepth 100000
open Go.RowKit
def readsB (S : System) (i k : Int) : Bool := decide (roleI S i k = 1) && decide (0 < countI S i k false)
def aheadO (S : System) (i k : Int) : Bool := aheadB S.tasks (objD S k).writer i
theorem role_in {S : System} {i k : Int} (h : roleI S i k ≠ 0) : 0 ≤ i ∧ i < S.tasks.length ∧ 0 ≤ k ∧ k < S.objects.length := by
  unfold roleI at h
  split at h
  · exact absurd rfl h
  · omega
theorem reads_in {S : System} {i k : Int} (h : readsB S i k = true) : 0 ≤ i ∧ i < S.tasks.length ∧ 0 ≤ k ∧ k < S.objects.length := by
  rw [readsB, Bool.and_eq_true, decide_eq_true_eq] at h
  exact role_in (by omega)
def writesI (S : System) (i k r : Int) : Int := if readsB S i k = true ∧ aheadO S i k = true then mulI (ceilI r (tskD S (objD S k).writer).period) (countI S (objD S k).writer k true) else 0
def failsO (o : Object) (n : Int) : Int := if n = 0 then 0 else if o.kind = 3 ∨ o.kind = 5 then n else if o.kind = 4 then (if 2 < o.slots then n / (o.slots - 1) else n) else 0
def failsI (S : System) (i k r : Int) : Int := failsO (objD S k) (writesI S i k r)
def jobTo (S : System) (i r : Int) : Nat → Int
  | 0 => (demI S i 0).1
  | m + 1 => addI (jobTo S i r m) (mulI (failsI S i m r) (failI (S.objects.getD m default) 1))
def jobI (S : System) (i r : Int) : Int := if (demI S i 0).2 ≠ 0 then 0 else jobTo S i r S.objects.length
theorem writes_B (S : System) (i k r : Int) : 0 ≤ writesI S i k r ∧ writesI S i k r ≤ 1099511627776 := by
  unfold writesI; split
  · exact mulB _ _
  · omega
theorem fails_B (o : Object) {n : Int} (h : 0 ≤ n ∧ n ≤ 1099511627776) : 0 ≤ failsO o n ∧ failsO o n ≤ 1099511627776 := by
  unfold failsO
  split
  · omega
  · split
    · exact h
    · split
      · split
        · have h1 := Int.ediv_nonneg h.1 (show 0 ≤ o.slots - 1 by omega)
          have h2 := Int.ediv_le_self (o.slots - 1) h.1
          omega
        · exact h
      · omega
theorem reads_fn (S : System) (h : OkS S) (i k : Int) : Fn Try.prog 80 [.agg (eSystem S), .int .i64 i, .int .i64 k] (.bool (readsB S i k)) := by
  have c1 := role_fn S h i k
  have c2 := dreads_fn S h i k
  by_cases h1 : roleI S i k = 1
  · rw [readsB, decide_eq_true h1, Bool.true_and]
    refine fnb Try.func80 (entered_of (by kernel_rfl)) rfl rfl rfl ?_
    repeat' (first | (show W _ _ _ _ _ _; first | apply kA | refine kB rfl ?_ | refine kC rfl rfl ?_ | refine kD rfl rfl ?_ | apply kE | apply kF | apply kG | apply kH | refine kI (by kernel_rfl) (by kernel_rfl) ?_) | (show O _ _ _ _ _ _ _; first | (show O _ _ _ _ (⟨_, .store _ _ _, _, _, _, _⟩ :: _) _ _; refine kJ rfl rfl rfl rfl rfl rfl rfl rfl rfl rfl rfl ?_) | apply kK) | apply kL | ((first | apply kM | apply kN); (iterate 3 (· exact rfl)); (· first | (show Y _ ⟨_, .call ⟨.value _, _, _⟩, _, _, _, _⟩ _ _ _; first | exact q_c (c1) rfl | exact q_c (c2) rfl) | exact ya)) | refine kO rfl rfl rfl rfl rfl ?_ | refine kP rfl rfl rfl ?_ | ((first | refine kQ rfl rfl ?_ ?_ | refine kR rfl rfl rfl rfl rfl ?_ ?_ | refine kS rfl rfl rfl ?_ ?_) <;> intro hc <;> (try simp only [KL, cond_true, cond_false, beq_iff_eq, bne_iff_ne, ne_eq, reduceCtorEq] at hc) <;> (try (have hT : True := hc; clear hT hc)) <;> (try (exfalso; omega))) | apply kT | apply kU | apply kV | apply kW | refine kX rfl ?_ | apply kY | apply kZ)
    all_goals first | (exfalso; omega) | exact retq rfl rfl
  · rw [readsB, decide_eq_false h1, Bool.false_and]
    refine fnb Try.func80 (entered_of (by kernel_rfl)) rfl rfl rfl ?_
    repeat' (first | (show W _ _ _ _ _ _; first | apply kA | refine kB rfl ?_ | refine kC rfl rfl ?_ | refine kD rfl rfl ?_ | apply kE | apply kF | apply kG | apply kH | refine kI (by kernel_rfl) (by kernel_rfl) ?_) | (show O _ _ _ _ _ _ _; first | (show O _ _ _ _ (⟨_, .store _ _ _, _, _, _, _⟩ :: _) _ _; refine kJ rfl rfl rfl rfl rfl rfl rfl rfl rfl rfl rfl ?_) | apply kK) | apply kL | ((first | apply kM | apply kN); (iterate 3 (· exact rfl)); (· first | (show Y _ ⟨_, .call ⟨.value _, _, _⟩, _, _, _, _⟩ _ _ _; first | exact q_c (c1) rfl | exact q_c (c2) rfl) | exact ya)) | refine kO rfl rfl rfl rfl rfl ?_ | refine kP rfl rfl rfl ?_ | ((first | refine kQ rfl rfl ?_ ?_ | refine kR rfl rfl rfl rfl rfl ?_ ?_ | refine kS rfl rfl rfl ?_ ?_) <;> intro hc <;> (try simp only [KL, cond_true, cond_false, beq_iff_eq, bne_iff_ne, ne_eq, reduceCtorEq] at hc) <;> (try (have hT : True := hc; clear hT hc)) <;> (try (exfalso; omega))) | apply kT | apply kU | apply kV | apply kW | refine kX rfl ?_ | apply kY | apply kZ)
    all_goals first | (exfalso; omega) | exact retq rfl rfl
theorem ahead37_fn (S : System) (h : OkS S) (i k : Int) (hk : 0 ≤ k ∧ k < S.objects.length) : Fn Try.prog 81 [.agg (eSystem S), .int .i64 i, .int .i64 k] (.bool (aheadO S i k)) := by
  have h1 := h.tl
  have c1 := ahead_fn S.tasks (objD S k).writer i (by omega)
  refine fnb Try.func81 (entered_of (by kernel_rfl)) rfl rfl rfl ?_
  repeat' (first | (show W _ _ _ _ _ _; first | apply kA | refine kB rfl ?_ | refine kC rfl rfl ?_ | refine kD rfl rfl ?_ | apply kE | apply kF | apply kG | apply kH | refine kI (by kernel_rfl) (by kernel_rfl) ?_) | (show O _ _ _ _ _ _ _; first | (show O _ _ _ _ (⟨_, .store _ _ _, _, _, _, _⟩ :: _) _ _; refine kJ rfl rfl rfl rfl rfl rfl rfl rfl rfl rfl rfl ?_) | apply kK) | apply kL | ((first | apply kM | apply kN); (iterate 3 (· exact rfl)); (· first | (show Y _ ⟨_, .call ⟨.value _, _, _⟩, _, _, _, _⟩ _ _ _; first | exact q_c (c1) rfl) | exact ya)) | refine kO rfl rfl rfl rfl rfl ?_ | refine kP rfl rfl rfl ?_ | ((first | refine kQ rfl rfl ?_ ?_ | refine kR rfl rfl rfl rfl rfl ?_ ?_ | refine kS rfl rfl rfl ?_ ?_) <;> intro hc <;> (try simp only [KL, cond_true, cond_false, beq_iff_eq, bne_iff_ne, ne_eq, reduceCtorEq] at hc) <;> (try (have hT : True := hc; clear hT hc)) <;> (try (exfalso; omega))) | apply kT | apply kU | apply kV | apply kW | refine kX rfl ?_ | apply kY | apply kZ)
  exact retq rfl rfl
theorem writes_fn (S : System) (h : OkS S) (i k r : Int) : Fn Try.prog 36 [.agg (eSystem S), .int .i64 i, .int .i64 k, .int .i64 r] (.int .i64 (writesI S i k r)) := by
  have c1 := reads_fn S h i k
  cases hr : readsB S i k
  · rw [hr] at c1
    rw [writesI, hr, if_neg (by simp)]
    refine fnb Try.func36 (entered_of (by kernel_rfl)) rfl rfl rfl ?_
    repeat' (first | (show W _ _ _ _ _ _; first | apply kA | refine kB rfl ?_ | refine kC rfl rfl ?_ | refine kD rfl rfl ?_ | apply kE | apply kF | apply kG | apply kH | refine kI (by kernel_rfl) (by kernel_rfl) ?_) | (show O _ _ _ _ _ _ _; first | (show O _ _ _ _ (⟨_, .store _ _ _, _, _, _, _⟩ :: _) _ _; refine kJ rfl rfl rfl rfl rfl rfl rfl rfl rfl rfl rfl ?_) | apply kK) | apply kL | ((first | apply kM | apply kN); (iterate 3 (· exact rfl)); (· first | (show Y _ ⟨_, .call ⟨.value _, _, _⟩, _, _, _, _⟩ _ _ _; first | exact q_c (c1) rfl) | exact ya)) | refine kO rfl rfl rfl rfl rfl ?_ | refine kP rfl rfl rfl ?_ | ((first | refine kQ rfl rfl ?_ ?_ | refine kR rfl rfl rfl rfl rfl ?_ ?_ | refine kS rfl rfl rfl ?_ ?_) <;> intro hc <;> (try simp only [KL, cond_true, cond_false, beq_iff_eq, bne_iff_ne, ne_eq, reduceCtorEq] at hc) <;> (try (have hT : True := hc; clear hT hc)) <;> (try (exfalso; omega))) | apply kT | apply kU | apply kV | apply kW | refine kX rfl ?_ | apply kY | apply kZ)
    all_goals exact retq rfl rfl
  rw [hr] at c1
  have hin := reads_in hr
  have c2 := ahead37_fn S h i k (by omega)
  cases ha : aheadO S i k
  · rw [ha] at c2
    rw [writesI, ha, if_neg (by simp)]
    refine fnb Try.func36 (entered_of (by kernel_rfl)) rfl rfl rfl ?_
    repeat' (first | (show W _ _ _ _ _ _; first | apply kA | refine kB rfl ?_ | refine kC rfl rfl ?_ | refine kD rfl rfl ?_ | apply kE | apply kF | apply kG | apply kH | refine kI (by kernel_rfl) (by kernel_rfl) ?_) | (show O _ _ _ _ _ _ _; first | (show O _ _ _ _ (⟨_, .store _ _ _, _, _, _, _⟩ :: _) _ _; refine kJ rfl rfl rfl rfl rfl rfl rfl rfl rfl rfl rfl ?_) | apply kK) | apply kL | ((first | apply kM | apply kN); (iterate 3 (· exact rfl)); (· first | (show Y _ ⟨_, .call ⟨.value _, _, _⟩, _, _, _, _⟩ _ _ _; first | exact q_c (c1) rfl | exact q_c (c2) rfl) | exact ya)) | refine kO rfl rfl rfl rfl rfl ?_ | refine kP rfl rfl rfl ?_ | ((first | refine kQ rfl rfl ?_ ?_ | refine kR rfl rfl rfl rfl rfl ?_ ?_ | refine kS rfl rfl rfl ?_ ?_) <;> intro hc <;> (try simp only [KL, cond_true, cond_false, beq_iff_eq, bne_iff_ne, ne_eq, reduceCtorEq] at hc) <;> (try (have hT : True := hc; clear hT hc)) <;> (try (exfalso; omega))) | apply kT | apply kU | apply kV | apply kW | refine kX rfl ?_ | apply kY | apply kZ)
    all_goals exact retq rfl rfl
  rw [ha] at c2
  rw [writesI, hr, ha, if_pos ⟨rfl, rfl⟩]
  have hw := (ahead_lt.1 ha).1
  have hw2 : 0 ≤ (S.objects.getD k.toNat default).writer ∧ (S.objects.getD k.toNat default).writer < S.tasks.length := ⟨hw.1, hw.2.1⟩
  have c3 := dwrites_fn S h (S.objects.getD k.toNat default).writer k
  refine fnb Try.func36 (entered_of (by kernel_rfl)) rfl rfl rfl ?_
  repeat' (first | (show W _ _ _ _ _ _; first | apply kA | refine kB rfl ?_ | refine kC rfl rfl ?_ | refine kD rfl rfl ?_ | apply kE | apply kF | apply kG | apply kH | refine kI (by kernel_rfl) (by kernel_rfl) ?_) | (show O _ _ _ _ _ _ _; first | (show O _ _ _ _ (⟨_, .store _ _ _, _, _, _, _⟩ :: _) _ _; refine kJ rfl rfl rfl rfl rfl rfl rfl rfl rfl rfl rfl ?_) | apply kK) | apply kL | ((first | apply kM | apply kN); (iterate 3 (· exact rfl)); (· first | (show Y _ ⟨_, .call ⟨.value _, _, _⟩, _, _, _, _⟩ _ _ _; first | exact q_c (c1) rfl | exact q_c (c2) rfl | exact q_c (c3) rfl | exact q_c (kCeil_fn _ _) rfl | exact q_c (kMul_fn _ _) rfl) | exact ya)) | refine kO rfl rfl rfl rfl rfl ?_ | refine kP rfl rfl rfl ?_ | ((first | refine kQ rfl rfl ?_ ?_ | refine kR rfl rfl rfl rfl rfl ?_ ?_ | refine kS rfl rfl rfl ?_ ?_) <;> intro hc <;> (try simp only [KL, cond_true, cond_false, beq_iff_eq, bne_iff_ne, ne_eq, reduceCtorEq] at hc) <;> (try (have hT : True := hc; clear hT hc)) <;> (try (exfalso; omega))) | apply kT | apply kU | apply kV | apply kW | refine kX rfl ?_ | apply kY | apply kZ)
  all_goals exact retq rfl rfl
theorem fails_fn (S : System) (h : OkS S) (i k r : Int) : Fn Try.prog 17 [.agg (eSystem S), .int .i64 i, .int .i64 k, .int .i64 r] (.int .i64 (failsI S i k r)) := by
  have c1 := writes_fn S h i k r
  have hB := writes_B S i k r
  rw [failsI]
  by_cases h0 : writesI S i k r = 0
  · rw [failsO, if_pos h0]
    rw [h0] at c1
    refine fnb Try.func17 (entered_of (by kernel_rfl)) rfl rfl rfl ?_
    repeat' (first | (show W _ _ _ _ _ _; first | apply kA | refine kB rfl ?_ | refine kC rfl rfl ?_ | refine kD rfl rfl ?_ | apply kE | apply kF | apply kG | apply kH | refine kI (by kernel_rfl) (by kernel_rfl) ?_) | (show O _ _ _ _ _ _ _; first | (show O _ _ _ _ (⟨_, .store _ _ _, _, _, _, _⟩ :: _) _ _; refine kJ rfl rfl rfl rfl rfl rfl rfl rfl rfl rfl rfl ?_) | apply kK) | apply kL | ((first | apply kM | apply kN); (iterate 3 (· exact rfl)); (· first | (show Y _ ⟨_, .call ⟨.value _, _, _⟩, _, _, _, _⟩ _ _ _; first | exact q_c (c1) rfl) | exact ya)) | refine kO rfl rfl rfl rfl rfl ?_ | refine kP rfl rfl rfl ?_ | ((first | refine kQ rfl rfl ?_ ?_ | refine kR rfl rfl rfl rfl rfl ?_ ?_ | refine kS rfl rfl rfl ?_ ?_) <;> intro hc <;> (try simp only [KL, cond_true, cond_false, beq_iff_eq, bne_iff_ne, ne_eq, reduceCtorEq] at hc) <;> (try (have hT : True := hc; clear hT hc)) <;> (try (exfalso; omega))) | apply kT | apply kU | apply kV | apply kW | refine kX rfl ?_ | apply kY | apply kZ)
    all_goals first | (exfalso; omega) | exact retq rfl rfl
  have hsl := h.sl k.toNat
  have hin : 0 ≤ k ∧ k < S.objects.length := by
    have : readsB S i k = true := by
      cases hq : readsB S i k with
      | true => rfl
      | false => exfalso; apply h0; rw [writesI, hq, if_neg (by simp)]
    have := reads_in this; omega
  obtain ⟨m, rfl⟩ : ∃ m : Nat, k = m := ⟨k.toNat, by omega⟩
  rw [objD, Int.toNat_natCast]
  generalize writesI S i m r = n at *
  rw [failsO, if_neg h0]
  obtain ⟨o, hod⟩ : ∃ o, S.objects.getD m default = o := ⟨_, rfl⟩
  rw [Int.toNat_natCast, hod] at hsl
  rw [hod]
  by_cases h35 : o.kind = 3 ∨ o.kind = 5
  · rw [if_pos h35]
    refine fnb Try.func17 (entered_of (by kernel_rfl)) rfl rfl rfl ?_
    repeat' (first | (show W _ _ _ _ _ _; first | apply kA | refine kB rfl ?_ | refine kC rfl rfl ?_ | refine kD rfl rfl ?_ | apply kE | apply kF | apply kG | apply kH | refine kI (by kernel_rfl) (by kernel_rfl) ?_) | (show O _ _ _ _ _ _ _; first | (show O _ _ _ _ (⟨_, .alloc _, _, _, _, _⟩ :: _) _ _; first | refine ao_alloc (id := 10) rfl rfl rfl rfl rfl rfl rfl ?_) | (show O _ _ _ _ (⟨_, .store _ _ _, _, _, _, _⟩ :: _) _ _; refine kJ rfl rfl rfl rfl rfl rfl rfl rfl rfl rfl rfl ?_) | apply kK) | apply kL | ((first | apply kM | apply kN); (iterate 3 (· exact rfl)); (· first | (show Y _ ⟨_, .indexAddr _ _ _, _, _, _, _⟩ _ _ _; first | exact Y.mk (ok_indexE (hod) rfl rfl rfl rfl rfl (by omega))) | (show Y _ ⟨_, .call ⟨.value _, _, _⟩, _, _, _, _⟩ _ _ _; first | exact q_c (c1) rfl) | exact ya)) | refine kO rfl rfl rfl rfl rfl ?_ | refine kP rfl rfl rfl ?_ | ((first | refine kQ rfl rfl ?_ ?_ | refine kR rfl rfl rfl rfl rfl ?_ ?_ | refine kS rfl rfl rfl ?_ ?_) <;> intro hc <;> (try simp only [KL, cond_true, cond_false, beq_iff_eq, bne_iff_ne, ne_eq, reduceCtorEq] at hc) <;> (try (have hT : True := hc; clear hT hc)) <;> (try (exfalso; omega))) | apply kT | apply kU | apply kV | apply kW | refine kX rfl ?_ | apply kY | apply kZ)
    all_goals first | (exfalso; omega) | exact retq rfl rfl
  rw [if_neg h35]
  by_cases h4 : o.kind = 4
  · rw [if_pos h4]
    by_cases h2 : 2 < o.slots
    · rw [if_pos h2]
      have h5 := Int.ediv_nonneg hB.1 (show 0 ≤ o.slots - 1 by omega)
      have h6 := Int.ediv_le_self (o.slots - 1) hB.1
      refine fnb Try.func17 (entered_of (by kernel_rfl)) rfl rfl rfl ?_
      repeat' (first | (show W _ _ _ _ _ _; first | apply kA | refine kB rfl ?_ | refine kC rfl rfl ?_ | refine kD rfl rfl ?_ | apply kE | apply kF | apply kG | apply kH | refine kI (by kernel_rfl) (by kernel_rfl) ?_) | (show O _ _ _ _ _ _ _; first | (show O _ _ _ _ (⟨_, .alloc _, _, _, _, _⟩ :: _) _ _; first | refine ao_alloc (id := 10) rfl rfl rfl rfl rfl rfl rfl ?_) | (show O _ _ _ _ (⟨_, .store _ _ _, _, _, _, _⟩ :: _) _ _; refine kJ rfl rfl rfl rfl rfl rfl rfl rfl rfl rfl rfl ?_) | apply kK) | apply kL | ((first | apply kM | apply kN); (iterate 3 (· exact rfl)); (· first | (show Y _ ⟨_, .indexAddr _ _ _, _, _, _, _⟩ _ _ _; first | exact Y.mk (ok_indexE (hod) rfl rfl rfl rfl rfl (by omega))) | (show Y _ ⟨_, .call ⟨.value _, _, _⟩, _, _, _, _⟩ _ _ _; first | exact q_c (c1) rfl) | exact ya)) | refine kO rfl rfl rfl rfl rfl ?_ | refine kP rfl rfl rfl ?_ | ((first | refine kQ rfl rfl ?_ ?_ | refine kR rfl rfl rfl rfl rfl ?_ ?_ | refine kS rfl rfl rfl ?_ ?_) <;> intro hc <;> (try simp only [KL, cond_true, cond_false, beq_iff_eq, bne_iff_ne, ne_eq, reduceCtorEq] at hc) <;> (try (have hT : True := hc; clear hT hc)) <;> (try (exfalso; omega))) | apply kT | apply kU | apply kV | apply kW | refine kX rfl ?_ | apply kY | apply kZ)
      all_goals first | (exfalso; omega) | exact retq rfl rfl
    · rw [if_neg h2]
      refine fnb Try.func17 (entered_of (by kernel_rfl)) rfl rfl rfl ?_
      repeat' (first | (show W _ _ _ _ _ _; first | apply kA | refine kB rfl ?_ | refine kC rfl rfl ?_ | refine kD rfl rfl ?_ | apply kE | apply kF | apply kG | apply kH | refine kI (by kernel_rfl) (by kernel_rfl) ?_) | (show O _ _ _ _ _ _ _; first | (show O _ _ _ _ (⟨_, .alloc _, _, _, _, _⟩ :: _) _ _; first | refine ao_alloc (id := 10) rfl rfl rfl rfl rfl rfl rfl ?_) | (show O _ _ _ _ (⟨_, .store _ _ _, _, _, _, _⟩ :: _) _ _; refine kJ rfl rfl rfl rfl rfl rfl rfl rfl rfl rfl rfl ?_) | apply kK) | apply kL | ((first | apply kM | apply kN); (iterate 3 (· exact rfl)); (· first | (show Y _ ⟨_, .indexAddr _ _ _, _, _, _, _⟩ _ _ _; first | exact Y.mk (ok_indexE (hod) rfl rfl rfl rfl rfl (by omega))) | (show Y _ ⟨_, .call ⟨.value _, _, _⟩, _, _, _, _⟩ _ _ _; first | exact q_c (c1) rfl) | exact ya)) | refine kO rfl rfl rfl rfl rfl ?_ | refine kP rfl rfl rfl ?_ | ((first | refine kQ rfl rfl ?_ ?_ | refine kR rfl rfl rfl rfl rfl ?_ ?_ | refine kS rfl rfl rfl ?_ ?_) <;> intro hc <;> (try simp only [KL, cond_true, cond_false, beq_iff_eq, bne_iff_ne, ne_eq, reduceCtorEq] at hc) <;> (try (have hT : True := hc; clear hT hc)) <;> (try (exfalso; omega))) | apply kT | apply kU | apply kV | apply kW | refine kX rfl ?_ | apply kY | apply kZ)
      all_goals first | (exfalso; omega) | exact retq rfl rfl
  · rw [if_neg h4]
    refine fnb Try.func17 (entered_of (by kernel_rfl)) rfl rfl rfl ?_
    repeat' (first | (show W _ _ _ _ _ _; first | apply kA | refine kB rfl ?_ | refine kC rfl rfl ?_ | refine kD rfl rfl ?_ | apply kE | apply kF | apply kG | apply kH | refine kI (by kernel_rfl) (by kernel_rfl) ?_) | (show O _ _ _ _ _ _ _; first | (show O _ _ _ _ (⟨_, .alloc _, _, _, _, _⟩ :: _) _ _; first | refine ao_alloc (id := 10) rfl rfl rfl rfl rfl rfl rfl ?_) | (show O _ _ _ _ (⟨_, .store _ _ _, _, _, _, _⟩ :: _) _ _; refine kJ rfl rfl rfl rfl rfl rfl rfl rfl rfl rfl rfl ?_) | apply kK) | apply kL | ((first | apply kM | apply kN); (iterate 3 (· exact rfl)); (· first | (show Y _ ⟨_, .indexAddr _ _ _, _, _, _, _⟩ _ _ _; first | exact Y.mk (ok_indexE (hod) rfl rfl rfl rfl rfl (by omega))) | (show Y _ ⟨_, .call ⟨.value _, _, _⟩, _, _, _, _⟩ _ _ _; first | exact q_c (c1) rfl) | exact ya)) | refine kO rfl rfl rfl rfl rfl ?_ | refine kP rfl rfl rfl ?_ | ((first | refine kQ rfl rfl ?_ ?_ | refine kR rfl rfl rfl rfl rfl ?_ ?_ | refine kS rfl rfl rfl ?_ ?_) <;> intro hc <;> (try simp only [KL, cond_true, cond_false, beq_iff_eq, bne_iff_ne, ne_eq, reduceCtorEq] at hc) <;> (try (have hT : True := hc; clear hT hc)) <;> (try (exfalso; omega))) | apply kT | apply kU | apply kV | apply kW | refine kX rfl ?_ | apply kY | apply kZ)
    all_goals first | (exfalso; omega) | exact retq rfl rfl
theorem job_fn (S : System) (h : OkS S) (i r : Int) : Fn Try.prog 37 [.agg (eSystem S), .int .i64 i, .int .i64 r] (.int .i64 (jobI S i r)) := by
  have h2 := h.ol
  have c1 := dclean_fn S h i
  by_cases he : (demI S i 0).2 ≠ 0
  · rw [jobI, if_pos he]
    refine fnb Try.func37 (entered_of (by kernel_rfl)) rfl rfl rfl ?_
    repeat' (first | (show W _ _ _ _ _ _; first | apply kA | refine kB rfl ?_ | refine kC rfl rfl ?_ | refine kD rfl rfl ?_ | apply kE | apply kF | apply kG | apply kH | refine kI (by kernel_rfl) (by kernel_rfl) ?_) | (show O _ _ _ _ _ _ _; first | (show O _ _ _ _ (⟨_, .store _ _ _, _, _, _, _⟩ :: _) _ _; refine kJ rfl rfl rfl rfl rfl rfl rfl rfl rfl rfl rfl ?_) | apply kK) | apply kL | ((first | apply kM | apply kN); (iterate 3 (· exact rfl)); (· first | (show Y _ ⟨_, .call ⟨.value _, _, _⟩, _, _, _, _⟩ _ _ _; first | exact q_c (c1) rfl) | exact ya)) | refine kO rfl rfl rfl rfl rfl ?_ | refine kP rfl rfl rfl ?_ | ((first | refine kQ rfl rfl ?_ ?_ | refine kR rfl rfl rfl rfl rfl ?_ ?_ | refine kS rfl rfl rfl ?_ ?_) <;> intro hc <;> (try simp only [KL, cond_true, cond_false, beq_iff_eq, bne_iff_ne, ne_eq, reduceCtorEq] at hc) <;> (try (have hT : True := hc; clear hT hc)) <;> (try (exfalso; omega))) | apply kT | apply kU | apply kV | apply kW | refine kX rfl ?_ | apply kY | apply kZ)
    all_goals first | (exfalso; omega) | exact retq rfl rfl
  rw [jobI, if_neg he]
  refine fnb Try.func37 (entered_of (by kernel_rfl)) rfl rfl rfl ?_
  repeat' (first | (show W _ _ _ _ _ _; first | apply kA | refine kB rfl ?_ | refine kC rfl rfl ?_ | refine kD rfl rfl ?_ | apply kE | apply kF | apply kG | apply kH | refine kI (by kernel_rfl) (by kernel_rfl) ?_) | (show O _ _ _ _ _ _ _; first | (show O _ _ _ _ (⟨_, .store _ _ _, _, _, _, _⟩ :: _) _ _; refine kJ rfl rfl rfl rfl rfl rfl rfl rfl rfl rfl rfl ?_) | apply kK) | apply kL | ((first | apply kM | apply kN); (iterate 3 (· exact rfl)); (· first | (show Y _ ⟨_, .call ⟨.value _, _, _⟩, _, _, _, _⟩ _ _ _; first | exact q_c (c1) rfl) | exact ya)) | refine kO rfl rfl rfl rfl rfl ?_ | refine kP rfl rfl rfl ?_ | ((first | refine kQ rfl rfl ?_ ?_ | refine kR rfl rfl rfl rfl rfl ?_ ?_ | refine kS rfl rfl rfl ?_ ?_) <;> intro hc <;> (try simp only [KL, cond_true, cond_false, beq_iff_eq, bne_iff_ne, ne_eq, reduceCtorEq] at hc) <;> (try (have hT : True := hc; clear hT hc)) <;> (try (exfalso; omega))) | apply kT | apply kU | apply kV | apply kW | refine kX rfl ?_ | apply kY | apply kZ)
  all_goals first | (exfalso; omega) | skip
  refine wloop (fun m : Nat => ([(1, .int .i64 i), (2, .int .i64 r), (3, .ref (eSystem S)), (7, .int .i64 (jobTo S i r m)), (20, .lst 8 (S.objects.map eObject)), (21, .int .i64 S.objects.length), (22, .int .i64 m)], [])) (fun m => m ≤ S.objects.length) (fun m => S.objects.length - m) 0 (Nat.zero_le _) les leh (fun m hm => ?_)
  rcases Nat.lt_or_eq_of_le hm with hml | hml
  · have c2 := fails_fn S h i m r
    obtain ⟨o, hod⟩ : ∃ o, S.objects.getD m default = o := ⟨_, rfl⟩
    have hnx : jobTo S i r (m + 1) = addI (jobTo S i r m) (mulI (failsI S i m r) (failI o 1)) := by rw [jobTo, hod]
    have c3 := fail_fn o 1
    repeat' (first | (show W _ _ _ _ _ _; first | apply kA | refine kB rfl ?_ | refine kC rfl rfl ?_ | refine kD rfl rfl ?_ | apply kE | apply kF | apply kG | apply kH | refine kI (by kernel_rfl) (by kernel_rfl) ?_) | (show O _ _ _ _ _ _ _; first | (show O _ _ _ _ (⟨_, .alloc _, _, _, _, _⟩ :: _) _ _; first | refine ao_alloc (id := 10) rfl rfl rfl rfl rfl rfl rfl ?_) | (show O _ _ _ _ (⟨_, .store _ _ _, _, _, _, _⟩ :: _) _ _; refine kJ rfl rfl rfl rfl rfl rfl rfl rfl rfl rfl rfl ?_) | apply kK) | apply kL | ((first | apply kM | apply kN); (iterate 3 (· exact rfl)); (· first | (show Y _ ⟨_, .indexAddr _ _ _, _, _, _, _⟩ _ _ _; first | exact Y.mk (ok_indexE (hod) rfl rfl rfl rfl rfl (by omega))) | (show Y _ ⟨_, .call ⟨.value _, _, _⟩, _, _, _, _⟩ _ _ _; first | exact q_c (c2) rfl | exact q_c (c3) rfl | exact q_c (kMul_fn _ _) rfl | exact q_c (kAdd_fn _ _) rfl) | exact ya)) | refine kO rfl rfl rfl rfl rfl ?_ | refine kP rfl rfl rfl ?_ | ((first | refine kQ rfl rfl ?_ ?_ | refine kR rfl rfl rfl rfl rfl ?_ ?_ | refine kS rfl rfl rfl ?_ ?_) <;> intro hc <;> (try simp only [KL, cond_true, cond_false, beq_iff_eq, bne_iff_ne, ne_eq, reduceCtorEq] at hc) <;> (try (have hT : True := hc; clear hT hc)) <;> (try (exfalso; omega))) | apply kT | apply kU | apply kV | apply kW | refine kX rfl ?_ | apply kY | apply kZ)
    all_goals first | (exfalso; omega) | exact ⟨m + 1, by omega, by omega, by simp only [hnx]; exact les, leh⟩
  · subst hml
    repeat' (first | (show W _ _ _ _ _ _; first | apply kA | refine kB rfl ?_ | refine kC rfl rfl ?_ | refine kD rfl rfl ?_ | apply kE | apply kF | apply kG | apply kH | refine kI (by kernel_rfl) (by kernel_rfl) ?_) | (show O _ _ _ _ _ _ _; first | (show O _ _ _ _ (⟨_, .store _ _ _, _, _, _, _⟩ :: _) _ _; refine kJ rfl rfl rfl rfl rfl rfl rfl rfl rfl rfl rfl ?_) | apply kK) | apply kL | ((first | apply kM | apply kN); (iterate 3 (· exact rfl)); (· first | exact ya)) | refine kO rfl rfl rfl rfl rfl ?_ | refine kP rfl rfl rfl ?_ | ((first | refine kQ rfl rfl ?_ ?_ | refine kR rfl rfl rfl rfl rfl ?_ ?_ | refine kS rfl rfl rfl ?_ ?_) <;> intro hc <;> (try simp only [KL, cond_true, cond_false, beq_iff_eq, bne_iff_ne, ne_eq, reduceCtorEq] at hc) <;> (try (have hT : True := hc; clear hT hc)) <;> (try (exfalso; omega))) | apply kT | apply kU | apply kV | apply kW | refine kX rfl ?_ | apply kY | apply kZ)
    all_goals first | (exfalso; omega) | exact retq rfl rfl
def hopeB (S : System) (i k : Int) : Bool := readsB S i k && (decide ((objD S k).kind = 3) && !aheadO S i k)
theorem hope_fn (S : System) (h : OkS S) (i k : Int) : Fn Try.prog 79 [.agg (eSystem S), .int .i64 i, .int .i64 k] (.bool (hopeB S i k)) := by
  have c1 := reads_fn S h i k
  cases hr : readsB S i k
  · rw [hr] at c1
    rw [hopeB, hr, Bool.false_and]
    refine fnb Try.func79 (entered_of (by kernel_rfl)) rfl rfl rfl ?_
    repeat' (first | (show W _ _ _ _ _ _; first | apply kA | refine kB rfl ?_ | refine kC rfl rfl ?_ | refine kD rfl rfl ?_ | apply kE | apply kF | apply kG | apply kH | refine kI (by kernel_rfl) (by kernel_rfl) ?_) | (show O _ _ _ _ _ _ _; first | (show O _ _ _ _ (⟨_, .store _ _ _, _, _, _, _⟩ :: _) _ _; refine kJ rfl rfl rfl rfl rfl rfl rfl rfl rfl rfl rfl ?_) | apply kK) | apply kL | ((first | apply kM | apply kN); (iterate 3 (· exact rfl)); (· first | (show Y _ ⟨_, .call ⟨.value _, _, _⟩, _, _, _, _⟩ _ _ _; first | exact q_c (c1) rfl) | exact ya)) | refine kO rfl rfl rfl rfl rfl ?_ | refine kP rfl rfl rfl ?_ | ((first | refine kQ rfl rfl ?_ ?_ | refine kR rfl rfl rfl rfl rfl ?_ ?_ | refine kS rfl rfl rfl ?_ ?_) <;> intro hc <;> (try simp only [KL, cond_true, cond_false, beq_iff_eq, bne_iff_ne, ne_eq, reduceCtorEq] at hc) <;> (try (have hT : True := hc; clear hT hc)) <;> (try (exfalso; omega))) | apply kT | apply kU | apply kV | apply kW | refine kX rfl ?_ | apply kY | apply kZ)
    all_goals exact retq rfl rfl
  rw [hr] at c1
  rw [hopeB, hr, Bool.true_and]
  have hin := reads_in hr
  have c2 := ahead37_fn S h i k (by omega)
  have hb : (objD S k).kind = (S.objects.getD k.toNat default).kind := rfl
  rw [hb]
  by_cases h3 : (S.objects.getD k.toNat default).kind = 3
  · rw [decide_eq_true h3, Bool.true_and]
    refine fnb Try.func79 (entered_of (by kernel_rfl)) rfl rfl rfl ?_
    repeat' (first | (show W _ _ _ _ _ _; first | apply kA | refine kB rfl ?_ | refine kC rfl rfl ?_ | refine kD rfl rfl ?_ | apply kE | apply kF | apply kG | apply kH | refine kI (by kernel_rfl) (by kernel_rfl) ?_) | (show O _ _ _ _ _ _ _; first | (show O _ _ _ _ (⟨_, .store _ _ _, _, _, _, _⟩ :: _) _ _; refine kJ rfl rfl rfl rfl rfl rfl rfl rfl rfl rfl rfl ?_) | apply kK) | apply kL | ((first | apply kM | apply kN); (iterate 3 (· exact rfl)); (· first | (show Y _ ⟨_, .call ⟨.value _, _, _⟩, _, _, _, _⟩ _ _ _; first | exact q_c (c1) rfl | exact q_c (c2) rfl) | exact ya)) | refine kO rfl rfl rfl rfl rfl ?_ | refine kP rfl rfl rfl ?_ | ((first | refine kQ rfl rfl ?_ ?_ | refine kR rfl rfl rfl rfl rfl ?_ ?_ | refine kS rfl rfl rfl ?_ ?_) <;> intro hc <;> (try simp only [KL, cond_true, cond_false, beq_iff_eq, bne_iff_ne, ne_eq, reduceCtorEq] at hc) <;> (try (have hT : True := hc; clear hT hc)) <;> (try (exfalso; omega))) | apply kT | apply kU | apply kV | apply kW | refine kX rfl ?_ | apply kY | apply kZ)
    all_goals first | (exfalso; omega) | exact retq rfl rfl
  · rw [decide_eq_false h3, Bool.false_and]
    refine fnb Try.func79 (entered_of (by kernel_rfl)) rfl rfl rfl ?_
    repeat' (first | (show W _ _ _ _ _ _; first | apply kA | refine kB rfl ?_ | refine kC rfl rfl ?_ | refine kD rfl rfl ?_ | apply kE | apply kF | apply kG | apply kH | refine kI (by kernel_rfl) (by kernel_rfl) ?_) | (show O _ _ _ _ _ _ _; first | (show O _ _ _ _ (⟨_, .store _ _ _, _, _, _, _⟩ :: _) _ _; refine kJ rfl rfl rfl rfl rfl rfl rfl rfl rfl rfl rfl ?_) | apply kK) | apply kL | ((first | apply kM | apply kN); (iterate 3 (· exact rfl)); (· first | (show Y _ ⟨_, .call ⟨.value _, _, _⟩, _, _, _, _⟩ _ _ _; first | exact q_c (c1) rfl | exact q_c (c2) rfl) | exact ya)) | refine kO rfl rfl rfl rfl rfl ?_ | refine kP rfl rfl rfl ?_ | ((first | refine kQ rfl rfl ?_ ?_ | refine kR rfl rfl rfl rfl rfl ?_ ?_ | refine kS rfl rfl rfl ?_ ?_) <;> intro hc <;> (try simp only [KL, cond_true, cond_false, beq_iff_eq, bne_iff_ne, ne_eq, reduceCtorEq] at hc) <;> (try (have hT : True := hc; clear hT hc)) <;> (try (exfalso; omega))) | apply kT | apply kU | apply kV | apply kW | refine kX rfl ?_ | apply kY | apply kZ)
    all_goals first | (exfalso; omega) | exact retq rfl rfl
def pairS (o : Object) : System := ⟨[⟨1, 1, 10, 0, 10, 2, [⟨18, 0, 0, 0, 0⟩, ⟨21, 0, 0, 0, 0⟩]⟩, ⟨1, 0, 40, 0, 40, 2, [⟨17, 0, 0, 0, 0⟩, ⟨21, 0, 0, 0, 0⟩]⟩], [{ o with writer := 0, readers := [1] }]⟩
theorem pairC_fn (op : Int) : Fn Try.prog 92 [.int .i64 op] (.lst 5 (([⟨op, 0, 0, 0, 0⟩, ⟨21, 0, 0, 0, 0⟩] : List Instr).map eInstr)) := by
  refine fnb Try.func92 (entered_of (by kernel_rfl)) rfl rfl rfl ?_
  repeat' (first | (show W _ _ _ _ _ _; first | apply kA | refine kB rfl ?_ | refine kC rfl rfl ?_ | refine kD rfl rfl ?_ | apply kE | apply kF | apply kG | apply kH | refine kI (by kernel_rfl) (by kernel_rfl) ?_) | (show O _ _ _ _ _ _ _; first | (show O _ _ _ _ (⟨_, .store _ _ _, _, _, _, _⟩ :: _) _ _; refine kJ rfl rfl rfl rfl rfl rfl rfl rfl rfl rfl rfl ?_) | apply kK) | apply kL | ((first | apply kM | apply kN); (iterate 3 (· exact rfl)); (· first | exact ya)) | refine kO rfl rfl rfl rfl rfl ?_ | refine kP rfl rfl rfl ?_ | ((first | refine kQ rfl rfl ?_ ?_ | refine kR rfl rfl rfl rfl rfl ?_ ?_ | refine kS rfl rfl rfl ?_ ?_) <;> intro hc <;> (try simp only [KL, cond_true, cond_false, beq_iff_eq, bne_iff_ne, ne_eq, reduceCtorEq] at hc) <;> (try (have hT : True := hc; clear hT hc)) <;> (try (exfalso; omega))) | apply kT | apply kU | apply kV | apply kW | refine kX rfl ?_ | apply kY | apply kZ)
  exact retq rfl rfl
theorem pair_fn (o : Object) : Fn Try.prog 44 [.agg (eObject o)] (.agg (eSystem (pairS o))) := by
  refine fnb Try.func44 (entered_of (by kernel_rfl)) rfl rfl rfl ?_
  repeat' (first | (show W _ _ _ _ _ _; first | apply kA | refine kB rfl ?_ | refine kC rfl rfl ?_ | refine kD rfl rfl ?_ | apply kE | apply kF | apply kG | apply kH | refine kI (by kernel_rfl) (by kernel_rfl) ?_) | (show O _ _ _ _ _ _ _; first | (show O _ _ _ _ (⟨_, .box _ _, _, _, _, _⟩ :: _) _ _; first | refine ao_box (id := 9) rfl rfl rfl rfl rfl rfl rfl rfl ?_) | (show O _ _ _ _ (⟨_, .alloc _, _, _, _, _⟩ :: _) _ _; first | refine ao_alloc (id := 10) rfl rfl rfl rfl rfl rfl rfl ?_ | refine ao_alloc (id := 11) rfl rfl rfl rfl rfl rfl rfl ?_ | refine ao_alloc (id := 12) rfl rfl rfl rfl rfl rfl rfl ?_) | (show O _ _ _ _ (⟨_, .store _ _ _, _, _, _, _⟩ :: _) _ _; refine kJ rfl rfl rfl rfl rfl rfl rfl rfl rfl rfl rfl ?_) | apply kK) | apply kL | ((first | apply kM | apply kN); (iterate 3 (· exact rfl)); (· first | (show Y _ ⟨_, .call ⟨.value _, _, _⟩, _, _, _, _⟩ _ _ _; first | exact q_c (pairC_fn _) rfl) | exact yab)) | refine kO rfl rfl rfl rfl rfl ?_ | refine kP rfl rfl rfl ?_ | ((first | refine kQ rfl rfl ?_ ?_ | refine kR rfl rfl rfl rfl rfl ?_ ?_ | refine kS rfl rfl rfl ?_ ?_) <;> intro hc <;> (try simp only [KL, cond_true, cond_false, beq_iff_eq, bne_iff_ne, ne_eq, reduceCtorEq] at hc) <;> (try (have hT : True := hc; clear hT hc)) <;> (try (exfalso; omega))) | apply kT | apply kU | apply kV | apply kW | refine kX rfl ?_ | apply kY | apply kZ)
  exact retq rfl rfl
def ob37 : Object := ⟨3, 2, 0, 3, 0, [1, 2], 0, []⟩
theorem ok37 : OkS (pairS ob37) := ok2 _ (by decide) (by decide) (by decide)
theorem awake37_fn : Fn Try.prog 35 [] (.bool true) := by
  have c0 := pair_fn ob37
  have c1 := writes_fn _ ok37 1 0 25
  rw [show writesI (pairS ob37) 1 0 25 = 3 from by decide +kernel] at c1
  have c2 := fails_fn _ ok37 1 0 25
  rw [show failsI (pairS ob37) 1 0 25 = 3 from by decide +kernel] at c2
  have c3 := job_fn _ ok37 1 25
  rw [show jobI (pairS ob37) 1 25 = 17 from by decide +kernel] at c3
  have c4 := hope_fn _ ok37 1 0
  rw [show hopeB (pairS ob37) 1 0 = false from by decide +kernel] at c4
  have c5 : Fn Try.prog 44 [.agg [.int .i64 3, .int .i64 2, .int .i64 0, .int .i64 3, .int .u32 0, .lst 1 [[.int .u32 1], [.int .u32 2]], .int .i64 0, .nils]] (.agg (eSystem (pairS ob37))) := c0.le (by repeat' (first | exact L2.nil _ | refine L2.cons ?_ ?_ | exact LeV.of_eq rfl | exact LeV.nils _ | refine LeV.agg ?_))
  refine fnb Try.func35 (entered_of (by kernel_rfl)) rfl rfl rfl ?_
  repeat' (first | (show W _ _ _ _ _ _; first | apply kA | refine kB rfl ?_ | refine kC rfl rfl ?_ | refine kD rfl rfl ?_ | apply kE | apply kF | apply kG | apply kH | refine kI (by kernel_rfl) (by kernel_rfl) ?_) | (show O _ _ _ _ _ _ _; first | (show O _ _ _ _ (⟨_, .alloc _, _, _, _, _⟩ :: _) _ _; first | refine ao_alloc (id := 20) rfl rfl rfl rfl rfl rfl rfl ?_) | (show O _ _ _ _ (⟨_, .store _ _ _, _, _, _, _⟩ :: _) _ _; refine kJ rfl rfl rfl rfl rfl rfl rfl rfl rfl rfl rfl ?_) | apply kK) | apply kL | ((first | apply kM | apply kN); (iterate 3 (· exact rfl)); (· first | (show Y _ ⟨_, .call ⟨.value _, _, _⟩, _, _, _, _⟩ _ _ _; first | exact q_c (c5) rfl | exact q_c (c1) rfl | exact q_c (c2) rfl | exact q_c (c3) rfl | exact q_c (c4) rfl) | exact ya)) | refine kO rfl rfl rfl rfl rfl ?_ | refine kP rfl rfl rfl ?_ | ((first | refine kQ rfl rfl ?_ ?_ | refine kR rfl rfl rfl rfl rfl ?_ ?_ | refine kS rfl rfl rfl ?_ ?_) <;> intro hc <;> (try simp only [KL, cond_true, cond_false, beq_iff_eq, bne_iff_ne, ne_eq, reduceCtorEq] at hc) <;> (try (have hT : True := hc; clear hT hc)) <;> (try (exfalso; omega))) | apply kT | apply kU | apply kV | apply kW | refine kX rfl ?_ | apply kY | apply kZ)
  all_goals exact retq rfl rfl
theorem cost_B {p : List Instr} (hn : ∀ i, 0 ≤ (p.getD i default).n) (w : List Int) : 0 ≤ (costF max p w).1 ∧ (costF max p w).1 ≤ 1099511627776 := by
  unfold costF
  split
  · simp only; omega
  · split
    · simp only; omega
    · rename_i h1 h2
      have hf : fineB p = true := by rw [fineB]; exact decide_eq_true (by omega)
      exact ⟨mostI_pos hf hn w, (mostI_B p w).2⟩
theorem dem_B {S : System} (h : OkS S) (i fails : Int) : 0 ≤ (demI S i fails).1 ∧ (demI S i fails).1 ≤ 1099511627776 := by
  unfold demI
  split
  · simp only; omega
  · exact cost_B (h.n _) _
theorem count_B {S : System} (h : OkS S) (i k : Int) (wr : Bool) : 0 ≤ countI S i k wr ∧ countI S i k wr ≤ 1099511627776 := by
  unfold countI
  split
  · omega
  · exact cost_B (h.n _) _
theorem job_B {S : System} (h : OkS S) (i r : Int) : ∀ m, 0 ≤ jobTo S i r m ∧ jobTo S i r m ≤ 1099511627776
  | 0 => dem_B h i 0
  | m + 1 => addB _ _
theorem jobI_B {S : System} (h : OkS S) (i r : Int) : 0 ≤ jobI S i r ∧ jobI S i r ≤ 1099511627776 := by
  unfold jobI; split
  · omega
  · exact job_B h i r _
theorem job_none {S : System} (h : OkS S) {i r : Int} (hno : ∀ m : Nat, failsI S i m r = 0) : ∀ m, jobTo S i r m = (demI S i 0).1
  | 0 => rfl
  | m + 1 => by
    have h1 := dem_B h i 0
    rw [jobTo, job_none h hno m, hno m, mul_0 (.inl rfl), addI_0, insId h1.1 h1.2]
theorem ceil_mono {a a' : Int} (b : Int) (h : a ≤ a') : ceilI a b ≤ ceilI a' b := by
  unfold ceilI
  by_cases h1 : a < 1 ∨ b < 1
  · rw [if_pos h1]
    split
    · omega
    · have := Int.ediv_nonneg (show 0 ≤ a' - 1 by omega) (show 0 ≤ b by omega); omega
  · rw [if_neg h1, if_neg (by omega)]
    have := Int.ediv_le_ediv (show 0 < b by omega) (show a - 1 ≤ a' - 1 by omega)
    omega
theorem ins_mono {a a' : Int} (h : a ≤ a') : insI a ≤ insI a' := by unfold insI; omega
theorem mul_mono {a a' b b' : Int} (h : a ≤ a') (h' : b ≤ b') : mulI a b ≤ mulI a' b' := by
  have h1 := Int.mul_le_mul (ins_mono h) (ins_mono h') (insB b).1 (insB a').1
  unfold mulI; omega
theorem add_mono {a a' b b' : Int} (h : a ≤ a') (h' : b ≤ b') : addI a b ≤ addI a' b' := by unfold addI insI; omega
theorem writes_mono (S : System) (i k : Int) {r r' : Int} (h : r ≤ r') : writesI S i k r ≤ writesI S i k r' := by
  unfold writesI; split
  · exact mul_mono (ceil_mono _ h) (Int.le_refl _)
  · omega
theorem failsO_mono (o : Object) {n n' : Int} (h0 : 0 ≤ n) (h : n ≤ n') : failsO o n ≤ failsO o n' := by
  unfold failsO
  by_cases h1 : n = 0
  · rw [if_pos h1]
    split
    · omega
    · split
      · omega
      · split
        · split
          · exact Int.ediv_nonneg (by omega) (by omega)
          · omega
        · omega
  · have h2 : ¬ n' = 0 := by omega
    rw [if_neg h1, if_neg h2]
    by_cases h3 : o.kind = 3 ∨ o.kind = 5
    · rw [if_pos h3, if_pos h3]; exact h
    · rw [if_neg h3, if_neg h3]
      by_cases h4 : o.kind = 4
      · rw [if_pos h4, if_pos h4]
        by_cases h5 : 2 < o.slots
        · rw [if_pos h5, if_pos h5]; exact Int.ediv_le_ediv (by omega) h
        · rw [if_neg h5, if_neg h5]; exact h
      · rw [if_neg h4, if_neg h4]; omega
theorem fails_mono (S : System) (i k : Int) {r r' : Int} (h : r ≤ r') : failsI S i k r ≤ failsI S i k r' := failsO_mono _ (writes_B S i k r).1 (writes_mono S i k h)
theorem jobTo_mono (S : System) (i : Int) {r r' : Int} (h : r ≤ r') : ∀ m, jobTo S i r m ≤ jobTo S i r' m
  | 0 => Int.le_refl _
  | m + 1 => add_mono (jobTo_mono S i h m) (mul_mono (fails_mono S i m h) (Int.le_refl _))
theorem job_mono (S : System) (i : Int) {r r' : Int} (h : r ≤ r') : jobI S i r ≤ jobI S i r' := by
  unfold jobI; split
  · omega
  · exact jobTo_mono S i h _
def fstQ (S : System) (i : Int) (m : Nat) : Bool := (List.range m).all fun j => !aheadB S.tasks (j : Int) i
theorem fstQ_next (S : System) (i : Int) (m : Nat) : fstQ S i (m + 1) = (fstQ S i m && !aheadB S.tasks (m : Int) i) := by
  rw [fstQ, List.range_succ, List.all_append]; simp [fstQ]
theorem fst_none37 {S : System} {i : Int} (h : fstQ S i S.tasks.length = true) (k r : Int) : writesI S i k r = 0 ∧ failsI S i k r = 0 := by
  have ha : aheadO S i k = false := by
    cases hq : aheadO S i k with
    | false => rfl
    | true =>
      exfalso
      have h1 := (ahead_lt.1 hq).1
      rw [fstQ, List.all_eq_true] at h
      have h2 := h (objD S k).writer.toNat (List.mem_range.2 (by omega))
      rw [show (((objD S k).writer.toNat : Nat) : Int) = (objD S k).writer by omega] at h2
      rw [aheadO] at hq
      rw [hq] at h2
      simp at h2
  have e : writesI S i k r = 0 := by rw [writesI, ha, if_neg (by simp)]
  exact ⟨e, by rw [failsI, e, failsO, if_pos rfl]⟩
theorem interfereNone_fn (S : System) (i k r : Int) : Fn Try.prog 10 [.agg (eSystem S), .agg [.int .i64 i, .int .i64 k], .int .i64 r] (.bool true) := by
  have c0 := awake37_fn
  have c1 := few31_fn S 20 (by omega)
  refine fnb Try.func10 (entered_of (by kernel_rfl)) rfl rfl rfl ?_
  refine wsys 0 rfl (fun hn => ?_)
  cases hf : fewS S 20
  case false =>
    rw [hf] at c1
    repeat' (first | (show W _ _ _ _ _ _; first | apply kA | refine kB rfl ?_ | refine kC rfl rfl ?_ | refine kD rfl rfl ?_ | apply kE | apply kF | apply kG | apply kH | refine kI (by kernel_rfl) (by kernel_rfl) ?_) | (show O _ _ _ _ _ _ _; first | (show O _ _ _ _ (⟨_, .store _ _ _, _, _, _, _⟩ :: _) _ _; refine kJ rfl rfl rfl rfl rfl rfl rfl rfl rfl rfl rfl ?_) | apply kK) | apply kL | ((first | apply kM | apply kN); (iterate 3 (· exact rfl)); (· first | (show Y _ ⟨_, .call ⟨.value _, _, _⟩, _, _, _, _⟩ _ _ _; first | exact q_c (c0) rfl | exact q_c (c1) rfl) | exact ya)) | refine kO rfl rfl rfl rfl rfl ?_ | refine kP rfl rfl rfl ?_ | ((first | refine kQ rfl rfl ?_ ?_ | refine kR rfl rfl rfl rfl rfl ?_ ?_ | refine kS rfl rfl rfl ?_ ?_) <;> intro hc <;> (try simp only [KL, cond_true, cond_false, beq_iff_eq, bne_iff_ne, ne_eq, reduceCtorEq] at hc) <;> (try (have hT : True := hc; clear hT hc)) <;> (try (exfalso; omega))) | apply kT | apply kU | apply kV | apply kW | refine kX rfl ?_ | apply kY | apply kZ)
    all_goals exact retq rfl rfl
  have h := fewS_ok (by omega) hf hn
  rw [hf] at c1
  have h1 := h.tl
  repeat' (first | (show W _ _ _ _ _ _; first | apply kA | refine kB rfl ?_ | refine kC rfl rfl ?_ | refine kD rfl rfl ?_ | apply kE | apply kF | apply kG | apply kH | refine kI (by kernel_rfl) (by kernel_rfl) ?_) | (show O _ _ _ _ _ _ _; first | (show O _ _ _ _ (⟨_, .store _ _ _, _, _, _, _⟩ :: _) _ _; refine kJ rfl rfl rfl rfl rfl rfl rfl rfl rfl rfl rfl ?_) | apply kK) | apply kL | ((first | apply kM | apply kN); (iterate 3 (· exact rfl)); (· first | (show Y _ ⟨_, .call ⟨.value _, _, _⟩, _, _, _, _⟩ _ _ _; first | exact q_c (c1) rfl) | exact ya | exact Y.mk (ok_index_arr (sz := 1) 0 rfl rfl rfl rfl rfl rfl rfl) | exact Y.mk (ok_index_arr (sz := 1) 1 rfl rfl rfl rfl rfl rfl rfl))) | refine kO rfl rfl rfl rfl rfl ?_ | refine kP rfl rfl rfl ?_ | ((first | refine kQ rfl rfl ?_ ?_ | refine kR rfl rfl rfl rfl rfl ?_ ?_ | refine kS rfl rfl rfl ?_ ?_) <;> intro hc <;> (try simp only [KL, cond_true, cond_false, beq_iff_eq, bne_iff_ne, ne_eq, reduceCtorEq] at hc) <;> (try (have hT : True := hc; clear hT hc)) <;> (try (exfalso; omega))) | apply kT | apply kU | apply kV | apply kW | refine kX rfl ?_ | apply kY | apply kZ)
  refine wloop (fun m : Nat => ([(2, .int .i64 r), (3, .ref (eSystem S)), (7, .int .i64 i), (8, .int .i64 k), (9, .bool (fstQ S i m)), (23, .int .i64 S.tasks.length), (24, .int .i64 m)], [])) (fun m => m ≤ S.tasks.length) (fun m => S.tasks.length - m) 0 (Nat.zero_le _) les leh (fun m hm => ?_)
  rcases Nat.lt_or_eq_of_le hm with hml | hml
  · have hnx := fstQ_next S i m
    have c2 := rahead_fn S.tasks m i (by omega)
    cases hq : fstQ S i m <;> cases ha : aheadB S.tasks m i
    all_goals
      rw [hq, ha] at hnx
      rw [ha] at c2
      simp only [Bool.false_and, Bool.true_and, Bool.not_true, Bool.not_false, Bool.and_false, Bool.and_true] at hnx
      repeat' (first | (show W _ _ _ _ _ _; first | apply kA | refine kB rfl ?_ | refine kC rfl rfl ?_ | refine kD rfl rfl ?_ | apply kE | apply kF | apply kG | apply kH | refine kI (by kernel_rfl) (by kernel_rfl) ?_) | (show O _ _ _ _ _ _ _; first | (show O _ _ _ _ (⟨_, .store _ _ _, _, _, _, _⟩ :: _) _ _; refine kJ rfl rfl rfl rfl rfl rfl rfl rfl rfl rfl rfl ?_) | apply kK) | apply kL | ((first | apply kM | apply kN); (iterate 3 (· exact rfl)); (· first | (show Y _ ⟨_, .call ⟨.value _, _, _⟩, _, _, _, _⟩ _ _ _; first | exact q_c (c2) rfl) | exact ya)) | refine kO rfl rfl rfl rfl rfl ?_ | refine kP rfl rfl rfl ?_ | ((first | refine kQ rfl rfl ?_ ?_ | refine kR rfl rfl rfl rfl rfl ?_ ?_ | refine kS rfl rfl rfl ?_ ?_) <;> intro hc <;> (try simp only [KL, cond_true, cond_false, beq_iff_eq, bne_iff_ne, ne_eq, reduceCtorEq] at hc) <;> (try (have hT : True := hc; clear hT hc)) <;> (try (exfalso; omega))) | apply kT | apply kU | apply kV | apply kW | refine kX rfl ?_ | apply kY | apply kZ)
      all_goals first | (exfalso; omega) | exact ⟨m + 1, by omega, by omega, by simp only [hnx]; exact les, leh⟩
  · subst hml
    have c3 := writes_fn S h i k r
    have c4 := fails_fn S h i k r
    have c5 := dclean_fn S h i
    have c6 := job_fn S h i r
    cases hq : fstQ S i S.tasks.length
    · repeat' (first | (show W _ _ _ _ _ _; first | apply kA | refine kB rfl ?_ | refine kC rfl rfl ?_ | refine kD rfl rfl ?_ | apply kE | apply kF | apply kG | apply kH | refine kI (by kernel_rfl) (by kernel_rfl) ?_) | (show O _ _ _ _ _ _ _; first | (show O _ _ _ _ (⟨_, .store _ _ _, _, _, _, _⟩ :: _) _ _; refine kJ rfl rfl rfl rfl rfl rfl rfl rfl rfl rfl rfl ?_) | apply kK) | apply kL | ((first | apply kM | apply kN); (iterate 3 (· exact rfl)); (· first | (show Y _ ⟨_, .call ⟨.value _, _, _⟩, _, _, _, _⟩ _ _ _; first | exact q_c (c0) rfl | exact q_c (c3) rfl | exact q_c (c4) rfl | exact q_c (c5) rfl | exact q_c (c6) rfl) | exact ya)) | refine kO rfl rfl rfl rfl rfl ?_ | refine kP rfl rfl rfl ?_ | ((first | refine kQ rfl rfl ?_ ?_ | refine kR rfl rfl rfl rfl rfl ?_ ?_ | refine kS rfl rfl rfl ?_ ?_) <;> intro hc <;> (try simp only [KL, cond_true, cond_false, beq_iff_eq, bne_iff_ne, ne_eq, reduceCtorEq] at hc) <;> (try (have hT : True := hc; clear hT hc)) <;> (try (exfalso; omega))) | apply kT | apply kU | apply kV | apply kW | refine kX rfl ?_ | apply kY | apply kZ)
      all_goals first | (exfalso; omega) | exact retq rfl rfl
    · obtain ⟨e1, e2⟩ := fst_none37 hq k r
      rw [e1] at c3
      rw [e2] at c4
      by_cases he : (demI S i 0).2 = 0
      · have e3 : jobI S i r = (demI S i 0).1 := by rw [jobI, if_neg (by omega)]; exact job_none h (fun m => (fst_none37 hq m r).2) _
        rw [e3] at c6
        repeat' (first | (show W _ _ _ _ _ _; first | apply kA | refine kB rfl ?_ | refine kC rfl rfl ?_ | refine kD rfl rfl ?_ | apply kE | apply kF | apply kG | apply kH | refine kI (by kernel_rfl) (by kernel_rfl) ?_) | (show O _ _ _ _ _ _ _; first | (show O _ _ _ _ (⟨_, .store _ _ _, _, _, _, _⟩ :: _) _ _; refine kJ rfl rfl rfl rfl rfl rfl rfl rfl rfl rfl rfl ?_) | apply kK) | apply kL | ((first | apply kM | apply kN); (iterate 3 (· exact rfl)); (· first | (show Y _ ⟨_, .call ⟨.value _, _, _⟩, _, _, _, _⟩ _ _ _; first | exact q_c (c0) rfl | exact q_c (c3) rfl | exact q_c (c4) rfl | exact q_c (c5) rfl | exact q_c (c6) rfl) | exact ya)) | refine kO rfl rfl rfl rfl rfl ?_ | refine kP rfl rfl rfl ?_ | ((first | refine kQ rfl rfl ?_ ?_ | refine kR rfl rfl rfl rfl rfl ?_ ?_ | refine kS rfl rfl rfl ?_ ?_) <;> intro hc <;> (try simp only [KL, cond_true, cond_false, beq_iff_eq, bne_iff_ne, ne_eq, reduceCtorEq] at hc) <;> (try (have hT : True := hc; clear hT hc)) <;> (try (exfalso; omega))) | apply kT | apply kU | apply kV | apply kW | refine kX rfl ?_ | apply kY | apply kZ)
        all_goals first | (exfalso; omega) | exact retq rfl rfl
      · repeat' (first | (show W _ _ _ _ _ _; first | apply kA | refine kB rfl ?_ | refine kC rfl rfl ?_ | refine kD rfl rfl ?_ | apply kE | apply kF | apply kG | apply kH | refine kI (by kernel_rfl) (by kernel_rfl) ?_) | (show O _ _ _ _ _ _ _; first | (show O _ _ _ _ (⟨_, .store _ _ _, _, _, _, _⟩ :: _) _ _; refine kJ rfl rfl rfl rfl rfl rfl rfl rfl rfl rfl rfl ?_) | apply kK) | apply kL | ((first | apply kM | apply kN); (iterate 3 (· exact rfl)); (· first | (show Y _ ⟨_, .call ⟨.value _, _, _⟩, _, _, _, _⟩ _ _ _; first | exact q_c (c0) rfl | exact q_c (c3) rfl | exact q_c (c4) rfl | exact q_c (c5) rfl | exact q_c (c6) rfl) | exact ya)) | refine kO rfl rfl rfl rfl rfl ?_ | refine kP rfl rfl rfl ?_ | ((first | refine kQ rfl rfl ?_ ?_ | refine kR rfl rfl rfl rfl rfl ?_ ?_ | refine kS rfl rfl rfl ?_ ?_) <;> intro hc <;> (try simp only [KL, cond_true, cond_false, beq_iff_eq, bne_iff_ne, ne_eq, reduceCtorEq] at hc) <;> (try (have hT : True := hc; clear hT hc)) <;> (try (exfalso; omega))) | apply kT | apply kU | apply kV | apply kW | refine kX rfl ?_ | apply kY | apply kZ)
        all_goals first | (exfalso; omega) | exact retq rfl rfl
theorem interfereGrows_fn (S : System) (i k r r2 : Int) : Fn Try.prog 9 [.agg (eSystem S), .agg [.int .i64 i, .int .i64 k], .agg [.int .i64 r, .int .i64 r2]] (.bool true) := by
  have c0 := awake37_fn
  have c1 := few31_fn S 20 (by omega)
  refine fnb Try.func9 (entered_of (by kernel_rfl)) rfl rfl rfl ?_
  refine wsys 0 rfl (fun hn => ?_)
  cases hf : fewS S 20
  case false =>
    rw [hf] at c1
    repeat' (first | (show W _ _ _ _ _ _; first | apply kA | refine kB rfl ?_ | refine kC rfl rfl ?_ | refine kD rfl rfl ?_ | apply kE | apply kF | apply kG | apply kH | refine kI (by kernel_rfl) (by kernel_rfl) ?_) | (show O _ _ _ _ _ _ _; first | (show O _ _ _ _ (⟨_, .store _ _ _, _, _, _, _⟩ :: _) _ _; refine kJ rfl rfl rfl rfl rfl rfl rfl rfl rfl rfl rfl ?_) | apply kK) | apply kL | ((first | apply kM | apply kN); (iterate 3 (· exact rfl)); (· first | (show Y _ ⟨_, .call ⟨.value _, _, _⟩, _, _, _, _⟩ _ _ _; first | exact q_c (c0) rfl | exact q_c (c1) rfl) | exact ya)) | refine kO rfl rfl rfl rfl rfl ?_ | refine kP rfl rfl rfl ?_ | ((first | refine kQ rfl rfl ?_ ?_ | refine kR rfl rfl rfl rfl rfl ?_ ?_ | refine kS rfl rfl rfl ?_ ?_) <;> intro hc <;> (try simp only [KL, cond_true, cond_false, beq_iff_eq, bne_iff_ne, ne_eq, reduceCtorEq] at hc) <;> (try (have hT : True := hc; clear hT hc)) <;> (try (exfalso; omega))) | apply kT | apply kU | apply kV | apply kW | refine kX rfl ?_ | apply kY | apply kZ)
    all_goals exact retq rfl rfl
  have h := fewS_ok (by omega) hf hn
  rw [hf] at c1
  by_cases hr : r ≤ r2
  case neg =>
    repeat' (first | (show W _ _ _ _ _ _; first | apply kA | refine kB rfl ?_ | refine kC rfl rfl ?_ | refine kD rfl rfl ?_ | apply kE | apply kF | apply kG | apply kH | refine kI (by kernel_rfl) (by kernel_rfl) ?_) | (show O _ _ _ _ _ _ _; first | (show O _ _ _ _ (⟨_, .store _ _ _, _, _, _, _⟩ :: _) _ _; refine kJ rfl rfl rfl rfl rfl rfl rfl rfl rfl rfl rfl ?_) | apply kK) | apply kL | ((first | apply kM | apply kN); (iterate 3 (· exact rfl)); (· first | (show Y _ ⟨_, .call ⟨.value _, _, _⟩, _, _, _, _⟩ _ _ _; first | exact q_c (c0) rfl | exact q_c (c1) rfl) | exact ya | exact Y.mk (ok_index_arr (sz := 1) 0 rfl rfl rfl rfl rfl rfl rfl) | exact Y.mk (ok_index_arr (sz := 1) 1 rfl rfl rfl rfl rfl rfl rfl))) | refine kO rfl rfl rfl rfl rfl ?_ | refine kP rfl rfl rfl ?_ | ((first | refine kQ rfl rfl ?_ ?_ | refine kR rfl rfl rfl rfl rfl ?_ ?_ | refine kS rfl rfl rfl ?_ ?_) <;> intro hc <;> (try simp only [KL, cond_true, cond_false, beq_iff_eq, bne_iff_ne, ne_eq, reduceCtorEq] at hc) <;> (try (have hT : True := hc; clear hT hc)) <;> (try (exfalso; omega))) | apply kT | apply kU | apply kV | apply kW | refine kX rfl ?_ | apply kY | apply kZ)
    all_goals first | (exfalso; omega) | exact retq rfl rfl
  have m1 := writes_mono S i k hr
  have m2 := fails_mono S i k hr
  have m3 := job_mono S i hr
  have c2 := writes_fn S h i k r
  have c3 := writes_fn S h i k r2
  have c4 := fails_fn S h i k r
  have c5 := fails_fn S h i k r2
  have c6 := job_fn S h i r
  have c7 := job_fn S h i r2
  repeat' (first | (show W _ _ _ _ _ _; first | apply kA | refine kB rfl ?_ | refine kC rfl rfl ?_ | refine kD rfl rfl ?_ | apply kE | apply kF | apply kG | apply kH | refine kI (by kernel_rfl) (by kernel_rfl) ?_) | (show O _ _ _ _ _ _ _; first | (show O _ _ _ _ (⟨_, .store _ _ _, _, _, _, _⟩ :: _) _ _; refine kJ rfl rfl rfl rfl rfl rfl rfl rfl rfl rfl rfl ?_) | apply kK) | apply kL | ((first | apply kM | apply kN); (iterate 3 (· exact rfl)); (· first | (show Y _ ⟨_, .call ⟨.value _, _, _⟩, _, _, _, _⟩ _ _ _; first | exact q_c (c0) rfl | exact q_c (c1) rfl | exact q_c (c2) rfl | exact q_c (c3) rfl | exact q_c (c4) rfl | exact q_c (c5) rfl | exact q_c (c6) rfl | exact q_c (c7) rfl) | exact ya | exact Y.mk (ok_index_arr (sz := 1) 0 rfl rfl rfl rfl rfl rfl rfl) | exact Y.mk (ok_index_arr (sz := 1) 1 rfl rfl rfl rfl rfl rfl rfl))) | refine kO rfl rfl rfl rfl rfl ?_ | refine kP rfl rfl rfl ?_ | ((first | refine kQ rfl rfl ?_ ?_ | refine kR rfl rfl rfl rfl rfl ?_ ?_ | refine kS rfl rfl rfl ?_ ?_) <;> intro hc <;> (try simp only [KL, cond_true, cond_false, beq_iff_eq, bne_iff_ne, ne_eq, reduceCtorEq] at hc) <;> (try (have hT : True := hc; clear hT hc)) <;> (try (exfalso; omega))) | apply kT | apply kU | apply kV | apply kW | refine kX rfl ?_ | apply kY | apply kZ)
  all_goals first | (exfalso; omega) | exact retq rfl rfl
end Go.Proofs.Ytkkmageogkkchaa
