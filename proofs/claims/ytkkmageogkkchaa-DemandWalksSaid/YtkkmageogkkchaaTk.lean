/- What is wrong of a task: task.Fault and the document's answer. No condition. -/
import Derived.Test.YtkkmageogkkchaaTaskFn
import Derived.Test.YtkkmageogkkchaaFlA
namespace Go.Proofs.Ytkkmageogkkchaa
set_option linter.unusedSimpArgs false
set_option linter.unusedVariables false
set_option maxRecDepth 100000
open Go.RowKit
def faultF (t : Task) : Int × Int := if plainB t = true then (if (checkF t.code).2 = 0 then (-1, 0) else checkF t.code) else (-1, 1)
theorem fault_fn (t : Task) (hn : t.code.length ≤ 1000000) : Fn Try.prog 105 [.agg (eTask t)] (.tup [.int .i64 (faultF t).1, .int .i64 (faultF t).2]) := by
  have c1 := plain_fn t
  have c2 := check_fn t.code hn
  rw [faultF]
  generalize checkF t.code = r at *
  obtain ⟨r1, r2⟩ := r
  refine fnb Try.func105 (entered_of (by kernel_rfl)) rfl rfl rfl ?_
  cases h : plainB t <;> rw [h] at c1
  · repeat' (first | (show W _ _ _ _ _ _; first | apply kA | refine kB rfl ?_ | refine kC rfl rfl ?_ | refine kD rfl rfl ?_ | apply kE | apply kF | apply kG | apply kH | refine kI (by kernel_rfl) (by kernel_rfl) ?_) | (show O _ _ _ _ _ _ _; first | (show O _ _ _ _ (⟨_, .store _ _ _, _, _, _, _⟩ :: _) _ _; refine kJ rfl rfl rfl rfl rfl rfl rfl rfl rfl rfl rfl ?_) | apply kK) | apply kL | ((first | apply kM | apply kN); (iterate 3 (· exact rfl)); (· first | (show Y _ ⟨_, .call ⟨.value _, _, _⟩, _, _, _, _⟩ _ _ _; first | exact q_c (c1) rfl) | exact ya)) | refine kO rfl rfl rfl rfl rfl ?_ | refine kP rfl rfl rfl ?_ | ((first | refine kQ rfl rfl ?_ ?_ | refine kR rfl rfl rfl rfl rfl ?_ ?_ | refine kS rfl rfl rfl ?_ ?_) <;> intro hc <;> (try simp only [KL, cond_true, cond_false, beq_iff_eq, bne_iff_ne, ne_eq, reduceCtorEq] at hc) <;> (try (have hT : True := hc; clear hT hc)) <;> (try (exfalso; omega))) | apply kT | apply kU | apply kV | apply kW | refine kX rfl ?_ | apply kY | apply kZ)
    exact retq rfl rfl
  · by_cases h2 : r2 = 0
    · rw [if_pos rfl, if_pos h2]
      repeat' (first | (show W _ _ _ _ _ _; first | apply kA | refine kB rfl ?_ | refine kC rfl rfl ?_ | refine kD rfl rfl ?_ | apply kE | apply kF | apply kG | apply kH | refine kI (by kernel_rfl) (by kernel_rfl) ?_) | (show O _ _ _ _ _ _ _; first | (show O _ _ _ _ (⟨_, .store _ _ _, _, _, _, _⟩ :: _) _ _; refine kJ rfl rfl rfl rfl rfl rfl rfl rfl rfl rfl rfl ?_) | apply kK) | apply kL | ((first | apply kM | apply kN); (iterate 3 (· exact rfl)); (· first | (show Y _ ⟨_, .call ⟨.value _, _, _⟩, _, _, _, _⟩ _ _ _; first | exact q_c (c1) rfl | exact q_c (c2) rfl) | exact ya)) | refine kO rfl rfl rfl rfl rfl ?_ | refine kP rfl rfl rfl ?_ | ((first | refine kQ rfl rfl ?_ ?_ | refine kR rfl rfl rfl rfl rfl ?_ ?_ | refine kS rfl rfl rfl ?_ ?_) <;> intro hc <;> (try simp only [KL, cond_true, cond_false, beq_iff_eq, bne_iff_ne, ne_eq, reduceCtorEq] at hc) <;> (try (have hT : True := hc; clear hT hc)) <;> (try (exfalso; omega))) | apply kT | apply kU | apply kV | apply kW | refine kX rfl ?_ | apply kY | apply kZ)
      all_goals first | (exfalso; omega) | exact retq rfl (by rw [h2])
    · rw [if_pos rfl, if_neg h2]
      repeat' (first | (show W _ _ _ _ _ _; first | apply kA | refine kB rfl ?_ | refine kC rfl rfl ?_ | refine kD rfl rfl ?_ | apply kE | apply kF | apply kG | apply kH | refine kI (by kernel_rfl) (by kernel_rfl) ?_) | (show O _ _ _ _ _ _ _; first | (show O _ _ _ _ (⟨_, .store _ _ _, _, _, _, _⟩ :: _) _ _; refine kJ rfl rfl rfl rfl rfl rfl rfl rfl rfl rfl rfl ?_) | apply kK) | apply kL | ((first | apply kM | apply kN); (iterate 3 (· exact rfl)); (· first | (show Y _ ⟨_, .call ⟨.value _, _, _⟩, _, _, _, _⟩ _ _ _; first | exact q_c (c1) rfl | exact q_c (c2) rfl) | exact ya)) | refine kO rfl rfl rfl rfl rfl ?_ | refine kP rfl rfl rfl ?_ | ((first | refine kQ rfl rfl ?_ ?_ | refine kR rfl rfl rfl rfl rfl ?_ ?_ | refine kS rfl rfl rfl ?_ ?_) <;> intro hc <;> (try simp only [KL, cond_true, cond_false, beq_iff_eq, bne_iff_ne, ne_eq, reduceCtorEq] at hc) <;> (try (have hT : True := hc; clear hT hc)) <;> (try (exfalso; omega))) | apply kT | apply kU | apply kV | apply kW | refine kX rfl ?_ | apply kY | apply kZ)
      all_goals first | (exfalso; omega) | exact retq rfl rfl
theorem rfault_fn (t : Task) (hn : t.code.length ≤ 1000000) : Fn Try.prog 63 [.agg (eTask t)] (.tup [.int .i64 (faultF t).1, .int .i64 (faultF t).2]) := by
  have c1 := rplain_fn t
  have c2 := rcheck_fn t.code hn
  rw [faultF]
  generalize checkF t.code = r at *
  obtain ⟨r1, r2⟩ := r
  refine fnb Try.func63 (entered_of (by kernel_rfl)) rfl rfl rfl ?_
  cases h : plainB t <;> rw [h] at c1
  · repeat' (first | (show W _ _ _ _ _ _; first | apply kA | refine kB rfl ?_ | refine kC rfl rfl ?_ | refine kD rfl rfl ?_ | apply kE | apply kF | apply kG | apply kH | refine kI (by kernel_rfl) (by kernel_rfl) ?_) | (show O _ _ _ _ _ _ _; first | (show O _ _ _ _ (⟨_, .store _ _ _, _, _, _, _⟩ :: _) _ _; refine kJ rfl rfl rfl rfl rfl rfl rfl rfl rfl rfl rfl ?_) | apply kK) | apply kL | ((first | apply kM | apply kN); (iterate 3 (· exact rfl)); (· first | (show Y _ ⟨_, .call ⟨.value _, _, _⟩, _, _, _, _⟩ _ _ _; first | exact q_c (c1) rfl) | exact ya)) | refine kO rfl rfl rfl rfl rfl ?_ | refine kP rfl rfl rfl ?_ | ((first | refine kQ rfl rfl ?_ ?_ | refine kR rfl rfl rfl rfl rfl ?_ ?_ | refine kS rfl rfl rfl ?_ ?_) <;> intro hc <;> (try simp only [KL, cond_true, cond_false, beq_iff_eq, bne_iff_ne, ne_eq, reduceCtorEq] at hc) <;> (try (have hT : True := hc; clear hT hc)) <;> (try (exfalso; omega))) | apply kT | apply kU | apply kV | apply kW | refine kX rfl ?_ | apply kY | apply kZ)
    exact retq rfl rfl
  · by_cases h2 : r2 = 0
    · rw [if_pos rfl, if_pos h2]
      repeat' (first | (show W _ _ _ _ _ _; first | apply kA | refine kB rfl ?_ | refine kC rfl rfl ?_ | refine kD rfl rfl ?_ | apply kE | apply kF | apply kG | apply kH | refine kI (by kernel_rfl) (by kernel_rfl) ?_) | (show O _ _ _ _ _ _ _; first | (show O _ _ _ _ (⟨_, .store _ _ _, _, _, _, _⟩ :: _) _ _; refine kJ rfl rfl rfl rfl rfl rfl rfl rfl rfl rfl rfl ?_) | apply kK) | apply kL | ((first | apply kM | apply kN); (iterate 3 (· exact rfl)); (· first | (show Y _ ⟨_, .call ⟨.value _, _, _⟩, _, _, _, _⟩ _ _ _; first | exact q_c (c1) rfl | exact q_c (c2) rfl) | exact ya)) | refine kO rfl rfl rfl rfl rfl ?_ | refine kP rfl rfl rfl ?_ | ((first | refine kQ rfl rfl ?_ ?_ | refine kR rfl rfl rfl rfl rfl ?_ ?_ | refine kS rfl rfl rfl ?_ ?_) <;> intro hc <;> (try simp only [KL, cond_true, cond_false, beq_iff_eq, bne_iff_ne, ne_eq, reduceCtorEq] at hc) <;> (try (have hT : True := hc; clear hT hc)) <;> (try (exfalso; omega))) | apply kT | apply kU | apply kV | apply kW | refine kX rfl ?_ | apply kY | apply kZ)
      all_goals first | (exfalso; omega) | exact retq rfl (by simp only [h2])
    · rw [if_pos rfl, if_neg h2]
      repeat' (first | (show W _ _ _ _ _ _; first | apply kA | refine kB rfl ?_ | refine kC rfl rfl ?_ | refine kD rfl rfl ?_ | apply kE | apply kF | apply kG | apply kH | refine kI (by kernel_rfl) (by kernel_rfl) ?_) | (show O _ _ _ _ _ _ _; first | (show O _ _ _ _ (⟨_, .store _ _ _, _, _, _, _⟩ :: _) _ _; refine kJ rfl rfl rfl rfl rfl rfl rfl rfl rfl rfl rfl ?_) | apply kK) | apply kL | ((first | apply kM | apply kN); (iterate 3 (· exact rfl)); (· first | (show Y _ ⟨_, .call ⟨.value _, _, _⟩, _, _, _, _⟩ _ _ _; first | exact q_c (c1) rfl | exact q_c (c2) rfl) | exact ya)) | refine kO rfl rfl rfl rfl rfl ?_ | refine kP rfl rfl rfl ?_ | ((first | refine kQ rfl rfl ?_ ?_ | refine kR rfl rfl rfl rfl rfl ?_ ?_ | refine kS rfl rfl rfl ?_ ?_) <;> intro hc <;> (try simp only [KL, cond_true, cond_false, beq_iff_eq, bne_iff_ne, ne_eq, reduceCtorEq] at hc) <;> (try (have hT : True := hc; clear hT hc)) <;> (try (exfalso; omega))) | apply kT | apply kU | apply kV | apply kW | refine kX rfl ?_ | apply kY | apply kZ)
      all_goals first | (exfalso; omega) | exact retq rfl rfl
end Go.Proofs.Ytkkmageogkkchaa
namespace Go.Proofs.Ytkkmageogkkchaa
set_option linter.unusedSimpArgs false
set_option linter.unusedVariables false
set_option maxRecDepth 100000
set_option linter.unusedSimpArgs false
set_option linter.unusedVariables false
set_option maxRecDepth 100000
open Go.RowKit
theorem take_next {α : Type} (l : List α) (k : Nat) (h : k < l.length) : l.take (k + 1) = l.take k ++ [l[k]] := by
  rw [List.take_succ_eq_append_getElem h]

def prioAt (l : List Task) (i : Int) : Int := (l.getD i.toNat default).prio
/-- Does a go ahead of b? -/
def aheadB (l : List Task) (a b : Int) : Bool :=
  decide (0 ≤ a ∧ a < l.length ∧ 0 ≤ b ∧ b < l.length) && (decide (prioAt l b < prioAt l a) || (prioAt l a == prioAt l b && decide (a < b)))
theorem aheadB_out {l : List Task} {a b : Int} (h : ¬ (0 ≤ a ∧ a < l.length ∧ 0 ≤ b ∧ b < l.length)) : aheadB l a b = false := by simp [aheadB]; omega
theorem aheadB_in {l : List Task} {i j : Nat} (hi : i < l.length) (hj : j < l.length) : aheadB l i j = (decide (l[j].prio < l[i].prio) || (l[i].prio == l[j].prio && decide ((i : Int) < j))) := by
  have h : (0 ≤ (i : Int) ∧ (i : Int) < l.length ∧ 0 ≤ (j : Int) ∧ (j : Int) < l.length) := by omega
  simp [aheadB, prioAt, hi, hj]

/-- Who of the first n goes ahead of one. -/
def aboveTo (l : List Task) (i : Int) (n : Nat) : List Int := ((List.range n).filter fun k : Nat => aheadB l (k : Int) i).map fun k : Nat => (k : Int)
theorem aboveTo_len (l : List Task) (i : Int) (n : Nat) : (aboveTo l i n).length ≤ n := by
  unfold aboveTo; rw [List.length_map]; exact Nat.le_trans (List.length_filter_le _ _) (by simp)
theorem aboveTo_yes {l : List Task} {i : Int} {n : Nat} (h : aheadB l n i = true) : aboveTo l i (n + 1) = aboveTo l i n ++ [(n : Int)] := by simp [aboveTo, List.range_succ, h]
theorem aboveTo_no {l : List Task} {i : Int} {n : Nat} (h : aheadB l n i = false) : aboveTo l i (n + 1) = aboveTo l i n := by simp [aboveTo, List.range_succ, h]
def aboveL (l : List Task) (i : Int) : List Int := aboveTo l i l.length

theorem ahead_lt {l : List Task} {a b : Int} : aheadB l a b = true ↔ (0 ≤ a ∧ a < l.length ∧ 0 ≤ b ∧ b < l.length) ∧ (prioAt l b < prioAt l a ∨ prioAt l a = prioAt l b ∧ a < b) := by
  simp [aheadB]
theorem ahead_fn (l : List Task) (a b : Int) (hn : l.length ≤ 1000000) : Fn Try.prog 121 [.lst 7 (l.map eTask), .int .i64 a, .int .i64 b] (.bool (aheadB l a b)) := by
  refine fnb Try.func121 (entered_of (by kernel_rfl)) rfl rfl rfl ?_
  repeat' (first | (show W _ _ _ _ _ _; first | apply kA | refine kB rfl ?_ | refine kC rfl rfl ?_ | refine kD rfl rfl ?_ | apply kE | apply kF | apply kG | apply kH | refine kI (by kernel_rfl) (by kernel_rfl) ?_) | (show O _ _ _ _ _ _ _; first | (show O _ _ _ _ (⟨_, .store _ _ _, _, _, _, _⟩ :: _) _ _; refine kJ rfl rfl rfl rfl rfl rfl rfl rfl rfl rfl rfl ?_) | apply kK) | apply kL | ((first | apply kM | apply kN); (iterate 3 (· exact rfl)); (· first | (show Y _ ⟨_, .call ⟨.value _, _, _⟩, _, _, _, _⟩ _ _ _; first | exact q_c (within_fn _ _ _) rfl) | exact ya)) | refine kO rfl rfl rfl rfl rfl ?_ | refine kP rfl rfl rfl ?_ | ((first | refine kQ rfl rfl ?_ ?_ | refine kR rfl rfl rfl rfl rfl ?_ ?_ | refine kS rfl rfl rfl ?_ ?_) <;> intro hc <;> (try simp only [KL, cond_true, cond_false, beq_iff_eq, bne_iff_ne, ne_eq, reduceCtorEq] at hc) <;> (try (have hT : True := hc; clear hT hc)) <;> (try (exfalso; omega))) | apply kT | apply kU | apply kV | apply kW | refine kX rfl ?_ | apply kY | apply kZ)
  all_goals exact retq rfl (congrArg AV.bool (by rw [Bool.eq_iff_iff]; (try simp only [ahead_lt, prioAt, cond_true, cond_false, decide_eq_true_eq, Bool.not_eq_true', decide_eq_false_iff_not, Bool.and_eq_true, Bool.or_eq_true, true_iff, false_iff, iff_true, iff_false, Bool.false_eq_true, Bool.not_true, Bool.not_false, reduceCtorEq]); (first | done | omega | (constructor <;> intros <;> omega))))
theorem rahead_fn (l : List Task) (a b : Int) (hn : l.length ≤ 1000000) : Fn Try.prog 38 [.lst 7 (l.map eTask), .int .i64 a, .int .i64 b] (.bool (aheadB l a b)) := by
  refine fnb Try.func38 (entered_of (by kernel_rfl)) rfl rfl rfl ?_
  repeat' (first | (show W _ _ _ _ _ _; first | apply kA | refine kB rfl ?_ | refine kC rfl rfl ?_ | refine kD rfl rfl ?_ | apply kE | apply kF | apply kG | apply kH | refine kI (by kernel_rfl) (by kernel_rfl) ?_) | (show O _ _ _ _ _ _ _; first | (show O _ _ _ _ (⟨_, .store _ _ _, _, _, _, _⟩ :: _) _ _; refine kJ rfl rfl rfl rfl rfl rfl rfl rfl rfl rfl rfl ?_) | apply kK) | apply kL | ((first | apply kM | apply kN); (iterate 3 (· exact rfl)); (· first | exact ya)) | refine kO rfl rfl rfl rfl rfl ?_ | refine kP rfl rfl rfl ?_ | ((first | refine kQ rfl rfl ?_ ?_ | refine kR rfl rfl rfl rfl rfl ?_ ?_ | refine kS rfl rfl rfl ?_ ?_) <;> intro hc <;> (try simp only [KL, cond_true, cond_false, beq_iff_eq, bne_iff_ne, ne_eq, reduceCtorEq] at hc) <;> (try (have hT : True := hc; clear hT hc)) <;> (try (exfalso; omega))) | apply kT | apply kU | apply kV | apply kW | refine kX rfl ?_ | apply kY | apply kZ)
  all_goals exact retq rfl (congrArg AV.bool (by rw [Bool.eq_iff_iff]; (try simp only [ahead_lt, prioAt, cond_true, cond_false, decide_eq_true_eq, Bool.not_eq_true', decide_eq_false_iff_not, Bool.and_eq_true, Bool.or_eq_true, true_iff, false_iff, iff_true, iff_false, Bool.false_eq_true, Bool.not_true, Bool.not_false, reduceCtorEq]); (first | done | omega | (constructor <;> intros <;> omega))))
end Go.Proofs.Ytkkmageogkkchaa
