/- The document's answer for layer 37; the statement InterfereTells. No condition. -/
import Derived.Test.YtkkmageogkkchaaGreatQ18
import Derived.Test.YtkkmageogkkchaaGreatQ14
namespace Go.Proofs.YtkkmageogkkchaaGreat
set_option linter.unusedSimpArgs false
set_option linter.unusedVariables false
set_option maxRecDepth 100000
set_option linter.unusedSimpArgs false
set_option linter.unusedVariables false
set_option maxRecDepth 100000
open Go.RowKit
theorem rmost36_fn (S : System) (h : OkS S) (i : Nat) (fails : Int) (hi : i < S.tasks.length) (hfl : 0 ≤ fails ∧ fails ≤ 1000) :
    Fn Tryz.prog 70 [.agg (eSystem S), .int .i64 i, .int .i64 fails] (.int .i64 (if (demI S i fails).2 = 0 then (demI S i fails).1 else -1)) := by
  have h1 := h.tl
  have h2 := h.ol
  have h3 := h.cl i
  have h4 := h.n i
  have ed : demI S i fails = costF max (S.tasks.getD i default).code (weightsL S.objects (S.tasks.getD i default).code fails) := by rw [demI, if_neg (by omega), Int.toNat_natCast]
  rw [ed]
  have c0 := rfine_fn (S.tasks.getD i default).code (by omega)
  cases hf : fineB (S.tasks.getD i default).code
  · rw [hf] at c0
    rw [costF_no hf]
    have he : ¬ (checkF (S.tasks.getD i default).code).2 = 0 := by rw [fineB] at hf; exact of_decide_eq_false hf
    rw [if_neg he]
    refine fnb Tryz.func70 (entered_of (by kernel_rfl)) rfl rfl rfl ?_
    repeat' (first | refine sA ?_ | ((first | apply kM | apply kN); (iterate 3 (· exact rfl)); (· first | (show Y _ ⟨_, .call ⟨.value _, _, _⟩, _, _, _, _⟩ _ _ _; first | exact q_c (c0) rfl) | exact ya)) | refine sG ?_ | ((first | refine kQ rfl rfl ?_ ?_ | refine kR rfl rfl rfl rfl rfl ?_ ?_ | refine kS rfl rfl rfl ?_ ?_) <;> intro hc <;> (try simp only [KL, cond_true, cond_false, beq_iff_eq, bne_iff_ne, ne_eq, reduceCtorEq] at hc) <;> (try (have hT : True := hc; clear hT hc)) <;> (try (exfalso; omega))))
    all_goals first | (exfalso; omega) | exact retq rfl rfl
  · rw [hf] at c0
    rw [costF_fine hf (wts_len _ _ _), if_pos rfl]
    have c1 := rweights_fn S.tasks S.objects i fails hfl (by omega) hi (by omega)
    have c2 := most12_fn (S.tasks.getD i default).code (weightsL S.objects (S.tasks.getD i default).code fails) hf h4 (wts_len _ _ _)
    refine fnb Tryz.func70 (entered_of (by kernel_rfl)) rfl rfl rfl ?_
    repeat' (first | refine sA ?_ | ((first | apply kM | apply kN); (iterate 3 (· exact rfl)); (· first | (show Y _ ⟨_, .call ⟨.value _, _, _⟩, _, _, _, _⟩ _ _ _; first | exact q_c (c0) rfl | exact q_c (c1) rfl | exact q_c (c2) rfl) | exact ya)) | refine sG ?_ | ((first | refine kQ rfl rfl ?_ ?_ | refine kR rfl rfl rfl rfl rfl ?_ ?_ | refine kS rfl rfl rfl ?_ ?_) <;> intro hc <;> (try simp only [KL, cond_true, cond_false, beq_iff_eq, bne_iff_ne, ne_eq, reduceCtorEq] at hc) <;> (try (have hT : True := hc; clear hT hc)) <;> (try (exfalso; omega))))
    all_goals first | (exfalso; omega) | exact retq rfl rfl
theorem rreads_fn (S : System) (h : OkS S) (i k : Int) : Fn Tryz.prog 20 [.agg (eSystem S), .int .i64 i, .int .i64 k] (.bool (readsB S i k)) := by
  have c1 := rrole_fn S h i k
  have c2 := rcalls36_fn S h i k false
  by_cases h1 : roleI S i k = 1
  · rw [readsB, decide_eq_true h1, Bool.true_and]
    refine fnb Tryz.func20 (entered_of (by kernel_rfl)) rfl rfl rfl ?_
    repeat' (first | refine sA ?_ | ((first | apply kM | apply kN); (iterate 3 (· exact rfl)); (· first | (show Y _ ⟨_, .call ⟨.value _, _, _⟩, _, _, _, _⟩ _ _ _; first | exact q_c (c1) rfl | exact q_c (c2) rfl) | exact ya)) | refine sG ?_ | ((first | refine kQ rfl rfl ?_ ?_ | refine kR rfl rfl rfl rfl rfl ?_ ?_ | refine kS rfl rfl rfl ?_ ?_) <;> intro hc <;> (try simp only [KL, cond_true, cond_false, beq_iff_eq, bne_iff_ne, ne_eq, reduceCtorEq] at hc) <;> (try (have hT : True := hc; clear hT hc)) <;> (try (exfalso; omega))))
    all_goals first | (exfalso; omega) | exact retq rfl rfl
  · rw [readsB, decide_eq_false h1, Bool.false_and]
    refine fnb Tryz.func20 (entered_of (by kernel_rfl)) rfl rfl rfl ?_
    repeat' (first | refine sA ?_ | ((first | apply kM | apply kN); (iterate 3 (· exact rfl)); (· first | (show Y _ ⟨_, .call ⟨.value _, _, _⟩, _, _, _, _⟩ _ _ _; first | exact q_c (c1) rfl | exact q_c (c2) rfl) | exact ya)) | refine sG ?_ | ((first | refine kQ rfl rfl ?_ ?_ | refine kR rfl rfl rfl rfl rfl ?_ ?_ | refine kS rfl rfl rfl ?_ ?_) <;> intro hc <;> (try simp only [KL, cond_true, cond_false, beq_iff_eq, bne_iff_ne, ne_eq, reduceCtorEq] at hc) <;> (try (have hT : True := hc; clear hT hc)) <;> (try (exfalso; omega))))
    all_goals first | (exfalso; omega) | exact retq rfl rfl
theorem rahead37_fn (S : System) (h : OkS S) (i k : Int) (hk : 0 ≤ k ∧ k < S.objects.length) : Fn Tryz.prog 21 [.agg (eSystem S), .int .i64 i, .int .i64 k] (.bool (aheadO S i k)) := by
  have h1 := h.tl
  have c1 := rahead_fn S.tasks (objD S k).writer i (by omega)
  refine fnb Tryz.func21 (entered_of (by kernel_rfl)) rfl rfl rfl ?_
  repeat' (first | refine sA ?_ | ((first | apply kM | apply kN); (iterate 3 (· exact rfl)); (· first | (show Y _ ⟨_, .call ⟨.value _, _, _⟩, _, _, _, _⟩ _ _ _; first | exact q_c (c1) rfl) | exact ya)) | refine sG ?_ | ((first | refine kQ rfl rfl ?_ ?_ | refine kR rfl rfl rfl rfl rfl ?_ ?_ | refine kS rfl rfl rfl ?_ ?_) <;> intro hc <;> (try simp only [KL, cond_true, cond_false, beq_iff_eq, bne_iff_ne, ne_eq, reduceCtorEq] at hc) <;> (try (have hT : True := hc; clear hT hc)) <;> (try (exfalso; omega))))
  exact retq rfl rfl
theorem rwrites_fn (S : System) (h : OkS S) (i k r : Int) : Fn Tryz.prog 24 [.agg (eSystem S), .int .i64 i, .int .i64 k, .int .i64 r] (.int .i64 (writesI S i k r)) := by
  have c1 := rreads_fn S h i k
  cases hr : readsB S i k
  · rw [hr] at c1
    rw [writesI, hr, if_neg (by simp)]
    refine fnb Tryz.func24 (entered_of (by kernel_rfl)) rfl rfl rfl ?_
    repeat' (first | refine sA ?_ | ((first | apply kM | apply kN); (iterate 3 (· exact rfl)); (· first | (show Y _ ⟨_, .call ⟨.value _, _, _⟩, _, _, _, _⟩ _ _ _; first | exact q_c (c1) rfl) | exact ya)) | refine sG ?_ | ((first | refine kQ rfl rfl ?_ ?_ | refine kR rfl rfl rfl rfl rfl ?_ ?_ | refine kS rfl rfl rfl ?_ ?_) <;> intro hc <;> (try simp only [KL, cond_true, cond_false, beq_iff_eq, bne_iff_ne, ne_eq, reduceCtorEq] at hc) <;> (try (have hT : True := hc; clear hT hc)) <;> (try (exfalso; omega))))
    all_goals exact retq rfl rfl
  rw [hr] at c1
  have hin := reads_in hr
  have c2 := rahead37_fn S h i k (by omega)
  cases ha : aheadO S i k
  · rw [ha] at c2
    rw [writesI, ha, if_neg (by simp)]
    refine fnb Tryz.func24 (entered_of (by kernel_rfl)) rfl rfl rfl ?_
    repeat' (first | refine sA ?_ | ((first | apply kM | apply kN); (iterate 3 (· exact rfl)); (· first | (show Y _ ⟨_, .call ⟨.value _, _, _⟩, _, _, _, _⟩ _ _ _; first | exact q_c (c1) rfl | exact q_c (c2) rfl) | exact ya)) | refine sG ?_ | ((first | refine kQ rfl rfl ?_ ?_ | refine kR rfl rfl rfl rfl rfl ?_ ?_ | refine kS rfl rfl rfl ?_ ?_) <;> intro hc <;> (try simp only [KL, cond_true, cond_false, beq_iff_eq, bne_iff_ne, ne_eq, reduceCtorEq] at hc) <;> (try (have hT : True := hc; clear hT hc)) <;> (try (exfalso; omega))))
    all_goals exact retq rfl rfl
  rw [ha] at c2
  rw [writesI, hr, ha, if_pos ⟨rfl, rfl⟩]
  have hw := (ahead_lt.1 ha).1
  have hw2 : 0 ≤ (S.objects.getD k.toNat default).writer ∧ (S.objects.getD k.toNat default).writer < S.tasks.length := ⟨hw.1, hw.2.1⟩
  have c3 := rcalls36_fn S h (S.objects.getD k.toNat default).writer k true
  refine fnb Tryz.func24 (entered_of (by kernel_rfl)) rfl rfl rfl ?_
  repeat' (first | refine sA ?_ | ((first | apply kM | apply kN); (iterate 3 (· exact rfl)); (· first | (show Y _ ⟨_, .call ⟨.value _, _, _⟩, _, _, _, _⟩ _ _ _; first | exact q_c (c1) rfl | exact q_c (c2) rfl | exact q_c (c3) rfl | exact q_c (rCeil_fn _ _) rfl | exact q_c (rMul_fn _ _) rfl) | exact ya)) | refine sG ?_ | ((first | refine kQ rfl rfl ?_ ?_ | refine kR rfl rfl rfl rfl rfl ?_ ?_ | refine kS rfl rfl rfl ?_ ?_) <;> intro hc <;> (try simp only [KL, cond_true, cond_false, beq_iff_eq, bne_iff_ne, ne_eq, reduceCtorEq] at hc) <;> (try (have hT : True := hc; clear hT hc)) <;> (try (exfalso; omega))))
  all_goals exact retq rfl rfl
theorem rfails_fn (S : System) (h : OkS S) (i k r : Int) : Fn Tryz.prog 26 [.agg (eSystem S), .int .i64 i, .int .i64 k, .int .i64 r] (.int .i64 (failsI S i k r)) := by
  have c1 := rwrites_fn S h i k r
  have hB := writes_B S i k r
  rw [failsI]
  by_cases h0 : writesI S i k r = 0
  · rw [failsO, if_pos h0]
    rw [h0] at c1
    refine fnb Tryz.func26 (entered_of (by kernel_rfl)) rfl rfl rfl ?_
    repeat' (first | refine sA ?_ | ((first | apply kM | apply kN); (iterate 3 (· exact rfl)); (· first | (show Y _ ⟨_, .call ⟨.value _, _, _⟩, _, _, _, _⟩ _ _ _; first | exact q_c (c1) rfl) | exact ya)) | refine sG ?_ | ((first | refine kQ rfl rfl ?_ ?_ | refine kR rfl rfl rfl rfl rfl ?_ ?_ | refine kS rfl rfl rfl ?_ ?_) <;> intro hc <;> (try simp only [KL, cond_true, cond_false, beq_iff_eq, bne_iff_ne, ne_eq, reduceCtorEq] at hc) <;> (try (have hT : True := hc; clear hT hc)) <;> (try (exfalso; omega))))
    all_goals first | (exfalso; omega) | exact retq rfl rfl
  have hsl := h.sl k.toNat
  have hin : 0 ≤ k ∧ k < S.objects.length := by
    have : readsB S i k = true := by
      cases hq : readsB S i k with
      | true => rfl
      | false => exfalso; apply h0; rw [writesI, hq, if_neg (by simp)]
    have := reads_in this; omega
  obtain ⟨m, rfl⟩ : ∃ m : Nat, k = m := ⟨k.toNat, by omega⟩
  rw [objD, Int.toNat_natCast]
  generalize writesI S i m r = n at *
  rw [failsO, if_neg h0]
  obtain ⟨o, hod⟩ : ∃ o, S.objects.getD m default = o := ⟨_, rfl⟩
  rw [Int.toNat_natCast, hod] at hsl
  rw [hod]
  by_cases h35 : o.kind = 3 ∨ o.kind = 5
  · rw [if_pos h35]
    refine fnb Tryz.func26 (entered_of (by kernel_rfl)) rfl rfl rfl ?_
    repeat' (first | refine sA ?_ | ((first | apply kM | apply kN); (iterate 3 (· exact rfl)); (· first | (show Y _ ⟨_, .indexAddr _ _ _, _, _, _, _⟩ _ _ _; first | exact Y.mk (ok_indexE (hod) rfl rfl rfl rfl rfl (by omega))) | (show Y _ ⟨_, .call ⟨.value _, _, _⟩, _, _, _, _⟩ _ _ _; first | exact q_c (c1) rfl) | exact ya)) | refine sG ?_ | ((first | refine kQ rfl rfl ?_ ?_ | refine kR rfl rfl rfl rfl rfl ?_ ?_ | refine kS rfl rfl rfl ?_ ?_) <;> intro hc <;> (try simp only [KL, cond_true, cond_false, beq_iff_eq, bne_iff_ne, ne_eq, reduceCtorEq] at hc) <;> (try (have hT : True := hc; clear hT hc)) <;> (try (exfalso; omega))))
    all_goals first | (exfalso; omega) | exact retq rfl rfl
  rw [if_neg h35]
  by_cases h4 : o.kind = 4
  · rw [if_pos h4]
    by_cases h2 : 2 < o.slots
    · rw [if_pos h2]
      have h5 := Int.ediv_nonneg hB.1 (show 0 ≤ o.slots - 1 by omega)
      have h6 := Int.ediv_le_self (o.slots - 1) hB.1
      refine fnb Tryz.func26 (entered_of (by kernel_rfl)) rfl rfl rfl ?_
      repeat' (first | refine sA ?_ | ((first | apply kM | apply kN); (iterate 3 (· exact rfl)); (· first | (show Y _ ⟨_, .indexAddr _ _ _, _, _, _, _⟩ _ _ _; first | exact Y.mk (ok_indexE (hod) rfl rfl rfl rfl rfl (by omega))) | (show Y _ ⟨_, .call ⟨.value _, _, _⟩, _, _, _, _⟩ _ _ _; first | exact q_c (c1) rfl) | exact ya)) | refine sG ?_ | ((first | refine kQ rfl rfl ?_ ?_ | refine kR rfl rfl rfl rfl rfl ?_ ?_ | refine kS rfl rfl rfl ?_ ?_) <;> intro hc <;> (try simp only [KL, cond_true, cond_false, beq_iff_eq, bne_iff_ne, ne_eq, reduceCtorEq] at hc) <;> (try (have hT : True := hc; clear hT hc)) <;> (try (exfalso; omega))))
      all_goals first | (exfalso; omega) | exact retq rfl rfl
    · rw [if_neg h2]
      refine fnb Tryz.func26 (entered_of (by kernel_rfl)) rfl rfl rfl ?_
      repeat' (first | refine sA ?_ | ((first | apply kM | apply kN); (iterate 3 (· exact rfl)); (· first | (show Y _ ⟨_, .indexAddr _ _ _, _, _, _, _⟩ _ _ _; first | exact Y.mk (ok_indexE (hod) rfl rfl rfl rfl rfl (by omega))) | (show Y _ ⟨_, .call ⟨.value _, _, _⟩, _, _, _, _⟩ _ _ _; first | exact q_c (c1) rfl) | exact ya)) | refine sG ?_ | ((first | refine kQ rfl rfl ?_ ?_ | refine kR rfl rfl rfl rfl rfl ?_ ?_ | refine kS rfl rfl rfl ?_ ?_) <;> intro hc <;> (try simp only [KL, cond_true, cond_false, beq_iff_eq, bne_iff_ne, ne_eq, reduceCtorEq] at hc) <;> (try (have hT : True := hc; clear hT hc)) <;> (try (exfalso; omega))))
      all_goals first | (exfalso; omega) | exact retq rfl rfl
  · rw [if_neg h4]
    refine fnb Tryz.func26 (entered_of (by kernel_rfl)) rfl rfl rfl ?_
    repeat' (first | refine sA ?_ | ((first | apply kM | apply kN); (iterate 3 (· exact rfl)); (· first | (show Y _ ⟨_, .indexAddr _ _ _, _, _, _, _⟩ _ _ _; first | exact Y.mk (ok_indexE (hod) rfl rfl rfl rfl rfl (by omega))) | (show Y _ ⟨_, .call ⟨.value _, _, _⟩, _, _, _, _⟩ _ _ _; first | exact q_c (c1) rfl) | exact ya)) | refine sG ?_ | ((first | refine kQ rfl rfl ?_ ?_ | refine kR rfl rfl rfl rfl rfl ?_ ?_ | refine kS rfl rfl rfl ?_ ?_) <;> intro hc <;> (try simp only [KL, cond_true, cond_false, beq_iff_eq, bne_iff_ne, ne_eq, reduceCtorEq] at hc) <;> (try (have hT : True := hc; clear hT hc)) <;> (try (exfalso; omega))))
    all_goals first | (exfalso; omega) | exact retq rfl rfl
theorem noread_job {S : System} (h : OkS S) {i r : Int} {m : Nat} (hr : readsB S i m = false) : jobTo S i r (m + 1) = jobTo S i r m := by
  have h1 := job_B h i r m
  have e : failsI S i m r = 0 := by rw [failsI, writesI, hr, if_neg (by simp), failsO, if_pos rfl]
  rw [jobTo, e, mul_0 (.inl rfl), addI_0, insId h1.1 h1.2]
theorem rjob_fn (S : System) (h : OkS S) (i r : Int) : Fn Tryz.prog 28 [.agg (eSystem S), .int .i64 i, .int .i64 r] (.int .i64 (jobI S i r)) := by
  have h1 := h.tl
  have h2 := h.ol
  by_cases hi : i < 0 ∨ (S.tasks.length : Int) ≤ i
  · have e : (demI S i 0).2 = 1 := by rw [demI, if_pos hi]
    rw [jobI, if_pos (by omega)]
    refine fnb Tryz.func28 (entered_of (by kernel_rfl)) rfl rfl rfl ?_
    repeat' (first | refine sA ?_ | ((first | apply kM | apply kN); (iterate 3 (· exact rfl)); (· first | exact ya)) | refine sG ?_ | ((first | refine kQ rfl rfl ?_ ?_ | refine kR rfl rfl rfl rfl rfl ?_ ?_ | refine kS rfl rfl rfl ?_ ?_) <;> intro hc <;> (try simp only [KL, cond_true, cond_false, beq_iff_eq, bne_iff_ne, ne_eq, reduceCtorEq] at hc) <;> (try (have hT : True := hc; clear hT hc)) <;> (try (exfalso; omega))))
    all_goals first | (exfalso; omega) | exact retq rfl rfl
  obtain ⟨j, rfl⟩ : ∃ j : Nat, i = j := ⟨i.toNat, by omega⟩
  have c1 := rmost36_fn S h j 0 (by omega) (by omega)
  by_cases he : (demI S j 0).2 ≠ 0
  · rw [jobI, if_pos he]
    rw [if_neg he] at c1
    refine fnb Tryz.func28 (entered_of (by kernel_rfl)) rfl rfl rfl ?_
    repeat' (first | refine sA ?_ | ((first | apply kM | apply kN); (iterate 3 (· exact rfl)); (· first | (show Y _ ⟨_, .call ⟨.value _, _, _⟩, _, _, _, _⟩ _ _ _; first | exact q_c (c1) rfl) | exact ya)) | refine sG ?_ | ((first | refine kQ rfl rfl ?_ ?_ | refine kR rfl rfl rfl rfl rfl ?_ ?_ | refine kS rfl rfl rfl ?_ ?_) <;> intro hc <;> (try simp only [KL, cond_true, cond_false, beq_iff_eq, bne_iff_ne, ne_eq, reduceCtorEq] at hc) <;> (try (have hT : True := hc; clear hT hc)) <;> (try (exfalso; omega))))
    all_goals first | (exfalso; omega) | exact retq rfl rfl
  rw [jobI, if_neg he]
  rw [if_pos (by omega)] at c1
  have hB := dem_B h j 0
  refine fnb Tryz.func28 (entered_of (by kernel_rfl)) rfl rfl rfl ?_
  repeat' (first | refine sA ?_ | ((first | apply kM | apply kN); (iterate 3 (· exact rfl)); (· first | (show Y _ ⟨_, .call ⟨.value _, _, _⟩, _, _, _, _⟩ _ _ _; first | exact q_c (c1) rfl) | exact ya)) | refine sG ?_ | ((first | refine kQ rfl rfl ?_ ?_ | refine kR rfl rfl rfl rfl rfl ?_ ?_ | refine kS rfl rfl rfl ?_ ?_) <;> intro hc <;> (try simp only [KL, cond_true, cond_false, beq_iff_eq, bne_iff_ne, ne_eq, reduceCtorEq] at hc) <;> (try (have hT : True := hc; clear hT hc)) <;> (try (exfalso; omega))))
  all_goals first | (exfalso; omega) | skip
  refine wloop (fun m : Nat => ([(1, .int .i64 (j : Int)), (2, .int .i64 r), (3, .ref (eSystem S)), (7, .int .i64 (jobTo S j r m)), (25, .lst 8 (S.objects.map eObject)), (26, .int .i64 S.objects.length), (27, .int .i64 m)], [])) (fun m => m ≤ S.objects.length) (fun m => S.objects.length - m) 0 (Nat.zero_le _) les leh (fun m hm => ?_)
  rcases Nat.lt_or_eq_of_le hm with hml | hml
  · have c2 := rfails_fn S h j m r
    have c4 := rreads_fn S h j m
    obtain ⟨o, hod⟩ : ∃ o, S.objects.getD m default = o := ⟨_, rfl⟩
    have c3 := rfail_fn o 1
    cases hr : readsB S j m
    · rw [hr] at c4
      have hnx := noread_job h (r := r) hr
      repeat' (first | refine sA ?_ | (show O _ _ _ _ _ _ _; first | (show O _ _ _ _ (⟨_, .alloc _, _, _, _, _⟩ :: _) _ _; first | refine ao_alloc (id := 10) rfl rfl rfl rfl rfl rfl rfl ?_)) | ((first | apply kM | apply kN); (iterate 3 (· exact rfl)); (· first | (show Y _ ⟨_, .indexAddr _ _ _, _, _, _, _⟩ _ _ _; first | exact Y.mk (ok_indexE (hod) rfl rfl rfl rfl rfl (by omega))) | (show Y _ ⟨_, .call ⟨.value _, _, _⟩, _, _, _, _⟩ _ _ _; first | exact q_c (c4) rfl) | exact ya)) | refine sG ?_ | ((first | refine kQ rfl rfl ?_ ?_ | refine kR rfl rfl rfl rfl rfl ?_ ?_ | refine kS rfl rfl rfl ?_ ?_) <;> intro hc <;> (try simp only [KL, cond_true, cond_false, beq_iff_eq, bne_iff_ne, ne_eq, reduceCtorEq] at hc) <;> (try (have hT : True := hc; clear hT hc)) <;> (try (exfalso; omega))))
      all_goals first | (exfalso; omega) | exact ⟨m + 1, by omega, by omega, by simp only [hnx]; exact les, leh⟩
    · rw [hr] at c4
      have hnx : jobTo S j r (m + 1) = addI (jobTo S j r m) (mulI (failsI S j m r) (failI o 1)) := by rw [jobTo, hod]
      repeat' (first | refine sA ?_ | (show O _ _ _ _ _ _ _; first | (show O _ _ _ _ (⟨_, .alloc _, _, _, _, _⟩ :: _) _ _; first | refine ao_alloc (id := 10) rfl rfl rfl rfl rfl rfl rfl ?_)) | ((first | apply kM | apply kN); (iterate 3 (· exact rfl)); (· first | (show Y _ ⟨_, .indexAddr _ _ _, _, _, _, _⟩ _ _ _; first | exact Y.mk (ok_indexE (hod) rfl rfl rfl rfl rfl (by omega))) | (show Y _ ⟨_, .call ⟨.value _, _, _⟩, _, _, _, _⟩ _ _ _; first | exact q_c (c2) rfl | exact q_c (c3) rfl | exact q_c (c4) rfl | exact q_c (rMul_fn _ _) rfl | exact q_c (rAdd_fn _ _) rfl) | exact ya)) | refine sG ?_ | ((first | refine kQ rfl rfl ?_ ?_ | refine kR rfl rfl rfl rfl rfl ?_ ?_ | refine kS rfl rfl rfl ?_ ?_) <;> intro hc <;> (try simp only [KL, cond_true, cond_false, beq_iff_eq, bne_iff_ne, ne_eq, reduceCtorEq] at hc) <;> (try (have hT : True := hc; clear hT hc)) <;> (try (exfalso; omega))))
      all_goals first | (exfalso; omega) | exact ⟨m + 1, by omega, by omega, by simp only [hnx]; exact les, leh⟩
  · subst hml
    repeat' (first | refine sA ?_ | ((first | apply kM | apply kN); (iterate 3 (· exact rfl)); (· first | exact ya)) | refine sG ?_ | ((first | refine kQ rfl rfl ?_ ?_ | refine kR rfl rfl rfl rfl rfl ?_ ?_ | refine kS rfl rfl rfl ?_ ?_) <;> intro hc <;> (try simp only [KL, cond_true, cond_false, beq_iff_eq, bne_iff_ne, ne_eq, reduceCtorEq] at hc) <;> (try (have hT : True := hc; clear hT hc)) <;> (try (exfalso; omega))))
    all_goals first | (exfalso; omega) | exact retq rfl rfl
end Go.Proofs.YtkkmageogkkchaaGreat
namespace Go.Proofs.YtkkmageogkkchaaGreat
set_option linter.unusedSimpArgs false
set_option linter.unusedVariables false
set_option maxRecDepth 100000
set_option linter.unusedSimpArgs false
set_option linter.unusedVariables false
set_option maxRecDepth 100000
open Go.RowKit
def costO (c : List Int) (j : Int) : Int := c.getD j.toNat 0
def loadTo (S : System) (i r : Int) (c : List Int) : Nat → Int
  | 0 => jobI S i r
  | m + 1 => if aheadB S.tasks (m : Int) i = true then addI (loadTo S i r c m) (mulI (ceilI r (S.tasks.getD m default).period) (costO c m)) else loadTo S i r c m
def loadI (S : System) (i r : Int) (c : List Int) : Int := if i < 0 ∨ (S.tasks.length : Int) ≤ i then 0 else loadTo S i r c S.tasks.length
theorem addR (a b : Int) : 0 ≤ addI a b ∧ addI a b ≤ 1099511627776 := by unfold addI insI; omega
theorem loadTo_B {S : System} (h : OkS S) (i r : Int) (c : List Int) : ∀ m, 0 ≤ loadTo S i r c m ∧ loadTo S i r c m ≤ 1099511627776
  | 0 => jobI_B h i r
  | m + 1 => by
    rw [loadTo]
    split
    · exact addR _ _
    · exact loadTo_B h i r c m
/-- The same along the list of those above. -/
def loadL (S : System) (i r : Int) (c : List Int) (L : List Int) : Int := L.foldl (fun s j => addI s (mulI (ceilI r (tskD S j).period) (costO c j))) (jobI S i r)
theorem loadL_eq (S : System) (i r : Int) (c : List Int) : ∀ m, loadL S i r c (aboveTo S.tasks i m) = loadTo S i r c m
  | 0 => rfl
  | m + 1 => by
    have ih := loadL_eq S i r c m
    rw [loadTo]
    cases hb : aheadB S.tasks (m : Int) i
    · rw [if_neg (by simp), aboveTo_no hb, ih]
    · rw [if_pos rfl, aboveTo_yes hb, loadL, List.foldl_append, ← loadL, ih]
      simp only [List.foldl_cons, List.foldl_nil, tskD, Int.toNat_natCast]
theorem above_in {l : List Task} {i : Int} {m : Nat} {j : Int} (h : j ∈ aboveTo l i m) : 0 ≤ j ∧ j < m := by
  rw [aboveTo, List.mem_map] at h
  obtain ⟨k, hk, rfl⟩ := h
  have := List.mem_range.1 (List.mem_filter.1 hk).1
  omega
theorem costOf_fn (c : List Int) (j : Int) (hj : 0 ≤ j) : Fn Tryz.prog 74 [.lst 1 (c.map eI), .int .i64 j] (.int .i64 (costO c j)) := by
  obtain ⟨m, rfl⟩ : ∃ m : Nat, j = m := ⟨j.toNat, by omega⟩
  rcases Nat.lt_or_ge m c.length with hl | hl
  · obtain ⟨x, hx⟩ : ∃ x, c.getD m 0 = x := ⟨_, rfl⟩
    rw [costO, Int.toNat_natCast]
    refine fnb Tryz.func74 (entered_of (by kernel_rfl)) rfl rfl rfl ?_
    repeat' (first | refine sA ?_ | ((first | apply kM | apply kN); (iterate 3 (· exact rfl)); (· first | exact ya)) | refine sG ?_ | ((first | refine kQ rfl rfl ?_ ?_ | refine kR rfl rfl rfl rfl rfl ?_ ?_ | refine kS rfl rfl rfl ?_ ?_) <;> intro hc <;> (try simp only [KL, cond_true, cond_false, beq_iff_eq, bne_iff_ne, ne_eq, reduceCtorEq] at hc) <;> (try (have hT : True := hc; clear hT hc)) <;> (try (exfalso; omega))))
    all_goals first | (exfalso; omega) | exact retq rfl rfl
  · have e : costO c m = 0 := by rw [costO, Int.toNat_natCast, List.getD_eq_getElem?_getD, List.getElem?_eq_none hl]; rfl
    rw [e]
    refine fnb Tryz.func74 (entered_of (by kernel_rfl)) rfl rfl rfl ?_
    repeat' (first | refine sA ?_ | ((first | apply kM | apply kN); (iterate 3 (· exact rfl)); (· first | exact ya)) | refine sG ?_ | ((first | refine kQ rfl rfl ?_ ?_ | refine kR rfl rfl rfl rfl rfl ?_ ?_ | refine kS rfl rfl rfl ?_ ?_) <;> intro hc <;> (try simp only [KL, cond_true, cond_false, beq_iff_eq, bne_iff_ne, ne_eq, reduceCtorEq] at hc) <;> (try (have hT : True := hc; clear hT hc)) <;> (try (exfalso; omega))))
    all_goals first | (exfalso; omega) | exact retq rfl rfl
theorem load_fn (S : System) (h : OkS S) (i r : Int) (c : List Int) : Fn Tryz.prog 30 [.agg (eSystem S), .int .i64 i, .int .i64 r, .lst 1 (c.map eI)] (.int .i64 (loadI S i r c)) := by
  have h1 := h.tl
  by_cases hi : i < 0 ∨ (S.tasks.length : Int) ≤ i
  · rw [loadI, if_pos hi]
    refine fnb Tryz.func30 (entered_of (by kernel_rfl)) rfl rfl rfl ?_
    repeat' (first | refine sA ?_ | ((first | apply kM | apply kN); (iterate 3 (· exact rfl)); (· first | exact ya)) | refine sG ?_ | ((first | refine kQ rfl rfl ?_ ?_ | refine kR rfl rfl rfl rfl rfl ?_ ?_ | refine kS rfl rfl rfl ?_ ?_) <;> intro hc <;> (try simp only [KL, cond_true, cond_false, beq_iff_eq, bne_iff_ne, ne_eq, reduceCtorEq] at hc) <;> (try (have hT : True := hc; clear hT hc)) <;> (try (exfalso; omega))))
    all_goals first | (exfalso; omega) | exact retq rfl rfl
  rw [loadI, if_neg hi, ← loadL_eq]
  have c1 := job_fn S h i r
  have c2 := above_fn S.tasks i (by omega)
  have hB : ∀ x ∈ aboveL S.tasks i, 0 ≤ x ∧ x < S.tasks.length := fun x hx => above_in hx
  have hN := aboveTo_len S.tasks i S.tasks.length
  rw [← aboveL] at *
  generalize aboveL S.tasks i = L at *
  refine fnb Tryz.func30 (entered_of (by kernel_rfl)) rfl rfl rfl ?_
  repeat' (first | refine sA ?_ | ((first | apply kM | apply kN); (iterate 3 (· exact rfl)); (· first | (show Y _ ⟨_, .call ⟨.value _, _, _⟩, _, _, _, _⟩ _ _ _; first | exact q_c (c1) rfl | exact q_c (c2) rfl) | exact ya)) | refine sG ?_ | ((first | refine kQ rfl rfl ?_ ?_ | refine kR rfl rfl rfl rfl rfl ?_ ?_ | refine kS rfl rfl rfl ?_ ?_) <;> intro hc <;> (try simp only [KL, cond_true, cond_false, beq_iff_eq, bne_iff_ne, ne_eq, reduceCtorEq] at hc) <;> (try (have hT : True := hc; clear hT hc)) <;> (try (exfalso; omega))))
  all_goals first | (exfalso; omega) | skip
  refine wloop (fun m : Nat => ([(2, .int .i64 r), (3, .lst 1 (c.map eI)), (4, .ref (eSystem S)), (9, .int .i64 (loadL S i r c (L.take m))), (28, .lst 1 (L.map eI)), (29, .int .i64 L.length), (30, .int .i64 m)], [])) (fun m => m ≤ L.length) (fun m => L.length - m) 0 (Nat.zero_le _) les leh (fun m hm => ?_)
  rcases Nat.lt_or_eq_of_le hm with hml | hml
  · obtain ⟨j, hj⟩ : ∃ j, L.getD m default = j := ⟨_, rfl⟩
    have hmem : j ∈ L := by rw [← hj, List.getD_eq_getElem?_getD, List.getElem?_eq_getElem hml, Option.getD_some]; exact List.getElem_mem hml
    have hjb := hB j hmem
    have hnx : loadL S i r c (L.take (m + 1)) = addI (loadL S i r c (L.take m)) (mulI (ceilI r (tskD S j).period) (costO c j)) := by
      rw [← List.take_append_getElem hml, loadL, List.foldl_append, ← loadL]
      have e : L[m] = j := by rw [← hj, List.getD_eq_getElem?_getD, List.getElem?_eq_getElem hml, Option.getD_some]
      rw [e]; rfl
    have c3 := costOf_fn c j hjb.1
    repeat' (first | refine sA ?_ | ((first | apply kM | apply kN); (iterate 3 (· exact rfl)); (· first | (show Y _ ⟨_, .indexAddr _ _ _, _, _, _, _⟩ _ _ _; first | exact Y.mk (ok_indexE (hj) rfl rfl rfl rfl rfl (by omega))) | (show Y _ ⟨_, .call ⟨.value _, _, _⟩, _, _, _, _⟩ _ _ _; first | exact q_c (c3) rfl | exact q_c (kCeil_fn _ _) rfl | exact q_c (kMul_fn _ _) rfl | exact q_c (kAdd_fn _ _) rfl) | exact ya)) | refine sG ?_ | ((first | refine kQ rfl rfl ?_ ?_ | refine kR rfl rfl rfl rfl rfl ?_ ?_ | refine kS rfl rfl rfl ?_ ?_) <;> intro hc <;> (try simp only [KL, cond_true, cond_false, beq_iff_eq, bne_iff_ne, ne_eq, reduceCtorEq] at hc) <;> (try (have hT : True := hc; clear hT hc)) <;> (try (exfalso; omega))))
    all_goals first | (exfalso; omega) | exact ⟨m + 1, by omega, by omega, by simp only [hnx]; exact les, leh⟩
  · subst hml
    rw [List.take_length]
    repeat' (first | refine sA ?_ | ((first | apply kM | apply kN); (iterate 3 (· exact rfl)); (· first | exact ya)) | refine sG ?_ | ((first | refine kQ rfl rfl ?_ ?_ | refine kR rfl rfl rfl rfl rfl ?_ ?_ | refine kS rfl rfl rfl ?_ ?_) <;> intro hc <;> (try simp only [KL, cond_true, cond_false, beq_iff_eq, bne_iff_ne, ne_eq, reduceCtorEq] at hc) <;> (try (have hT : True := hc; clear hT hc)) <;> (try (exfalso; omega))))
    all_goals first | (exfalso; omega) | exact retq rfl rfl
theorem rload_fn (S : System) (h : OkS S) (i r : Int) (c : List Int) : Fn Tryz.prog 31 [.agg (eSystem S), .int .i64 i, .int .i64 r, .lst 1 (c.map eI)] (.int .i64 (loadI S i r c)) := by
  have h1 := h.tl
  by_cases hi : i < 0 ∨ (S.tasks.length : Int) ≤ i
  · rw [loadI, if_pos hi]
    refine fnb Tryz.func31 (entered_of (by kernel_rfl)) rfl rfl rfl ?_
    repeat' (first | refine sA ?_ | ((first | apply kM | apply kN); (iterate 3 (· exact rfl)); (· first | exact ya)) | refine sG ?_ | ((first | refine kQ rfl rfl ?_ ?_ | refine kR rfl rfl rfl rfl rfl ?_ ?_ | refine kS rfl rfl rfl ?_ ?_) <;> intro hc <;> (try simp only [KL, cond_true, cond_false, beq_iff_eq, bne_iff_ne, ne_eq, reduceCtorEq] at hc) <;> (try (have hT : True := hc; clear hT hc)) <;> (try (exfalso; omega))))
    all_goals first | (exfalso; omega) | exact retq rfl rfl
  rw [loadI, if_neg hi]
  have c1 := rjob_fn S h i r
  refine fnb Tryz.func31 (entered_of (by kernel_rfl)) rfl rfl rfl ?_
  repeat' (first | refine sA ?_ | ((first | apply kM | apply kN); (iterate 3 (· exact rfl)); (· first | (show Y _ ⟨_, .call ⟨.value _, _, _⟩, _, _, _, _⟩ _ _ _; first | exact q_c (c1) rfl) | exact ya)) | refine sG ?_ | ((first | refine kQ rfl rfl ?_ ?_ | refine kR rfl rfl rfl rfl rfl ?_ ?_ | refine kS rfl rfl rfl ?_ ?_) <;> intro hc <;> (try simp only [KL, cond_true, cond_false, beq_iff_eq, bne_iff_ne, ne_eq, reduceCtorEq] at hc) <;> (try (have hT : True := hc; clear hT hc)) <;> (try (exfalso; omega))))
  all_goals first | (exfalso; omega) | skip
  refine wloop (fun m : Nat => ([(1, .int .i64 i), (2, .int .i64 r), (3, .lst 1 (c.map eI)), (4, .ref (eSystem S)), (9, .int .i64 (loadTo S i r c m)), (26, .lst 7 (S.tasks.map eTask)), (27, .int .i64 S.tasks.length), (28, .int .i64 m)], [])) (fun m => m ≤ S.tasks.length) (fun m => S.tasks.length - m) 0 (Nat.zero_le _) les leh (fun m hm => ?_)
  rcases Nat.lt_or_eq_of_le hm with hml | hml
  · have c2 := rahead_fn S.tasks (m : Int) i (by omega)
    obtain ⟨t, ht⟩ : ∃ t, S.tasks.getD m default = t := ⟨_, rfl⟩
    have hB := loadTo_B h i r c m
    cases hb : aheadB S.tasks (m : Int) i
    · rw [hb] at c2
      have hnx : loadTo S i r c (m + 1) = loadTo S i r c m := by rw [loadTo, hb, if_neg (by simp)]
      repeat' (first | refine sA ?_ | (show O _ _ _ _ _ _ _; first | (show O _ _ _ _ (⟨_, .alloc _, _, _, _, _⟩ :: _) _ _; first | refine ao_alloc (id := 10) rfl rfl rfl rfl rfl rfl rfl ?_)) | ((first | apply kM | apply kN); (iterate 3 (· exact rfl)); (· first | (show Y _ ⟨_, .indexAddr _ _ _, _, _, _, _⟩ _ _ _; first | exact Y.mk (ok_indexE (ht) rfl rfl rfl rfl rfl (by omega))) | (show Y _ ⟨_, .call ⟨.value _, _, _⟩, _, _, _, _⟩ _ _ _; first | exact q_c (c2) rfl) | exact ya)) | refine sG ?_ | ((first | refine kQ rfl rfl ?_ ?_ | refine kR rfl rfl rfl rfl rfl ?_ ?_ | refine kS rfl rfl rfl ?_ ?_) <;> intro hc <;> (try simp only [KL, cond_true, cond_false, beq_iff_eq, bne_iff_ne, ne_eq, reduceCtorEq] at hc) <;> (try (have hT : True := hc; clear hT hc)) <;> (try (exfalso; omega))))
      all_goals first | (exfalso; omega) | exact ⟨m + 1, by omega, by omega, by simp only [hnx]; exact les, leh⟩
    · rw [hb] at c2
      rcases Nat.lt_or_ge m c.length with hl | hl
      · have hnx : loadTo S i r c (m + 1) = addI (loadTo S i r c m) (mulI (ceilI r t.period) (c.getD m default)) := by rw [loadTo, hb, if_pos rfl, ht, costO, Int.toNat_natCast]; rfl
        repeat' (first | refine sA ?_ | (show O _ _ _ _ _ _ _; first | (show O _ _ _ _ (⟨_, .alloc _, _, _, _, _⟩ :: _) _ _; first | refine ao_alloc (id := 10) rfl rfl rfl rfl rfl rfl rfl ?_)) | ((first | apply kM | apply kN); (iterate 3 (· exact rfl)); (· first | (show Y _ ⟨_, .indexAddr _ _ _, _, _, _, _⟩ _ _ _; first | exact Y.mk (ok_indexE (ht) rfl rfl rfl rfl rfl (by omega))) | (show Y _ ⟨_, .call ⟨.value _, _, _⟩, _, _, _, _⟩ _ _ _; first | exact q_c (c2) rfl | exact q_c (rCeil_fn _ _) rfl | exact q_c (rMul_fn _ _) rfl | exact q_c (rAdd_fn _ _) rfl) | exact ya)) | refine sG ?_ | ((first | refine kQ rfl rfl ?_ ?_ | refine kR rfl rfl rfl rfl rfl ?_ ?_ | refine kS rfl rfl rfl ?_ ?_) <;> intro hc <;> (try simp only [KL, cond_true, cond_false, beq_iff_eq, bne_iff_ne, ne_eq, reduceCtorEq] at hc) <;> (try (have hT : True := hc; clear hT hc)) <;> (try (exfalso; omega))))
        all_goals first | (exfalso; omega) | exact ⟨m + 1, by omega, by omega, by simp only [hnx]; exact les, leh⟩
      · have e : costO c m = 0 := by rw [costO, Int.toNat_natCast, List.getD_eq_getElem?_getD, List.getElem?_eq_none hl]; rfl
        have hnx : loadTo S i r c (m + 1) = loadTo S i r c m := by rw [loadTo, hb, if_pos rfl, e, mul_0 (.inr rfl), addI_0, insId hB.1 hB.2]
        repeat' (first | refine sA ?_ | (show O _ _ _ _ _ _ _; first | (show O _ _ _ _ (⟨_, .alloc _, _, _, _, _⟩ :: _) _ _; first | refine ao_alloc (id := 10) rfl rfl rfl rfl rfl rfl rfl ?_)) | ((first | apply kM | apply kN); (iterate 3 (· exact rfl)); (· first | (show Y _ ⟨_, .indexAddr _ _ _, _, _, _, _⟩ _ _ _; first | exact Y.mk (ok_indexE (ht) rfl rfl rfl rfl rfl (by omega))) | (show Y _ ⟨_, .call ⟨.value _, _, _⟩, _, _, _, _⟩ _ _ _; first | exact q_c (c2) rfl) | exact ya)) | refine sG ?_ | ((first | refine kQ rfl rfl ?_ ?_ | refine kR rfl rfl rfl rfl rfl ?_ ?_ | refine kS rfl rfl rfl ?_ ?_) <;> intro hc <;> (try simp only [KL, cond_true, cond_false, beq_iff_eq, bne_iff_ne, ne_eq, reduceCtorEq] at hc) <;> (try (have hT : True := hc; clear hT hc)) <;> (try (exfalso; omega))))
        all_goals first | (exfalso; omega) | exact ⟨m + 1, by omega, by omega, by simp only [hnx]; exact les, leh⟩
  · subst hml
    repeat' (first | refine sA ?_ | ((first | apply kM | apply kN); (iterate 3 (· exact rfl)); (· first | exact ya)) | refine sG ?_ | ((first | refine kQ rfl rfl ?_ ?_ | refine kR rfl rfl rfl rfl rfl ?_ ?_ | refine kS rfl rfl rfl ?_ ?_) <;> intro hc <;> (try simp only [KL, cond_true, cond_false, beq_iff_eq, bne_iff_ne, ne_eq, reduceCtorEq] at hc) <;> (try (have hT : True := hc; clear hT hc)) <;> (try (exfalso; omega))))
    all_goals first | (exfalso; omega) | exact retq rfl rfl
/-- The answer of n rounds from r on. -/
def respTo (S : System) (i : Int) (c : List Int) : Nat → Int → Int × Int
  | 0, _ => (0, 14)
  | n + 1, r => if (tskD S i).deadline < r then (0, 13) else if loadI S i r c = r then (r, 0) else respTo S i c n (loadI S i r c)
def respI (S : System) (i : Int) (c : List Int) : Int × Int := if i < 0 ∨ (S.tasks.length : Int) ≤ i then (0, 1) else respTo S i c 10001 1
def roundR (S : System) (i : Int) (c : List Int) : Nat → Int
  | 0 => 1
  | n + 1 => loadI S i (roundR S i c n) c
theorem rresp_fn (S : System) (h : OkS S) (i : Int) (c : List Int) : Fn Tryz.prog 33 [.agg (eSystem S), .int .i64 i, .lst 1 (c.map eI)] (.tup [.int .i64 (respI S i c).1, .int .i64 (respI S i c).2]) := by
  have h1 := h.tl
  by_cases hi : i < 0 ∨ (S.tasks.length : Int) ≤ i
  · rw [respI, if_pos hi]
    refine fnb Tryz.func33 (entered_of (by kernel_rfl)) rfl rfl rfl ?_
    repeat' (first | refine sA ?_ | ((first | apply kM | apply kN); (iterate 3 (· exact rfl)); (· first | exact ya)) | refine sG ?_ | ((first | refine kQ rfl rfl ?_ ?_ | refine kR rfl rfl rfl rfl rfl ?_ ?_ | refine kS rfl rfl rfl ?_ ?_) <;> intro hc <;> (try simp only [KL, cond_true, cond_false, beq_iff_eq, bne_iff_ne, ne_eq, reduceCtorEq] at hc) <;> (try (have hT : True := hc; clear hT hc)) <;> (try (exfalso; omega))))
    all_goals first | (exfalso; omega) | exact retq rfl rfl
  rw [respI, if_neg hi]
  obtain ⟨j, rfl⟩ : ∃ j : Nat, i = j := ⟨i.toNat, by omega⟩
  obtain ⟨t, ht⟩ : ∃ t, S.tasks.getD j default = t := ⟨_, rfl⟩
  have htt : tskD S (j : Int) = t := by rw [tskD, Int.toNat_natCast, ht]
  obtain ⟨a, hae⟩ : ∃ a, respTo S j c 10001 1 = a := ⟨_, rfl⟩
  rw [hae]
  refine fnb Tryz.func33 (entered_of (by kernel_rfl)) rfl rfl rfl ?_
  repeat' (first | refine sA ?_ | ((first | apply kM | apply kN); (iterate 3 (· exact rfl)); (· first | exact ya)) | refine sG ?_ | ((first | refine kQ rfl rfl ?_ ?_ | refine kR rfl rfl rfl rfl rfl ?_ ?_ | refine kS rfl rfl rfl ?_ ?_) <;> intro hc <;> (try simp only [KL, cond_true, cond_false, beq_iff_eq, bne_iff_ne, ne_eq, reduceCtorEq] at hc) <;> (try (have hT : True := hc; clear hT hc)) <;> (try (exfalso; omega))))
  all_goals first | (exfalso; omega) | skip
  refine wloop (fun x : Nat × Int => ([(1, .int .i64 j), (2, .lst 1 (c.map eI)), (3, .ref (eSystem S)), (8, .int .i64 x.2), (9, .int .i64 x.1)], [])) (fun x => x.1 ≤ 10001 ∧ respTo S j c (10001 - x.1) x.2 = a) (fun x => 10001 - x.1) (0, 1) ⟨by omega, hae⟩ les leh (fun x hx => ?_)
  obtain ⟨m, r⟩ := x
  obtain ⟨hm, hr⟩ := hx
  dsimp only at hm hr ⊢
  rcases Nat.lt_or_eq_of_le hm with hml | hml
  · rw [show 10001 - m = (10000 - m) + 1 from by omega, respTo, htt] at hr
    have c1 := rload_fn S h j r c
    by_cases hd : t.deadline < r
    · rw [if_pos hd] at hr
      subst hr
      repeat' (first | refine sA ?_ | ((first | apply kM | apply kN); (iterate 3 (· exact rfl)); (· first | (show Y _ ⟨_, .indexAddr _ _ _, _, _, _, _⟩ _ _ _; first | exact Y.mk (ok_indexE (ht) rfl rfl rfl rfl rfl (by omega))) | exact ya)) | refine sG ?_ | ((first | refine kQ rfl rfl ?_ ?_ | refine kR rfl rfl rfl rfl rfl ?_ ?_ | refine kS rfl rfl rfl ?_ ?_) <;> intro hc <;> (try simp only [KL, cond_true, cond_false, beq_iff_eq, bne_iff_ne, ne_eq, reduceCtorEq] at hc) <;> (try (have hT : True := hc; clear hT hc)) <;> (try (exfalso; omega))))
      all_goals first | (exfalso; omega) | exact retq rfl rfl
    rw [if_neg hd] at hr
    by_cases he : loadI S j r c = r
    · rw [if_pos he] at hr
      subst hr
      rw [he] at c1
      repeat' (first | refine sA ?_ | ((first | apply kM | apply kN); (iterate 3 (· exact rfl)); (· first | (show Y _ ⟨_, .indexAddr _ _ _, _, _, _, _⟩ _ _ _; first | exact Y.mk (ok_indexE (ht) rfl rfl rfl rfl rfl (by omega))) | (show Y _ ⟨_, .call ⟨.value _, _, _⟩, _, _, _, _⟩ _ _ _; first | exact q_c (c1) rfl) | exact ya)) | refine sG ?_ | ((first | refine kQ rfl rfl ?_ ?_ | refine kR rfl rfl rfl rfl rfl ?_ ?_ | refine kS rfl rfl rfl ?_ ?_) <;> intro hc <;> (try simp only [KL, cond_true, cond_false, beq_iff_eq, bne_iff_ne, ne_eq, reduceCtorEq] at hc) <;> (try (have hT : True := hc; clear hT hc)) <;> (try (exfalso; omega))))
      all_goals first | (exfalso; omega) | exact retq rfl rfl
    rw [if_neg he] at hr
    repeat' (first | refine sA ?_ | ((first | apply kM | apply kN); (iterate 3 (· exact rfl)); (· first | (show Y _ ⟨_, .indexAddr _ _ _, _, _, _, _⟩ _ _ _; first | exact Y.mk (ok_indexE (ht) rfl rfl rfl rfl rfl (by omega))) | (show Y _ ⟨_, .call ⟨.value _, _, _⟩, _, _, _, _⟩ _ _ _; first | exact q_c (c1) rfl) | exact ya)) | refine sG ?_ | ((first | refine kQ rfl rfl ?_ ?_ | refine kR rfl rfl rfl rfl rfl ?_ ?_ | refine kS rfl rfl rfl ?_ ?_) <;> intro hc <;> (try simp only [KL, cond_true, cond_false, beq_iff_eq, bne_iff_ne, ne_eq, reduceCtorEq] at hc) <;> (try (have hT : True := hc; clear hT hc)) <;> (try (exfalso; omega))))
    all_goals first | (exfalso; omega) | exact ⟨(m + 1, loadI S j r c), ⟨by omega, by rw [show 10001 - (m + 1) = 10000 - m from by omega]; exact hr⟩, by dsimp only; omega, les, leh⟩
  · subst hml
    rw [Nat.sub_self, respTo] at hr
    subst hr
    repeat' (first | refine sA ?_ | ((first | apply kM | apply kN); (iterate 3 (· exact rfl)); (· first | exact ya)) | refine sG ?_ | ((first | refine kQ rfl rfl ?_ ?_ | refine kR rfl rfl rfl rfl rfl ?_ ?_ | refine kS rfl rfl rfl ?_ ?_) <;> intro hc <;> (try simp only [KL, cond_true, cond_false, beq_iff_eq, bne_iff_ne, ne_eq, reduceCtorEq] at hc) <;> (try (have hT : True := hc; clear hT hc)) <;> (try (exfalso; omega))))
    all_goals first | (exfalso; omega) | exact retq rfl rfl
theorem rtaR_fn (S : System) (i : Int) (c : List Int) : Fn Tryz.prog 75 [.agg (eSystem S), .int .i64 i, .lst 1 (c.map eI)] (.fn (.func 105) [] [.ref (eSystem S), .ref [.int .i64 i], .ref [.lst 1 (c.map eI)]]) := by
  refine fnb Tryz.func75 (entered_of (by kernel_rfl)) rfl rfl rfl ?_
  repeat' (first | refine sA ?_ | ((first | apply kM | apply kN); (iterate 3 (· exact rfl)); (· first | exact ya)) | refine sG ?_ | ((first | refine kQ rfl rfl ?_ ?_ | refine kR rfl rfl rfl rfl rfl ?_ ?_ | refine kS rfl rfl rfl ?_ ?_) <;> intro hc <;> (try simp only [KL, cond_true, cond_false, beq_iff_eq, bne_iff_ne, ne_eq, reduceCtorEq] at hc) <;> (try (have hT : True := hc; clear hT hc)) <;> (try (exfalso; omega))))
  exact retq rfl rfl
abbrev resH (l : Nat) (r : Loop) (σ0 : Sig) (a b : Int) : Heap := (8, .sem (objC l (.loop r))) :: (9, .sem (knowC σ0)) :: [(0, .blk 3 [.int .i64 a]), (1, .blk 45 [.int .i64 b])]
theorem resp_rd (S : System) (j : Nat) (hj : j < S.tasks.length) (t : Task) (ht : S.tasks.getD j default = t) (hn : S.tasks.length ≤ 1000000) (u v : Int) (l : Nat) (r : Loop) (σ0 : Sig) (pins : List (Nat × Value)) (hr : r.state = .ready) (hpd : r.pending = none) (hab : rfOf Tryz.f32.body = some (r.params, r.assign, r.body)) (hk : r.tmps.size = Tryz.f32.ntmps)
    (hs : SlotsOk σ0 pins [(3, .ref (eSystem S)), (4, .ref [.int .i64 j]), (6, .ptr 0 0), (7, .ptr 1 0)] r.tmps) :
    YF Tryz.prog l pins [.int .i64 u, .int .i64 v] (resH l r σ0 0 0) (fun b h' => (b = true ∧ ¬ t.deadline < u ∧ ¬ v = u ∧ h' = resH l { r with state := .ready, pending := none } σ0 0 0) ∨ (b = false ∧ t.deadline < u ∧ h' = resH l { r with state := .done, pending := some .ret } σ0 0 13) ∨ (b = false ∧ ¬ t.deadline < u ∧ v = u ∧ h' = resH l { r with state := .done, pending := some .ret } σ0 u 0)) := by
  change Option.some (_, _, _) = some _ at hab
  injection hab with hab
  injection hab with h1 hab
  injection hab with h2 h3
  refine yf_le (yf_body2 (R := fun b h' => (b = true ∧ ¬ t.deadline < u ∧ ¬ v = u ∧ LeH h' (resH l { r with state := .ready, pending := none } σ0 0 0)) ∨ (b = false ∧ t.deadline < u ∧ LeH h' (resH l { r with state := .done, pending := some .ret } σ0 0 13)) ∨ (b = false ∧ ¬ t.deadline < u ∧ v = u ∧ LeH h' (resH l { r with state := .done, pending := some .ret } σ0 u 0))) (idL := 8) (idK := 9) (σ0 := σ0) rfl rfl hr h1.symm hk (by decide) (by decide) (by decide) hs ?_) ?_
  · refine wcode h2 ?_
    repeat' (first | refine sA ?_ | ((first | apply kM | apply kN); (iterate 3 (· exact rfl)); (· first | exact ya)) | refine sG ?_ | ((first | refine kQ rfl rfl ?_ ?_ | refine kR rfl rfl rfl rfl rfl ?_ ?_ | refine kS rfl rfl rfl ?_ ?_) <;> intro hc <;> (try simp only [KL, cond_true, cond_false, beq_iff_eq, bne_iff_ne, ne_eq, reduceCtorEq] at hc) <;> (try (have hT : True := hc; clear hT hc)) <;> (try (exfalso; omega))))
    refine ⟨rfl, ?_⟩
    refine wcode h3 ?_
    repeat' (first | refine sA ?_ | ((first | apply kM | apply kN); (iterate 3 (· exact rfl)); (· first | (show Y _ ⟨_, .indexAddr _ _ _, _, _, _, _⟩ _ _ _; first | exact Y.mk (ok_indexE (ht) rfl rfl rfl rfl rfl (by omega))) | exact ya)) | refine sG ?_ | ((first | refine kQ rfl rfl ?_ ?_ | refine kR rfl rfl rfl rfl rfl ?_ ?_ | refine kS rfl rfl rfl ?_ ?_) <;> intro hc <;> (try simp only [KL, cond_true, cond_false, beq_iff_eq, bne_iff_ne, ne_eq, reduceCtorEq] at hc) <;> (try (have hT : True := hc; clear hT hc)) <;> (try (exfalso; omega))))
    all_goals first
      | (exfalso; omega)
      | exact ⟨rfl, .inr (.inl ⟨rfl, by omega, leh⟩)⟩
      | exact ⟨rfl, .inr (.inr ⟨rfl, by omega, by omega, leh⟩)⟩
      | exact ⟨rfl, .inl ⟨rfl, by omega, by omega, leh⟩⟩
  · rintro b h' (⟨rfl, h4, h5, h6⟩ | ⟨rfl, h4, h6⟩ | ⟨rfl, h4, h5, h6⟩)
    · exact ⟨_, h6, .inl ⟨rfl, h4, h5, rfl⟩⟩
    · exact ⟨_, h6, .inr (.inl ⟨rfl, h4, rfl⟩)⟩
    · exact ⟨_, h6, .inr (.inr ⟨rfl, h4, h5, rfl⟩)⟩
set_option maxHeartbeats 2000000 in
theorem resp_it (S : System) (h : OkS S) (c : List Int) (j : Nat) (hj : j < S.tasks.length) (l : Nat) (r : Loop) (σ0 : Sig) (pins : List (Nat × Value)) (hr : r.state = .ready) (hpd : r.pending = none) (hab : rfOf Tryz.f32.body = some (r.params, r.assign, r.body)) (hk : r.tmps.size = Tryz.f32.ntmps)
    (hs : SlotsOk σ0 pins [(3, .ref (eSystem S)), (4, .ref [.int .i64 j]), (6, .ptr 0 0), (7, .ptr 1 0)] r.tmps) (hp5 : ∀ p ∈ pins, p.1 < 5) (a : Int × Int) (ha : respTo S j c 10001 1 = a) :
    FnHp Tryz.prog pins 105 (.fn (.yield l) [] [] :: [.ref (eSystem S), .ref [.int .i64 j], .ref [.lst 1 (c.map eI)]]) (resH l r σ0 0 0) (fun v h' => v = .tup [] ∧ ((a = (0, 14) ∧ h' = resH l r σ0 0 0) ∨ h' = resH l { r with state := .done, pending := some .ret } σ0 a.1 a.2)) := by
  have hrd := rdy hr hpd
  have h1 := h.tl
  refine fnhbp Tryz.func105 (entered_of (by kernel_rfl)) rfl rfl ?_
  repeat' (first | refine sA ?_ | ((first | apply kM | apply kN); (iterate 3 (· exact rfl)); (· first | exact ya)) | refine sG ?_ | ((first | refine kQ rfl rfl ?_ ?_ | refine kR rfl rfl rfl rfl rfl ?_ ?_ | refine kS rfl rfl rfl ?_ ?_) <;> intro hc <;> (try simp only [KL, cond_true, cond_false, beq_iff_eq, bne_iff_ne, ne_eq, reduceCtorEq] at hc) <;> (try (have hT : True := hc; clear hT hc)) <;> (try (exfalso; omega))))
  refine wloop (fun x : Nat × Int => ([(0, .fn (.yield l) [] []), (1, .ref (eSystem S)), (2, .ref [.int .i64 j]), (3, .ref [.lst 1 (c.map eI)]), (5, .int .i64 x.2), (7, .int .i64 x.1)], resH l r σ0 0 0)) (fun x => x.1 ≤ 10001 ∧ respTo S j c (10001 - x.1) x.2 = a) (fun x => 10001 - x.1) (0, 1) ⟨by omega, ha⟩ les leh (fun x hx => ?_)
  obtain ⟨m, u⟩ := x
  obtain ⟨hm, hx⟩ := hx
  dsimp only at hm hx ⊢
  rcases Nat.lt_or_eq_of_le hm with hml | hml
  · rw [show 10001 - m = (10000 - m) + 1 from by omega, respTo, tskD, Int.toNat_natCast] at hx
    have c1 := load_fn S h j u c
    obtain ⟨v, hv⟩ : ∃ v, loadI S j u c = v := ⟨_, rfl⟩
    rw [hv] at c1 hx
    repeat' (first | refine sA ?_ | ((first | apply kM | apply kN); (iterate 3 (· exact rfl)); (· first | (show Y _ ⟨_, .call ⟨.value _, _, _⟩, _, _, _, _⟩ _ _ _; first | exact q_c (c1) rfl) | exact ya)) | refine sG ?_ | ((first | refine kQ rfl rfl ?_ ?_ | refine kR rfl rfl rfl rfl rfl ?_ ?_ | refine kS rfl rfl rfl ?_ ?_) <;> intro hc <;> (try simp only [KL, cond_true, cond_false, beq_iff_eq, bne_iff_ne, ne_eq, reduceCtorEq] at hc) <;> (try (have hT : True := hc; clear hT hc)) <;> (try (exfalso; omega))))
    all_goals first | (exfalso; omega) | skip
    refine ycall (fun i => i) (resp_rd S j hj _ rfl (by omega) u v l r σ0 pins hr hpd hab hk hs) (fun p hp => hp) hp5 rfl rfl rfl rfl leh rfl rfl rfl rfl rfl rfl (fun r1 h' hR => ?_)
    rw [hrd] at hR
    rcases hR with ⟨rfl, h4, h5, rfl⟩ | ⟨rfl, h4, rfl⟩ | ⟨rfl, h4, h5, rfl⟩
    · rw [if_neg h4, if_neg h5] at hx
      refine ⟨rfl, ?_⟩
      refine ole (h' := resH l r σ0 0 0) (LeS.refl _) leh ?_
      repeat' (first | refine sA ?_ | ((first | apply kM | apply kN); (iterate 3 (· exact rfl)); (· first | exact ya)) | refine sG ?_ | ((first | refine kQ rfl rfl ?_ ?_ | refine kR rfl rfl rfl rfl rfl ?_ ?_ | refine kS rfl rfl rfl ?_ ?_) <;> intro hc <;> (try simp only [KL, cond_true, cond_false, beq_iff_eq, bne_iff_ne, ne_eq, reduceCtorEq] at hc) <;> (try (have hT : True := hc; clear hT hc)) <;> (try (exfalso; omega))))
      exact ⟨(m + 1, v), ⟨by omega, by rw [show 10001 - (m + 1) = 10000 - m from by omega]; exact hx⟩, by dsimp only; omega, les, leh⟩
    · rw [if_pos h4] at hx
      subst hx
      refine ⟨rfl, ?_⟩
      refine ole (h' := resH l { r with state := .done, pending := some .ret } σ0 0 13) (LeS.refl _) leh ?_
      repeat' (first | refine sA ?_ | ((first | apply kM | apply kN); (iterate 3 (· exact rfl)); (· first | exact ya)) | refine sG ?_ | ((first | refine kQ rfl rfl ?_ ?_ | refine kR rfl rfl rfl rfl rfl ?_ ?_ | refine kS rfl rfl rfl ?_ ?_) <;> intro hc <;> (try simp only [KL, cond_true, cond_false, beq_iff_eq, bne_iff_ne, ne_eq, reduceCtorEq] at hc) <;> (try (have hT : True := hc; clear hT hc)) <;> (try (exfalso; omega))))
      exact retn rfl ⟨rfl, .inr rfl⟩
    · rw [if_neg h4, if_pos h5] at hx
      subst hx
      refine ⟨rfl, ?_⟩
      refine ole (h' := resH l { r with state := .done, pending := some .ret } σ0 u 0) (LeS.refl _) leh ?_
      repeat' (first | refine sA ?_ | ((first | apply kM | apply kN); (iterate 3 (· exact rfl)); (· first | exact ya)) | refine sG ?_ | ((first | refine kQ rfl rfl ?_ ?_ | refine kR rfl rfl rfl rfl rfl ?_ ?_ | refine kS rfl rfl rfl ?_ ?_) <;> intro hc <;> (try simp only [KL, cond_true, cond_false, beq_iff_eq, bne_iff_ne, ne_eq, reduceCtorEq] at hc) <;> (try (have hT : True := hc; clear hT hc)) <;> (try (exfalso; omega))))
      exact retn rfl ⟨rfl, .inr rfl⟩
  · subst hml
    rw [Nat.sub_self, respTo] at hx
    repeat' (first | refine sA ?_ | ((first | apply kM | apply kN); (iterate 3 (· exact rfl)); (· first | exact ya)) | refine sG ?_ | ((first | refine kQ rfl rfl ?_ ?_ | refine kR rfl rfl rfl rfl rfl ?_ ?_ | refine kS rfl rfl rfl ?_ ?_) <;> intro hc <;> (try simp only [KL, cond_true, cond_false, beq_iff_eq, bne_iff_ne, ne_eq, reduceCtorEq] at hc) <;> (try (have hT : True := hc; clear hT hc)) <;> (try (exfalso; omega))))
    all_goals first | (exfalso; omega) | skip
    exact retn rfl ⟨rfl, .inl ⟨hx.symm, rfl⟩⟩
def ρq (i : Nat) : Nat := [10, 11, 2, 3, 4, 5, 6, 7, 21, 22].getD i i
theorem response_fn (S : System) (h : OkS S) (i : Int) (c : List Int) : Fn Tryz.prog 32 [.agg (eSystem S), .int .i64 i, .lst 1 (c.map eI)] (.tup [.int .i64 (respI S i c).1, .int .i64 (respI S i c).2]) := by
  have h1 := h.tl
  by_cases hi : i < 0 ∨ (S.tasks.length : Int) ≤ i
  · rw [respI, if_pos hi]
    refine fnm Tryz.func32 (entered_of (by kernel_rfl)) rfl rfl rfl ?_
    repeat' (first | (show M _ _ _ _ _ _; first | refine mseq ?_ | refine mregion (fun _ => ?_) | refine mcondT rfl rfl ?_ | refine mcondF rfl rfl ?_ | refine mblock ?_ | refine mskip ?_ | refine mexit ?_ | refine mret ?_) | refine sA ?_ | (show O _ _ _ _ _ _ _; first | (show O _ _ _ _ (⟨_, .alloc _, _, _, _, _⟩ :: _) _ _; first | refine ao_alloc (id := 10) rfl rfl rfl rfl rfl rfl rfl ?_ | refine ao_alloc (id := 11) rfl rfl rfl rfl rfl rfl rfl ?_)) | ((first | apply kM | apply kN); (iterate 3 (· exact rfl)); (· first | exact ya)) | refine sG ?_ | ((first | refine kQ rfl rfl ?_ ?_ | refine mcond rfl rfl ?_ ?_ | refine kR rfl rfl rfl rfl rfl ?_ ?_ | refine kS rfl rfl rfl ?_ ?_) <;> intro hc <;> (try simp only [KL, cond_true, cond_false, beq_iff_eq, bne_iff_ne, ne_eq, reduceCtorEq] at hc) <;> (try (have hT : True := hc; clear hT hc)) <;> (try (exfalso; omega))))
    all_goals first | (exfalso; omega) | exact retq rfl rfl
  rw [respI, if_neg hi]
  obtain ⟨j, rfl⟩ : ∃ j : Nat, i = j := ⟨i.toNat, by omega⟩
  obtain ⟨a, ha⟩ : ∃ a, respTo S j c 10001 1 = a := ⟨_, rfl⟩
  rw [ha]
  refine fnm Tryz.func32 (entered_of (by kernel_rfl)) rfl rfl rfl ?_
  repeat' (first | (show M _ _ _ _ _ _; first | refine mseq ?_ | refine mregion (fun _ => ?_) | refine mcondT rfl rfl ?_ | refine mcondF rfl rfl ?_ | refine mblock ?_ | refine mskip ?_ | refine mexit ?_ | refine mret ?_) | refine sA ?_ | (show O _ _ _ _ _ _ _; first | (show O _ _ _ _ (⟨_, .alloc _, _, _, _, _⟩ :: _) _ _; first | refine ao_alloc (id := 10) rfl rfl rfl rfl rfl rfl rfl ?_ | refine ao_alloc (id := 11) rfl rfl rfl rfl rfl rfl rfl ?_)) | ((first | apply kM | apply kN); (iterate 3 (· exact rfl)); (· first | (show Y _ ⟨_, .call ⟨.value _, _, _⟩, _, _, _, _⟩ _ _ _; first | exact q_c (rtaR_fn S j c) rfl) | exact ya)) | refine sG ?_ | ((first | refine kQ rfl rfl ?_ ?_ | refine mcond rfl rfl ?_ ?_ | refine kR rfl rfl rfl rfl rfl ?_ ?_ | refine kS rfl rfl rfl ?_ ?_) <;> intro hc <;> (try simp only [KL, cond_true, cond_false, beq_iff_eq, bne_iff_ne, ne_eq, reduceCtorEq] at hc) <;> (try (have hT : True := hc; clear hT hc)) <;> (try (exfalso; omega))))
  all_goals first | (exfalso; omega) | skip
  refine mle (s' := [(3, .ref (eSystem S)), (4, .ref [.int .i64 j]), (6, .ptr 10 0), (7, .ptr 11 0), (22, .fn (.func 105) [] [.ref (eSystem S), .ref [.int .i64 j], .ref [.lst 1 (c.map eI)]])]) (h' := [(10, .blk 3 [.int .i64 0]), (11, .blk 45 [.int .i64 0])]) les leh ?_
  refine mrange ρq (caps0 := [.ref (eSystem S), .ref [.int .i64 j], .ref [.lst 1 (c.map eI)]]) (s0 := [(3, .ref (eSystem S)), (4, .ref [.int .i64 j]), (6, .ptr 0 0), (7, .ptr 1 0)]) (hin0 := [(0, .blk 3 [.int .i64 0]), (1, .blk 45 [.int .i64 0])]) 21 22
    (R := fun l r v h' => r.state = .ready ∧ r.pending = none ∧ v = .tup [] ∧ ∃ σ0, ((a = (0, 14) ∧ h' = resH l r σ0 0 0) ∨ h' = resH l { r with state := .done, pending := some .ret } σ0 a.1 a.2))
    rfl rfl rfl rfl (fun _ _ => rfl) (fun _ _ _ => leh) rfl rfl rfl (fun _ _ _ => rfl) les rfl (fun l r σ0 pins q1 q2 q3 q4 q5 q6 q7 q8 => ?_) (fun l r σ0 v h' hR => ?_) rfl
  · exact fnhp_mono (resp_it S h c j (by omega) l r σ0 pins q1 q2 (by rw [q3, q4, q5]; rfl) q6 q7 q8 a ha) fun v h' ⟨e1, e2⟩ => ⟨q1, q2, e1, σ0, e2⟩
  · obtain ⟨q1, q2, rfl, σ1, ⟨h2, rfl⟩ | rfl⟩ := hR
    · refine ⟨rfl, r, rfl, by rw [q1]; simp, fun _ => ?_, fun c e => by rw [q2] at e; cases e⟩
      subst h2
      refine nIn (nThen ?_)
      refine mle (s' := [(6, .ptr 10 0), (7, .ptr 11 0)]) (h' := [(10, .blk 3 [.int .i64 0]), (11, .blk 45 [.int .i64 0])]) les leh ?_
      repeat' (first | (show M _ _ _ _ _ _; first | refine mseq ?_ | refine mregion (fun _ => ?_) | refine mcondT rfl rfl ?_ | refine mcondF rfl rfl ?_ | refine mblock ?_ | refine mskip ?_ | refine mexit ?_ | refine mret ?_) | refine sA ?_ | ((first | apply kM | apply kN); (iterate 3 (· exact rfl)); (· first | exact ya)) | refine sG ?_ | ((first | refine kQ rfl rfl ?_ ?_ | refine mcond rfl rfl ?_ ?_ | refine kR rfl rfl rfl rfl rfl ?_ ?_ | refine kS rfl rfl rfl ?_ ?_) <;> intro hc <;> (try simp only [KL, cond_true, cond_false, beq_iff_eq, bne_iff_ne, ne_eq, reduceCtorEq] at hc) <;> (try (have hT : True := hc; clear hT hc)) <;> (try (exfalso; omega))))
      exact retq rfl rfl
    · refine ⟨rfl, { r with state := .done, pending := some .ret }, rfl, by simp, fun e => by simp at e, fun c e => ?_⟩
      injection e with e
      subst e
      refine mret (rIn (rThen ?_))
      exact retq rfl rfl
end Go.Proofs.YtkkmageogkkchaaGreat
