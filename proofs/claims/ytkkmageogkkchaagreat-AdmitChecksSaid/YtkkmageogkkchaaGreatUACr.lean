/- What is wrong of a system, by the document. No condition. -/
import Derived.Test.YtkkmageogkkchaaGreatUAX
import Derived.Test.YtkkmageogkkchaaGreatUACk
set_option linter.unusedSimpArgs false
set_option linter.unusedVariables false
set_option maxHeartbeats 1000000
namespace Go.Proofs.YtkkmageogkkchaaGreat
set_option linter.unusedSimpArgs false
set_option linter.unusedVariables false
set_option maxRecDepth 100000
set_option linter.unusedSimpArgs false
set_option linter.unusedVariables false
set_option maxRecDepth 100000
open Go.RowKit
theorem right_of {p : List Instr} (h : (checkF p).2 = 0) : ∀ i, i < p.length → rightI (p.getD i default) = true := by
  by_cases h0 : p.length = 0 ∨ 64 < p.length
  · rw [check_arg h0] at h; simp at h
  cases h1 : fstN (formQ p) p.length with
  | some k => rw [check_form h0 h1] at h; simp at h
  | none => exact fun i hi => by simpa [formQ] using fst_none h1 i hi
theorem tasksF_all : ∀ (m : Nat) (l : List Task), (tasksF m l).2.2 = 0 → ∀ t ∈ l, (faultF t).2 = 0
  | _, [], _ => fun t ht => by cases ht
  | m, t :: l, h => by
    rw [tasksF] at h
    by_cases hr : (faultF t).2 = 0
    · rw [if_pos hr] at h
      intro x hx
      rcases List.mem_cons.1 hx with rfl | hx
      · exact hr
      · exact tasksF_all _ l h x hx
    · rw [if_neg hr] at h; exact absurd h hr
theorem tasksF_0 : ∀ (m : Nat) (l : List Task), (tasksF m l).2.2 = 0 → tasksF m l = (-1, -1, 0)
  | _, [], _ => rfl
  | m, t :: l, h => by
    rw [tasksF] at h ⊢
    by_cases hr : (faultF t).2 = 0
    · rw [if_pos hr] at h ⊢; exact tasksF_0 _ l h
    · rw [if_neg hr] at h; exact absurd h hr
theorem fault_0 {t : Task} (h : (faultF t).2 = 0) : plainB t = true ∧ (checkF t.code).2 = 0 := by
  rw [faultF] at h
  by_cases hp : plainB t = true
  · rw [if_pos hp] at h
    by_cases hck : (checkF t.code).2 = 0
    · exact ⟨hp, hck⟩
    · rw [if_neg hck] at h; exact absurd h hck
  · rw [if_neg hp] at h; simp at h
/-- What the program says first, in order of the loops. -/
theorem sys_task {S : System} (h0 : ¬ (S.tasks.length = 0 ∨ 8 < S.tasks.length ∨ 8 < S.objects.length)) (h : (tasksF 0 S.tasks).2.2 ≠ 0) : sysF S = ((tasksF 0 S.tasks).1, -1, (tasksF 0 S.tasks).2.1, (tasksF 0 S.tasks).2.2) := by
  rw [sysF, if_neg h0, if_pos h]
theorem sys_obj {S : System} (h0 : ¬ (S.tasks.length = 0 ∨ 8 < S.tasks.length ∨ 8 < S.objects.length)) (ht : (tasksF 0 S.tasks).2.2 = 0) (h : (objF S).2.2 ≠ 0) : sysF S = ((objF S).1, (objF S).2.1, -1, (objF S).2.2) := by
  rw [sysF, if_neg h0, if_neg (by simpa using ht), if_pos h]
theorem sys_code {S : System} (h0 : ¬ (S.tasks.length = 0 ∨ 8 < S.tasks.length ∨ 8 < S.objects.length)) (ht : (tasksF 0 S.tasks).2.2 = 0) (ho : (objF S).2.2 = 0) (h : (codeF S 0 S.tasks).2.2.2 ≠ 0) : sysF S = codeF S 0 S.tasks := by
  rw [sysF, if_neg h0, if_neg (by simpa using ht), if_neg (by simpa using ho), if_pos h]
theorem sys_lay {S : System} (h0 : ¬ (S.tasks.length = 0 ∨ 8 < S.tasks.length ∨ 8 < S.objects.length)) (ht : (tasksF 0 S.tasks).2.2 = 0) (ho : (objF S).2.2 = 0) (h : (codeF S 0 S.tasks).2.2.2 = 0) : sysF S = (-1, -1, -1, layE S) := by
  rw [sysF, if_neg h0, if_neg (by simpa using ht), if_neg (by simpa using ho), if_neg (by simpa using h)]
set_option maxHeartbeats 4000000 in
theorem rcheck32_fn (S : System) (h : OkS S) : Fn Tryz.prog 84 [.agg (eSystem S)] (.tup [.agg (spotC (sysF S)), .int .i64 (sysF S).2.2.2]) := by
  have h1 := h.tl
  have h2 := h.ol
  have hrl := h.rl
  have hcl := h.cl
  refine fnb Tryz.func84 (entered_of (by kernel_rfl)) rfl rfl rfl ?_
  by_cases h0 : S.tasks.length = 0 ∨ 8 < S.tasks.length ∨ 8 < S.objects.length
  · rw [sysF, if_pos h0]
    repeat' (first | (show W _ _ _ _ _ _; first | apply kA | refine kB rfl ?_ | refine kC rfl rfl ?_ | refine kD rfl rfl ?_ | apply kE | apply kF | apply kG | apply kH | refine kI (by kernel_rfl) (by kernel_rfl) ?_) | (show O _ _ _ _ _ _ _; first | (show O _ _ _ _ (⟨_, .alloc _, _, _, _, _⟩ :: _) _ _; first | refine ao_alloc (id := 10) rfl rfl rfl rfl rfl rfl rfl ?_ | refine ao_alloc (id := 11) rfl rfl rfl rfl rfl rfl rfl ?_) | (show O _ _ _ _ (⟨_, .store _ _ _, _, _, _, _⟩ :: _) _ _; refine kJ rfl rfl rfl rfl rfl rfl rfl rfl rfl rfl rfl ?_) | apply kK) | apply kL | ((first | apply kM | apply kN); (iterate 3 (· exact rfl)); (· first | exact ya)) | refine kO rfl rfl rfl rfl rfl ?_ | refine kP rfl rfl rfl ?_ | ((first | refine kQ rfl rfl ?_ ?_ | refine kR rfl rfl rfl rfl rfl ?_ ?_ | refine kS rfl rfl rfl ?_ ?_) <;> intro hc <;> (try simp only [KL, cond_true, cond_false, beq_iff_eq, bne_iff_ne, ne_eq, reduceCtorEq] at hc) <;> (try (have hT : True := hc; clear hT hc)) <;> (try (exfalso; omega))) | apply kT | apply kU | apply kV | apply kW | refine kX rfl ?_ | apply kY | apply kZ)
    all_goals first | (exfalso; omega) | exact retq rfl rfl
  have y1 := sys_task h0
  have y2 := sys_obj h0
  have y3 := sys_code h0
  have y4 := sys_lay h0
  generalize sysF S = z at *
  obtain ⟨a, ha⟩ : ∃ a, tasksF 0 S.tasks = a := ⟨_, rfl⟩
  have ha0 := tasksF_0 0 S.tasks
  have haa := tasksF_all 0 S.tasks
  rw [ha] at y1 y2 y3 y4 ha0 haa
  repeat' (first | (show W _ _ _ _ _ _; first | apply kA | refine kB rfl ?_ | refine kC rfl rfl ?_ | refine kD rfl rfl ?_ | apply kE | apply kF | apply kG | apply kH | refine kI (by kernel_rfl) (by kernel_rfl) ?_) | (show O _ _ _ _ _ _ _; first | (show O _ _ _ _ (⟨_, .alloc _, _, _, _, _⟩ :: _) _ _; first | refine ao_alloc (id := 10) rfl rfl rfl rfl rfl rfl rfl ?_ | refine ao_alloc (id := 11) rfl rfl rfl rfl rfl rfl rfl ?_) | (show O _ _ _ _ (⟨_, .store _ _ _, _, _, _, _⟩ :: _) _ _; refine kJ rfl rfl rfl rfl rfl rfl rfl rfl rfl rfl rfl ?_) | apply kK) | apply kL | ((first | apply kM | apply kN); (iterate 3 (· exact rfl)); (· first | exact ya)) | refine kO rfl rfl rfl rfl rfl ?_ | refine kP rfl rfl rfl ?_ | ((first | refine kQ rfl rfl ?_ ?_ | refine kR rfl rfl rfl rfl rfl ?_ ?_ | refine kS rfl rfl rfl ?_ ?_) <;> intro hc <;> (try simp only [KL, cond_true, cond_false, beq_iff_eq, bne_iff_ne, ne_eq, reduceCtorEq] at hc) <;> (try (have hT : True := hc; clear hT hc)) <;> (try (exfalso; omega))) | apply kT | apply kU | apply kV | apply kW | refine kX rfl ?_ | apply kY | apply kZ)
  all_goals first | (exfalso; omega) | skip
  refine wloop (fun m : Nat => ([(1, .ref (eSystem S)), (2, .ptr 10 0), (4, .ptr 11 0), (42, .lst 7 (S.tasks.map eTask)), (43, .int .i64 S.tasks.length), (44, .int .i64 m)], [(10, .blk 87 [.int .i64 0, .int .i64 0, .int .i64 0]), (11, .blk 87 [.int .i64 (-1), .int .i64 (-1), .int .i64 (-1)])])) (fun m => m ≤ S.tasks.length ∧ tasksF m (S.tasks.drop m) = a) (fun m => S.tasks.length - m) 0 ⟨Nat.zero_le _, ha⟩ les leh (fun m hm => ?_)
  obtain ⟨hm, hx⟩ := hm
  rcases Nat.lt_or_eq_of_le hm with hml | hml
  · obtain ⟨t, ht⟩ : ∃ t, S.tasks.getD m default = t := ⟨_, rfl⟩
    have e : S.tasks[m] = t := by rw [← ht, List.getD_eq_getElem?_getD, List.getElem?_eq_getElem hml, Option.getD_some]
    have h3 := hcl m
    rw [ht] at h3
    have c1 := rfault_fn t (by omega)
    rw [List.drop_eq_getElem_cons hml, e, tasksF] at hx
    by_cases hf : (faultF t).2 = 0
    · rw [if_pos hf] at hx
      rw [hf] at c1
      repeat' (first | (show W _ _ _ _ _ _; first | apply kA | refine kB rfl ?_ | refine kC rfl rfl ?_ | refine kD rfl rfl ?_ | apply kE | apply kF | apply kG | apply kH | refine kI (by kernel_rfl) (by kernel_rfl) ?_) | (show O _ _ _ _ _ _ _; first | (show O _ _ _ _ (⟨_, .alloc _, _, _, _, _⟩ :: _) _ _; first | refine ao_alloc (id := 12) rfl rfl rfl rfl rfl rfl rfl ?_) | (show O _ _ _ _ (⟨_, .store _ _ _, _, _, _, _⟩ :: _) _ _; refine kJ rfl rfl rfl rfl rfl rfl rfl rfl rfl rfl rfl ?_) | apply kK) | apply kL | ((first | apply kM | apply kN); (iterate 3 (· exact rfl)); (· first | (show Y _ ⟨_, .indexAddr _ _ _, _, _, _, _⟩ _ _ _; first | exact Y.mk (ok_indexE (ht) rfl rfl rfl rfl rfl (by omega))) | (show Y _ ⟨_, .call ⟨.value _, _, _⟩, _, _, _, _⟩ _ _ _; first | exact q_c (c1) rfl) | exact ya)) | refine kO rfl rfl rfl rfl rfl ?_ | refine kP rfl rfl rfl ?_ | ((first | refine kQ rfl rfl ?_ ?_ | refine kR rfl rfl rfl rfl rfl ?_ ?_ | refine kS rfl rfl rfl ?_ ?_) <;> intro hc <;> (try simp only [KL, cond_true, cond_false, beq_iff_eq, bne_iff_ne, ne_eq, reduceCtorEq] at hc) <;> (try (have hT : True := hc; clear hT hc)) <;> (try (exfalso; omega))) | apply kT | apply kU | apply kV | apply kW | refine kX rfl ?_ | apply kY | apply kZ)
      all_goals first | (exfalso; omega) | exact ⟨m + 1, ⟨by omega, hx⟩, by omega, les, leh⟩
    · rw [if_neg hf] at hx
      subst hx
      rw [y1 hf]
      repeat' (first | (show W _ _ _ _ _ _; first | apply kA | refine kB rfl ?_ | refine kC rfl rfl ?_ | refine kD rfl rfl ?_ | apply kE | apply kF | apply kG | apply kH | refine kI (by kernel_rfl) (by kernel_rfl) ?_) | (show O _ _ _ _ _ _ _; first | (show O _ _ _ _ (⟨_, .alloc _, _, _, _, _⟩ :: _) _ _; first | refine ao_alloc (id := 12) rfl rfl rfl rfl rfl rfl rfl ?_) | (show O _ _ _ _ (⟨_, .store _ _ _, _, _, _, _⟩ :: _) _ _; refine kJ rfl rfl rfl rfl rfl rfl rfl rfl rfl rfl rfl ?_) | apply kK) | apply kL | ((first | apply kM | apply kN); (iterate 3 (· exact rfl)); (· first | (show Y _ ⟨_, .indexAddr _ _ _, _, _, _, _⟩ _ _ _; first | exact Y.mk (ok_indexE (ht) rfl rfl rfl rfl rfl (by omega))) | (show Y _ ⟨_, .call ⟨.value _, _, _⟩, _, _, _, _⟩ _ _ _; first | exact q_c (c1) rfl) | exact ya)) | refine kO rfl rfl rfl rfl rfl ?_ | refine kP rfl rfl rfl ?_ | ((first | refine kQ rfl rfl ?_ ?_ | refine kR rfl rfl rfl rfl rfl ?_ ?_ | refine kS rfl rfl rfl ?_ ?_) <;> intro hc <;> (try simp only [KL, cond_true, cond_false, beq_iff_eq, bne_iff_ne, ne_eq, reduceCtorEq] at hc) <;> (try (have hT : True := hc; clear hT hc)) <;> (try (exfalso; omega))) | apply kT | apply kU | apply kV | apply kW | refine kX rfl ?_ | apply kY | apply kZ)
      all_goals first | (exfalso; omega) | exact retq rfl rfl
  subst hml
  rw [List.drop_length, tasksF] at hx
  have ht0 : a.2.2 = 0 := by rw [← hx]
  have y2 := y2 ht0
  have y3 := y3 ht0
  have y4 := y4 ht0
  have haa := haa ht0
  clear y1 hx ha ha0 ht0
  obtain ⟨b, hb⟩ : ∃ b, objR 0 S.objects = b := ⟨_, rfl⟩
  have hb0 := objR_0 0 S.objects
  have hoF : objF S = if b.2.2 = 0 then objB S.tasks.length 0 S.objects else b := by rw [objF, hb]
  have how := fun e k => objF_w (S := S) e k
  have hoa := fun e => objF_all (S := S) e
  rw [hb] at hb0
  rw [hoF] at y2 y3 y4 how hoa
  clear hoF
  repeat' (first | (show W _ _ _ _ _ _; first | apply kA | refine kB rfl ?_ | refine kC rfl rfl ?_ | refine kD rfl rfl ?_ | apply kE | apply kF | apply kG | apply kH | refine kI (by kernel_rfl) (by kernel_rfl) ?_) | (show O _ _ _ _ _ _ _; first | (show O _ _ _ _ (⟨_, .store _ _ _, _, _, _, _⟩ :: _) _ _; refine kJ rfl rfl rfl rfl rfl rfl rfl rfl rfl rfl rfl ?_) | apply kK) | apply kL | ((first | apply kM | apply kN); (iterate 3 (· exact rfl)); (· first | exact ya)) | refine kO rfl rfl rfl rfl rfl ?_ | refine kP rfl rfl rfl ?_ | ((first | refine kQ rfl rfl ?_ ?_ | refine kR rfl rfl rfl rfl rfl ?_ ?_ | refine kS rfl rfl rfl ?_ ?_) <;> intro hc <;> (try simp only [KL, cond_true, cond_false, beq_iff_eq, bne_iff_ne, ne_eq, reduceCtorEq] at hc) <;> (try (have hT : True := hc; clear hT hc)) <;> (try (exfalso; omega))) | apply kT | apply kU | apply kV | apply kW | refine kX rfl ?_ | apply kY | apply kZ)
  all_goals first | (exfalso; omega) | skip
  refine wloop (fun m : Nat => ([(1, .ref (eSystem S)), (2, .ptr 10 0), (4, .ptr 11 0), (62, .lst 8 (S.objects.map eObject)), (63, .int .i64 S.objects.length), (64, .int .i64 m)], [(10, .blk 87 [.int .i64 0, .int .i64 0, .int .i64 0]), (11, .blk 87 [.int .i64 (-1), .int .i64 (-1), .int .i64 (-1)])])) (fun m => m ≤ S.objects.length ∧ objR m (S.objects.drop m) = b) (fun m => S.objects.length - m) 0 ⟨Nat.zero_le _, hb⟩ les leh (fun m hm => ?_)
  obtain ⟨hm, hx⟩ := hm
  rcases Nat.lt_or_eq_of_le hm with hml | hml
  · obtain ⟨o, ho⟩ : ∃ o, S.objects.getD m default = o := ⟨_, rfl⟩
    have e : S.objects[m] = o := by rw [← ho, List.getD_eq_getElem?_getD, List.getElem?_eq_getElem hml, Option.getD_some]
    have h3 := hrl m
    rw [ho] at h3
    have c1 := rright20_fn o (by omega)
    rw [List.drop_eq_getElem_cons hml, e, objR] at hx
    by_cases hf : rightA o = true
    · rw [if_pos hf] at hx
      rw [hf] at c1
      repeat' (first | (show W _ _ _ _ _ _; first | apply kA | refine kB rfl ?_ | refine kC rfl rfl ?_ | refine kD rfl rfl ?_ | apply kE | apply kF | apply kG | apply kH | refine kI (by kernel_rfl) (by kernel_rfl) ?_) | (show O _ _ _ _ _ _ _; first | (show O _ _ _ _ (⟨_, .alloc _, _, _, _, _⟩ :: _) _ _; first | refine ao_alloc (id := 12) rfl rfl rfl rfl rfl rfl rfl ?_) | (show O _ _ _ _ (⟨_, .store _ _ _, _, _, _, _⟩ :: _) _ _; refine kJ rfl rfl rfl rfl rfl rfl rfl rfl rfl rfl rfl ?_) | apply kK) | apply kL | ((first | apply kM | apply kN); (iterate 3 (· exact rfl)); (· first | (show Y _ ⟨_, .indexAddr _ _ _, _, _, _, _⟩ _ _ _; first | exact Y.mk (ok_indexE (ho) rfl rfl rfl rfl rfl (by omega))) | (show Y _ ⟨_, .call ⟨.value _, _, _⟩, _, _, _, _⟩ _ _ _; first | exact q_c (c1) rfl) | exact ya)) | refine kO rfl rfl rfl rfl rfl ?_ | refine kP rfl rfl rfl ?_ | ((first | refine kQ rfl rfl ?_ ?_ | refine kR rfl rfl rfl rfl rfl ?_ ?_ | refine kS rfl rfl rfl ?_ ?_) <;> intro hc <;> (try simp only [KL, cond_true, cond_false, beq_iff_eq, bne_iff_ne, ne_eq, reduceCtorEq] at hc) <;> (try (have hT : True := hc; clear hT hc)) <;> (try (exfalso; omega))) | apply kT | apply kU | apply kV | apply kW | refine kX rfl ?_ | apply kY | apply kZ)
      all_goals first | (exfalso; omega) | exact ⟨m + 1, ⟨by omega, hx⟩, by omega, les, leh⟩
    · rw [if_neg hf] at hx
      rw [Bool.not_eq_true] at hf
      rw [hf] at c1
      subst hx
      rw [if_neg (by simp)] at y2
      rw [y2 (by simp)]
      repeat' (first | (show W _ _ _ _ _ _; first | apply kA | refine kB rfl ?_ | refine kC rfl rfl ?_ | refine kD rfl rfl ?_ | apply kE | apply kF | apply kG | apply kH | refine kI (by kernel_rfl) (by kernel_rfl) ?_) | (show O _ _ _ _ _ _ _; first | (show O _ _ _ _ (⟨_, .alloc _, _, _, _, _⟩ :: _) _ _; first | refine ao_alloc (id := 12) rfl rfl rfl rfl rfl rfl rfl ?_) | (show O _ _ _ _ (⟨_, .store _ _ _, _, _, _, _⟩ :: _) _ _; refine kJ rfl rfl rfl rfl rfl rfl rfl rfl rfl rfl rfl ?_) | apply kK) | apply kL | ((first | apply kM | apply kN); (iterate 3 (· exact rfl)); (· first | (show Y _ ⟨_, .indexAddr _ _ _, _, _, _, _⟩ _ _ _; first | exact Y.mk (ok_indexE (ho) rfl rfl rfl rfl rfl (by omega))) | (show Y _ ⟨_, .call ⟨.value _, _, _⟩, _, _, _, _⟩ _ _ _; first | exact q_c (c1) rfl) | exact ya)) | refine kO rfl rfl rfl rfl rfl ?_ | refine kP rfl rfl rfl ?_ | ((first | refine kQ rfl rfl ?_ ?_ | refine kR rfl rfl rfl rfl rfl ?_ ?_ | refine kS rfl rfl rfl ?_ ?_) <;> intro hc <;> (try simp only [KL, cond_true, cond_false, beq_iff_eq, bne_iff_ne, ne_eq, reduceCtorEq] at hc) <;> (try (have hT : True := hc; clear hT hc)) <;> (try (exfalso; omega))) | apply kT | apply kU | apply kV | apply kW | refine kX rfl ?_ | apply kY | apply kZ)
      all_goals first | (exfalso; omega) | exact retq rfl rfl
  subst hml
  rw [List.drop_length, objR] at hx
  have hb2 : b.2.2 = 0 := by rw [← hx]
  rw [if_pos hb2] at y2 y3 y4 how hoa
  clear hx hb hb0
  obtain ⟨d, hd⟩ : ∃ d, objB S.tasks.length 0 S.objects = d := ⟨_, rfl⟩
  rw [hd] at y2 y3 y4 how hoa
  repeat' (first | (show W _ _ _ _ _ _; first | apply kA | refine kB rfl ?_ | refine kC rfl rfl ?_ | refine kD rfl rfl ?_ | apply kE | apply kF | apply kG | apply kH | refine kI (by kernel_rfl) (by kernel_rfl) ?_) | (show O _ _ _ _ _ _ _; first | (show O _ _ _ _ (⟨_, .store _ _ _, _, _, _, _⟩ :: _) _ _; refine kJ rfl rfl rfl rfl rfl rfl rfl rfl rfl rfl rfl ?_) | apply kK) | apply kL | ((first | apply kM | apply kN); (iterate 3 (· exact rfl)); (· first | exact ya)) | refine kO rfl rfl rfl rfl rfl ?_ | refine kP rfl rfl rfl ?_ | ((first | refine kQ rfl rfl ?_ ?_ | refine kR rfl rfl rfl rfl rfl ?_ ?_ | refine kS rfl rfl rfl ?_ ?_) <;> intro hc <;> (try simp only [KL, cond_true, cond_false, beq_iff_eq, bne_iff_ne, ne_eq, reduceCtorEq] at hc) <;> (try (have hT : True := hc; clear hT hc)) <;> (try (exfalso; omega))) | apply kT | apply kU | apply kV | apply kW | refine kX rfl ?_ | apply kY | apply kZ)
  all_goals first | (exfalso; omega) | skip
  refine wloop (fun m : Nat => ([(1, .ref (eSystem S)), (2, .ptr 10 0), (4, .ptr 11 0), (76, .lst 8 (S.objects.map eObject)), (77, .int .i64 S.objects.length), (78, .int .i64 m)], [(10, .blk 87 [.int .i64 0, .int .i64 0, .int .i64 0]), (11, .blk 87 [.int .i64 (-1), .int .i64 (-1), .int .i64 (-1)])])) (fun m => m ≤ S.objects.length ∧ objB S.tasks.length m (S.objects.drop m) = d) (fun m => S.objects.length - m) 0 ⟨Nat.zero_le _, hd⟩ les leh (fun m hm => ?_)
  obtain ⟨hm, hx⟩ := hm
  rcases Nat.lt_or_eq_of_le hm with hml | hml
  · obtain ⟨o, ho⟩ : ∃ o, S.objects.getD m default = o := ⟨_, rfl⟩
    have e : S.objects[m] = o := by rw [← ho, List.getD_eq_getElem?_getD, List.getElem?_eq_getElem hml, Option.getD_some]
    have h3 := hrl m
    rw [ho] at h3
    rw [List.drop_eq_getElem_cons hml, e, objB] at hx
    obtain ⟨q, hq⟩ : ∃ q, bindO S.tasks.length m (tasksO o) = q := ⟨_, rfl⟩
    rw [hq] at hx
    rw [tasksO, bindO] at hq
    by_cases hw : (S.tasks.length : Int) ≤ o.writer
    · rw [if_pos hw] at hq
      subst hq
      rw [if_neg (by simp)] at hx
      subst hx
      rw [y2 (by simp)]
      repeat' (first | (show W _ _ _ _ _ _; first | apply kA | refine kB rfl ?_ | refine kC rfl rfl ?_ | refine kD rfl rfl ?_ | apply kE | apply kF | apply kG | apply kH | refine kI (by kernel_rfl) (by kernel_rfl) ?_) | (show O _ _ _ _ _ _ _; first | (show O _ _ _ _ (⟨_, .alloc _, _, _, _, _⟩ :: _) _ _; first | refine ao_alloc (id := 12) rfl rfl rfl rfl rfl rfl rfl ?_) | (show O _ _ _ _ (⟨_, .store _ _ _, _, _, _, _⟩ :: _) _ _; refine kJ rfl rfl rfl rfl rfl rfl rfl rfl rfl rfl rfl ?_) | apply kK) | apply kL | ((first | apply kM | apply kN); (iterate 3 (· exact rfl)); (· first | (show Y _ ⟨_, .indexAddr _ _ _, _, _, _, _⟩ _ _ _; first | exact Y.mk (ok_indexE (ho) rfl rfl rfl rfl rfl (by omega))) | exact ya)) | refine kO rfl rfl rfl rfl rfl ?_ | refine kP rfl rfl rfl ?_ | ((first | refine kQ rfl rfl ?_ ?_ | refine kR rfl rfl rfl rfl rfl ?_ ?_ | refine kS rfl rfl rfl ?_ ?_) <;> intro hc <;> (try simp only [KL, cond_true, cond_false, beq_iff_eq, bne_iff_ne, ne_eq, reduceCtorEq] at hc) <;> (try (have hT : True := hc; clear hT hc)) <;> (try (exfalso; omega))) | apply kT | apply kU | apply kV | apply kW | refine kX rfl ?_ | apply kY | apply kZ)
      all_goals first | (exfalso; omega) | exact retq rfl rfl
    rw [if_neg hw] at hq
    obtain ⟨l, hl⟩ : ∃ l, o.readers = l := ⟨_, rfl⟩
    rw [hl] at hq h3
    repeat' (first | (show W _ _ _ _ _ _; first | apply kA | refine kB rfl ?_ | refine kC rfl rfl ?_ | refine kD rfl rfl ?_ | apply kE | apply kF | apply kG | apply kH | refine kI (by kernel_rfl) (by kernel_rfl) ?_) | (show O _ _ _ _ _ _ _; first | (show O _ _ _ _ (⟨_, .alloc _, _, _, _, _⟩ :: _) _ _; first | refine ao_alloc (id := 12) rfl rfl rfl rfl rfl rfl rfl ?_) | (show O _ _ _ _ (⟨_, .store _ _ _, _, _, _, _⟩ :: _) _ _; refine kJ rfl rfl rfl rfl rfl rfl rfl rfl rfl rfl rfl ?_) | apply kK) | apply kL | ((first | apply kM | apply kN); (iterate 3 (· exact rfl)); (· first | (show Y _ ⟨_, .indexAddr _ _ _, _, _, _, _⟩ _ _ _; first | exact Y.mk (ok_indexE (ho) rfl rfl rfl rfl rfl (by omega))) | exact ya)) | refine kO rfl rfl rfl rfl rfl ?_ | refine kP rfl rfl rfl ?_ | ((first | refine kQ rfl rfl ?_ ?_ | refine kR rfl rfl rfl rfl rfl ?_ ?_ | refine kS rfl rfl rfl ?_ ?_) <;> intro hc <;> (try simp only [KL, cond_true, cond_false, beq_iff_eq, bne_iff_ne, ne_eq, reduceCtorEq] at hc) <;> (try (have hT : True := hc; clear hT hc)) <;> (try (exfalso; omega))) | apply kT | apply kU | apply kV | apply kW | refine kX rfl ?_ | apply kY | apply kZ)
    all_goals first | (exfalso; omega) | skip
    refine wloop (fun j : Nat => ([(1, .ref (eSystem S)), (2, .ptr 10 0), (4, .ptr 11 0), (11, .int .i64 m), (76, .lst 8 (S.objects.map eObject)), (77, .int .i64 S.objects.length), (78, .int .i64 m), (94, .lst 1 (l.map eI)), (95, .int .i64 l.length), (96, .int .i64 j)], [(10, .blk 87 [.int .i64 0, .int .i64 0, .int .i64 0]), (11, .blk 87 [.int .i64 (-1), .int .i64 (-1), .int .i64 (-1)])])) (fun j => j ≤ l.length ∧ bindO S.tasks.length m (l.drop j) = q) (fun j => l.length - j) 0 ⟨Nat.zero_le _, hq⟩ (by rw [← hl]; exact les) leh (fun j hj => ?_)
    obtain ⟨hj, hy⟩ := hj
    rcases Nat.lt_or_eq_of_le hj with hjl | hjl
    · obtain ⟨i, hi⟩ : ∃ i, l.getD j default = i := ⟨_, rfl⟩
      have e2 : l[j] = i := by rw [← hi, List.getD_eq_getElem?_getD, List.getElem?_eq_getElem hjl, Option.getD_some]
      rw [List.drop_eq_getElem_cons hjl, e2, bindO] at hy
      by_cases hf : (S.tasks.length : Int) ≤ i
      · rw [if_pos hf] at hy
        subst hy
        rw [if_neg (by simp)] at hx
        subst hx
        rw [y2 (by simp)]
        repeat' (first | (show W _ _ _ _ _ _; first | apply kA | refine kB rfl ?_ | refine kC rfl rfl ?_ | refine kD rfl rfl ?_ | apply kE | apply kF | apply kG | apply kH | refine kI (by kernel_rfl) (by kernel_rfl) ?_) | (show O _ _ _ _ _ _ _; first | (show O _ _ _ _ (⟨_, .store _ _ _, _, _, _, _⟩ :: _) _ _; refine kJ rfl rfl rfl rfl rfl rfl rfl rfl rfl rfl rfl ?_) | apply kK) | apply kL | ((first | apply kM | apply kN); (iterate 3 (· exact rfl)); (· first | (show Y _ ⟨_, .indexAddr _ _ _, _, _, _, _⟩ _ _ _; first | exact Y.mk (ok_indexE (hi) rfl rfl rfl rfl rfl (by omega))) | exact ya)) | refine kO rfl rfl rfl rfl rfl ?_ | refine kP rfl rfl rfl ?_ | ((first | refine kQ rfl rfl ?_ ?_ | refine kR rfl rfl rfl rfl rfl ?_ ?_ | refine kS rfl rfl rfl ?_ ?_) <;> intro hc <;> (try simp only [KL, cond_true, cond_false, beq_iff_eq, bne_iff_ne, ne_eq, reduceCtorEq] at hc) <;> (try (have hT : True := hc; clear hT hc)) <;> (try (exfalso; omega))) | apply kT | apply kU | apply kV | apply kW | refine kX rfl ?_ | apply kY | apply kZ)
        all_goals first | (exfalso; omega) | exact retq rfl rfl
      · rw [if_neg hf] at hy
        repeat' (first | (show W _ _ _ _ _ _; first | apply kA | refine kB rfl ?_ | refine kC rfl rfl ?_ | refine kD rfl rfl ?_ | apply kE | apply kF | apply kG | apply kH | refine kI (by kernel_rfl) (by kernel_rfl) ?_) | (show O _ _ _ _ _ _ _; first | (show O _ _ _ _ (⟨_, .store _ _ _, _, _, _, _⟩ :: _) _ _; refine kJ rfl rfl rfl rfl rfl rfl rfl rfl rfl rfl rfl ?_) | apply kK) | apply kL | ((first | apply kM | apply kN); (iterate 3 (· exact rfl)); (· first | (show Y _ ⟨_, .indexAddr _ _ _, _, _, _, _⟩ _ _ _; first | exact Y.mk (ok_indexE (hi) rfl rfl rfl rfl rfl (by omega))) | exact ya)) | refine kO rfl rfl rfl rfl rfl ?_ | refine kP rfl rfl rfl ?_ | ((first | refine kQ rfl rfl ?_ ?_ | refine kR rfl rfl rfl rfl rfl ?_ ?_ | refine kS rfl rfl rfl ?_ ?_) <;> intro hc <;> (try simp only [KL, cond_true, cond_false, beq_iff_eq, bne_iff_ne, ne_eq, reduceCtorEq] at hc) <;> (try (have hT : True := hc; clear hT hc)) <;> (try (exfalso; omega))) | apply kT | apply kU | apply kV | apply kW | refine kX rfl ?_ | apply kY | apply kZ)
        all_goals first | (exfalso; omega) | exact ⟨j + 1, ⟨by omega, hy⟩, by omega, les, leh⟩
    · subst hjl
      rw [List.drop_length, bindO] at hy
      subst hy
      rw [if_pos rfl] at hx
      repeat' (first | (show W _ _ _ _ _ _; first | apply kA | refine kB rfl ?_ | refine kC rfl rfl ?_ | refine kD rfl rfl ?_ | apply kE | apply kF | apply kG | apply kH | refine kI (by kernel_rfl) (by kernel_rfl) ?_) | (show O _ _ _ _ _ _ _; first | (show O _ _ _ _ (⟨_, .store _ _ _, _, _, _, _⟩ :: _) _ _; refine kJ rfl rfl rfl rfl rfl rfl rfl rfl rfl rfl rfl ?_) | apply kK) | apply kL | ((first | apply kM | apply kN); (iterate 3 (· exact rfl)); (· first | exact ya)) | refine kO rfl rfl rfl rfl rfl ?_ | refine kP rfl rfl rfl ?_ | ((first | refine kQ rfl rfl ?_ ?_ | refine kR rfl rfl rfl rfl rfl ?_ ?_ | refine kS rfl rfl rfl ?_ ?_) <;> intro hc <;> (try simp only [KL, cond_true, cond_false, beq_iff_eq, bne_iff_ne, ne_eq, reduceCtorEq] at hc) <;> (try (have hT : True := hc; clear hT hc)) <;> (try (exfalso; omega))) | apply kT | apply kU | apply kV | apply kW | refine kX rfl ?_ | apply kY | apply kZ)
      all_goals first | (exfalso; omega) | exact ⟨m + 1, ⟨by omega, hx⟩, by omega, les, leh⟩
  subst hml
  rw [List.drop_length, objB] at hx
  have hd2 : d.2.2 = 0 := by rw [← hx]
  have y3 := y3 hd2
  have y4 := y4 hd2
  have how := how hd2
  have hoa := hoa hd2
  clear y2 hx hd
  have c4 := rof31_fn S h
  have hL : layC S = [.lst 2 (((layO S).take S.tasks.length).map eRg), .lst 2 (((layO S).drop S.tasks.length).map eRg), .int .i64 (sumL (lensL S))] ∨ layC S = [.nils, .nils, .int .i64 0] := by
    rw [layC]; split
    · exact .inl rfl
    · exact .inr rfl
  generalize layE S = le at *
  obtain ⟨f, hf⟩ : ∃ f, codeF S 0 S.tasks = f := ⟨_, rfl⟩
  rw [hf] at y3 y4
  repeat' (first | (show W _ _ _ _ _ _; first | apply kA | refine kB rfl ?_ | refine kC rfl rfl ?_ | refine kD rfl rfl ?_ | apply kE | apply kF | apply kG | apply kH | refine kI (by kernel_rfl) (by kernel_rfl) ?_) | (show O _ _ _ _ _ _ _; first | (show O _ _ _ _ (⟨_, .store _ _ _, _, _, _, _⟩ :: _) _ _; refine kJ rfl rfl rfl rfl rfl rfl rfl rfl rfl rfl rfl ?_) | apply kK) | apply kL | ((first | apply kM | apply kN); (iterate 3 (· exact rfl)); (· first | exact ya)) | refine kO rfl rfl rfl rfl rfl ?_ | refine kP rfl rfl rfl ?_ | ((first | refine kQ rfl rfl ?_ ?_ | refine kR rfl rfl rfl rfl rfl ?_ ?_ | refine kS rfl rfl rfl ?_ ?_) <;> intro hc <;> (try simp only [KL, cond_true, cond_false, beq_iff_eq, bne_iff_ne, ne_eq, reduceCtorEq] at hc) <;> (try (have hT : True := hc; clear hT hc)) <;> (try (exfalso; omega))) | apply kT | apply kU | apply kV | apply kW | refine kX rfl ?_ | apply kY | apply kZ)
  all_goals first | (exfalso; omega) | skip
  refine wloop (fun i : Nat => ([(1, .ref (eSystem S)), (2, .ptr 10 0), (4, .ptr 11 0), (111, .lst 7 (S.tasks.map eTask)), (112, .int .i64 S.tasks.length), (113, .int .i64 i)], [(10, .blk 87 [.int .i64 0, .int .i64 0, .int .i64 0]), (11, .blk 87 [.int .i64 (-1), .int .i64 (-1), .int .i64 (-1)])])) (fun i => i ≤ S.tasks.length ∧ codeF S i (S.tasks.drop i) = f) (fun i => S.tasks.length - i) 0 ⟨Nat.zero_le _, hf⟩ les leh (fun i hi => ?_)
  obtain ⟨hi, hx⟩ := hi
  rcases Nat.lt_or_eq_of_le hi with hil | hil
  · obtain ⟨t, ht⟩ : ∃ t, S.tasks.getD i default = t := ⟨_, rfl⟩
    have e : S.tasks[i] = t := by rw [← ht, List.getD_eq_getElem?_getD, List.getElem?_eq_getElem hil, Option.getD_some]
    have h3 := hcl i
    have h4 := h.n i
    have hrt := right_of (fault_0 (haa _ (getD_mem hil))).2
    have hpl := (fault_0 (haa _ (getD_mem hil))).1
    have hE : ∀ c, callE S i c = if callsI c ≤ 0 then 0 else if (S.objects.length : Int) ≤ c.b then 9
      else if callsI c ≠ opsW (S.objects.getD c.b.toNat default).kind ∧ callsI c ≠ opsR (S.objects.getD c.b.toNat default).kind then 9
      else if callsI c ≠ roleI S i c.b then 10
      else if t.own < c.n + (S.objects.getD c.b.toNat default).width then 5 else 0 := fun c => by rw [callE, ht]
    rw [ht] at h3 h4 hrt hpl
    rw [List.drop_eq_getElem_cons hil, e, codeF] at hx
    obtain ⟨b, hb⟩ : ∃ b, codeR S i 0 t.code = b := ⟨_, rfl⟩
    rw [hb] at hx
    rw [plainB, decide_eq_true_eq] at hpl
    have hown : 1 ≤ t.own ∧ t.own ≤ 64 := hpl.2.2.2.2.2
    clear hpl
    obtain ⟨p, hp⟩ : ∃ p, t.code = p := ⟨_, rfl⟩
    rw [hp] at hb h3 h4 hrt
    repeat' (first | (show W _ _ _ _ _ _; first | apply kA | refine kB rfl ?_ | refine kC rfl rfl ?_ | refine kD rfl rfl ?_ | apply kE | apply kF | apply kG | apply kH | refine kI (by kernel_rfl) (by kernel_rfl) ?_) | (show O _ _ _ _ _ _ _; first | (show O _ _ _ _ (⟨_, .alloc _, _, _, _, _⟩ :: _) _ _; first | refine ao_alloc (id := 12) rfl rfl rfl rfl rfl rfl rfl ?_) | (show O _ _ _ _ (⟨_, .store _ _ _, _, _, _, _⟩ :: _) _ _; refine kJ rfl rfl rfl rfl rfl rfl rfl rfl rfl rfl rfl ?_) | apply kK) | apply kL | ((first | apply kM | apply kN); (iterate 3 (· exact rfl)); (· first | (show Y _ ⟨_, .indexAddr _ _ _, _, _, _, _⟩ _ _ _; first | exact Y.mk (ok_indexE (ht) rfl rfl rfl rfl rfl (by omega))) | exact ya)) | refine kO rfl rfl rfl rfl rfl ?_ | refine kP rfl rfl rfl ?_ | ((first | refine kQ rfl rfl ?_ ?_ | refine kR rfl rfl rfl rfl rfl ?_ ?_ | refine kS rfl rfl rfl ?_ ?_) <;> intro hc <;> (try simp only [KL, cond_true, cond_false, beq_iff_eq, bne_iff_ne, ne_eq, reduceCtorEq] at hc) <;> (try (have hT : True := hc; clear hT hc)) <;> (try (exfalso; omega))) | apply kT | apply kU | apply kV | apply kW | refine kX rfl ?_ | apply kY | apply kZ)
    all_goals first | (exfalso; omega) | skip
    refine wloop (fun m : Nat => ([(1, .ref (eSystem S)), (2, .ptr 10 0), (4, .ptr 11 0), (15, .int .i64 i), (16, .ptr 12 0), (111, .lst 7 (S.tasks.map eTask)), (112, .int .i64 S.tasks.length), (113, .int .i64 i), (119, .lst 5 (p.map eInstr)), (120, .int .i64 p.length), (121, .int .i64 m)], [(10, .blk 87 [.int .i64 0, .int .i64 0, .int .i64 0]), (11, .blk 87 [.int .i64 (-1), .int .i64 (-1), .int .i64 (-1)]), (12, .blk 44 (eTask t))])) (fun m => m ≤ p.length ∧ codeR S i m (p.drop m) = b) (fun m => p.length - m) 0 ⟨Nat.zero_le _, hb⟩ (by rw [← hp]; exact les) leh (fun m hm => ?_)
    obtain ⟨hm, hy⟩ := hm
    rcases Nat.lt_or_eq_of_le hm with hml | hml
    · obtain ⟨c, hcc⟩ : ∃ c, p.getD m default = c := ⟨_, rfl⟩
      have e2 : p[m] = c := by rw [← hcc, List.getD_eq_getElem?_getD, List.getElem?_eq_getElem hml, Option.getD_some]
      have h5 := h4 m
      have h6 := hrt m hml
      rw [hcc] at h5 h6
      rw [List.drop_eq_getElem_cons hml, e2, codeR] at hy
      have hEc := hE c
      have c8 := rcalls_fn c.op
      have eq8 : (if 17 ≤ c.op ∧ c.op ≤ 20 then c.op - 16 else 0) = callsI c := by unfold callsI; rw [h6]; simp
      rw [eq8] at c8
      have hq0 : 0 ≤ callsI c := by rw [← eq8]; split <;> omega
      generalize hcE : callE S i c = ce at *
      by_cases h0 : callsI c ≤ 0
      · have e0 : callsI c = 0 := by omega
        rw [if_pos h0] at hEc
        subst hEc
        rw [if_pos rfl] at hy
        rw [e0] at c8
        repeat' (first | (show W _ _ _ _ _ _; first | apply kA | refine kB rfl ?_ | refine kC rfl rfl ?_ | refine kD rfl rfl ?_ | apply kE | apply kF | apply kG | apply kH | refine kI (by kernel_rfl) (by kernel_rfl) ?_) | (show O _ _ _ _ _ _ _; first | (show O _ _ _ _ (⟨_, .alloc _, _, _, _, _⟩ :: _) _ _; first | refine ao_alloc (id := 13) rfl rfl rfl rfl rfl rfl rfl ?_ | refine ao_alloc (id := 14) rfl rfl rfl rfl rfl rfl rfl ?_) | (show O _ _ _ _ (⟨_, .store _ _ _, _, _, _, _⟩ :: _) _ _; refine kJ rfl rfl rfl rfl rfl rfl rfl rfl rfl rfl rfl ?_) | apply kK) | apply kL | ((first | apply kM | apply kN); (iterate 3 (· exact rfl)); (· first | (show Y _ ⟨_, .indexAddr _ _ _, _, _, _, _⟩ _ _ _; first | exact Y.mk (ok_indexE (hcc) rfl rfl rfl rfl rfl (by omega))) | (show Y _ ⟨_, .call ⟨.value _, _, _⟩, _, _, _, _⟩ _ _ _; first | exact q_c (c8) rfl) | exact ya)) | refine kO rfl rfl rfl rfl rfl ?_ | refine kP rfl rfl rfl ?_ | ((first | refine kQ rfl rfl ?_ ?_ | refine kR rfl rfl rfl rfl rfl ?_ ?_ | refine kS rfl rfl rfl ?_ ?_) <;> intro hc <;> (try simp only [KL, cond_true, cond_false, beq_iff_eq, bne_iff_ne, ne_eq, reduceCtorEq] at hc) <;> (try (have hT : True := hc; clear hT hc)) <;> (try (exfalso; omega))) | apply kT | apply kU | apply kV | apply kW | refine kX rfl ?_ | apply kY | apply kZ)
        all_goals first | (exfalso; omega) | exact ⟨m + 1, ⟨by omega, hy⟩, by omega, les, leh⟩
      rw [if_neg h0] at hEc
      have hcb := calls_b (x := c) (by omega)
      have c9 := rrole_fn S h i c.b
      generalize callsI c = q at *
      obtain ⟨op, ca, cb, cc, cn⟩ := c
      dsimp only at *
      obtain ⟨bn, rfl⟩ : ∃ bn : Nat, cb = bn := ⟨cb.toNat, by omega⟩
      generalize roleI S i bn = ro at *
      by_cases hk : (S.objects.length : Int) ≤ bn
      · rw [if_pos hk] at hEc
        subst hEc
        rw [if_neg (by decide)] at hy
        subst hy
        rw [if_neg (by simp)] at hx
        subst hx
        rw [y3 (by simp)]
        repeat' (first | (show W _ _ _ _ _ _; first | apply kA | refine kB rfl ?_ | refine kC rfl rfl ?_ | refine kD rfl rfl ?_ | apply kE | apply kF | apply kG | apply kH | refine kI (by kernel_rfl) (by kernel_rfl) ?_) | (show O _ _ _ _ _ _ _; first | (show O _ _ _ _ (⟨_, .alloc _, _, _, _, _⟩ :: _) _ _; first | refine ao_alloc (id := 13) rfl rfl rfl rfl rfl rfl rfl ?_ | refine ao_alloc (id := 14) rfl rfl rfl rfl rfl rfl rfl ?_) | (show O _ _ _ _ (⟨_, .store _ _ _, _, _, _, _⟩ :: _) _ _; refine kJ rfl rfl rfl rfl rfl rfl rfl rfl rfl rfl rfl ?_) | apply kK) | apply kL | ((first | apply kM | apply kN); (iterate 3 (· exact rfl)); (· first | (show Y _ ⟨_, .indexAddr _ _ _, _, _, _, _⟩ _ _ _; first | exact Y.mk (ok_indexE (hcc) rfl rfl rfl rfl rfl (by omega))) | (show Y _ ⟨_, .call ⟨.value _, _, _⟩, _, _, _, _⟩ _ _ _; first | exact q_c (c8) rfl) | exact ya)) | refine kO rfl rfl rfl rfl rfl ?_ | refine kP rfl rfl rfl ?_ | ((first | refine kQ rfl rfl ?_ ?_ | refine kR rfl rfl rfl rfl rfl ?_ ?_ | refine kS rfl rfl rfl ?_ ?_) <;> intro hc <;> (try simp only [KL, cond_true, cond_false, beq_iff_eq, bne_iff_ne, ne_eq, reduceCtorEq] at hc) <;> (try (have hT : True := hc; clear hT hc)) <;> (try (exfalso; omega))) | apply kT | apply kU | apply kV | apply kW | refine kX rfl ?_ | apply kY | apply kZ)
        all_goals first | (exfalso; omega) | exact retq rfl rfl
      rw [if_neg hk, Int.toNat_natCast] at hEc
      have hob := hoa _ (getD_mem (l := S.objects) (k := bn) (by omega))
      have hww := how bn
      obtain ⟨o, ho⟩ : ∃ o, S.objects.getD bn default = o := ⟨_, rfl⟩
      rw [ho] at hEc hob hww
      rw [rightA, Bool.and_eq_true] at hob
      have hkd := kindP (of_decide_eq_true hob.1)
      obtain ⟨o1, o2, _⟩ := ops_in (k := o.kind) (by omega)
      rw [o1, o2] at hEc
      have c10 := wr_fn o.kind
      have c11 := rd_fn o.kind
      generalize wrO o.kind = ow at *
      generalize rdO o.kind = orr at *
      clear hob o1 o2 hE
      by_cases hk2 : q ≠ ow ∧ q ≠ orr
      · rw [if_pos hk2] at hEc
        subst hEc
        rw [if_neg (by decide)] at hy
        subst hy
        rw [if_neg (by simp)] at hx
        subst hx
        rw [y3 (by simp)]
        repeat' (first | (show W _ _ _ _ _ _; first | apply kA | refine kB rfl ?_ | refine kC rfl rfl ?_ | refine kD rfl rfl ?_ | apply kE | apply kF | apply kG | apply kH | refine kI (by kernel_rfl) (by kernel_rfl) ?_) | (show O _ _ _ _ _ _ _; first | (show O _ _ _ _ (⟨_, .alloc _, _, _, _, _⟩ :: _) _ _; first | refine ao_alloc (id := 13) rfl rfl rfl rfl rfl rfl rfl ?_ | refine ao_alloc (id := 14) rfl rfl rfl rfl rfl rfl rfl ?_) | (show O _ _ _ _ (⟨_, .store _ _ _, _, _, _, _⟩ :: _) _ _; refine kJ rfl rfl rfl rfl rfl rfl rfl rfl rfl rfl rfl ?_) | apply kK) | apply kL | ((first | apply kM | apply kN); (iterate 3 (· exact rfl)); (· first | (show Y _ ⟨_, .indexAddr _ _ _, _, _, _, _⟩ _ _ _; first | exact Y.mk (ok_indexE (hcc) rfl rfl rfl rfl rfl (by omega)) | exact Y.mk (ok_indexE (ho) rfl rfl rfl rfl rfl (by omega))) | (show Y _ ⟨_, .call ⟨.value _, _, _⟩, _, _, _, _⟩ _ _ _; first | exact q_c (c8) rfl | exact q_c (c10) rfl | exact q_c (c11) rfl) | exact ya)) | refine kO rfl rfl rfl rfl rfl ?_ | refine kP rfl rfl rfl ?_ | ((first | refine kQ rfl rfl ?_ ?_ | refine kR rfl rfl rfl rfl rfl ?_ ?_ | refine kS rfl rfl rfl ?_ ?_) <;> intro hc <;> (try simp only [KL, cond_true, cond_false, beq_iff_eq, bne_iff_ne, ne_eq, reduceCtorEq] at hc) <;> (try (have hT : True := hc; clear hT hc)) <;> (try (exfalso; omega))) | apply kT | apply kU | apply kV | apply kW | refine kX rfl ?_ | apply kY | apply kZ)
        all_goals first | (exfalso; omega) | exact retq rfl rfl
      rw [if_neg hk2] at hEc
      by_cases hk3 : q ≠ ro
      · rw [if_pos hk3] at hEc
        subst hEc
        rw [if_neg (by decide)] at hy
        subst hy
        rw [if_neg (by simp)] at hx
        subst hx
        rw [y3 (by simp)]
        repeat' (first | (show W _ _ _ _ _ _; first | apply kA | refine kB rfl ?_ | refine kC rfl rfl ?_ | refine kD rfl rfl ?_ | apply kE | apply kF | apply kG | apply kH | refine kI (by kernel_rfl) (by kernel_rfl) ?_) | (show O _ _ _ _ _ _ _; first | (show O _ _ _ _ (⟨_, .alloc _, _, _, _, _⟩ :: _) _ _; first | refine ao_alloc (id := 13) rfl rfl rfl rfl rfl rfl rfl ?_ | refine ao_alloc (id := 14) rfl rfl rfl rfl rfl rfl rfl ?_) | (show O _ _ _ _ (⟨_, .store _ _ _, _, _, _, _⟩ :: _) _ _; refine kJ rfl rfl rfl rfl rfl rfl rfl rfl rfl rfl rfl ?_) | apply kK) | apply kL | ((first | apply kM | apply kN); (iterate 3 (· exact rfl)); (· first | (show Y _ ⟨_, .indexAddr _ _ _, _, _, _, _⟩ _ _ _; first | exact Y.mk (ok_indexE (hcc) rfl rfl rfl rfl rfl (by omega)) | exact Y.mk (ok_indexE (ho) rfl rfl rfl rfl rfl (by omega))) | (show Y _ ⟨_, .call ⟨.value _, _, _⟩, _, _, _, _⟩ _ _ _; first | exact q_c (c8) rfl | exact q_c (c9) rfl | exact q_c (c10) rfl | exact q_c (c11) rfl) | exact ya)) | refine kO rfl rfl rfl rfl rfl ?_ | refine kP rfl rfl rfl ?_ | ((first | refine kQ rfl rfl ?_ ?_ | refine kR rfl rfl rfl rfl rfl ?_ ?_ | refine kS rfl rfl rfl ?_ ?_) <;> intro hc <;> (try simp only [KL, cond_true, cond_false, beq_iff_eq, bne_iff_ne, ne_eq, reduceCtorEq] at hc) <;> (try (have hT : True := hc; clear hT hc)) <;> (try (exfalso; omega))) | apply kT | apply kU | apply kV | apply kW | refine kX rfl ?_ | apply kY | apply kZ)
        all_goals first | (exfalso; omega) | exact retq rfl rfl
      rw [if_neg hk3] at hEc
      by_cases hk4 : t.own < cn + o.width
      · rw [if_pos hk4] at hEc
        subst hEc
        rw [if_neg (by decide)] at hy
        subst hy
        rw [if_neg (by simp)] at hx
        subst hx
        rw [y3 (by simp)]
        repeat' (first | (show W _ _ _ _ _ _; first | apply kA | refine kB rfl ?_ | refine kC rfl rfl ?_ | refine kD rfl rfl ?_ | apply kE | apply kF | apply kG | apply kH | refine kI (by kernel_rfl) (by kernel_rfl) ?_) | (show O _ _ _ _ _ _ _; first | (show O _ _ _ _ (⟨_, .alloc _, _, _, _, _⟩ :: _) _ _; first | refine ao_alloc (id := 13) rfl rfl rfl rfl rfl rfl rfl ?_ | refine ao_alloc (id := 14) rfl rfl rfl rfl rfl rfl rfl ?_) | (show O _ _ _ _ (⟨_, .store _ _ _, _, _, _, _⟩ :: _) _ _; refine kJ rfl rfl rfl rfl rfl rfl rfl rfl rfl rfl rfl ?_) | apply kK) | apply kL | ((first | apply kM | apply kN); (iterate 3 (· exact rfl)); (· first | (show Y _ ⟨_, .indexAddr _ _ _, _, _, _, _⟩ _ _ _; first | exact Y.mk (ok_indexE (hcc) rfl rfl rfl rfl rfl (by omega)) | exact Y.mk (ok_indexE (ho) rfl rfl rfl rfl rfl (by omega))) | (show Y _ ⟨_, .call ⟨.value _, _, _⟩, _, _, _, _⟩ _ _ _; first | exact q_c (c8) rfl | exact q_c (c9) rfl | exact q_c (c10) rfl | exact q_c (c11) rfl) | exact ya)) | refine kO rfl rfl rfl rfl rfl ?_ | refine kP rfl rfl rfl ?_ | ((first | refine kQ rfl rfl ?_ ?_ | refine kR rfl rfl rfl rfl rfl ?_ ?_ | refine kS rfl rfl rfl ?_ ?_) <;> intro hc <;> (try simp only [KL, cond_true, cond_false, beq_iff_eq, bne_iff_ne, ne_eq, reduceCtorEq] at hc) <;> (try (have hT : True := hc; clear hT hc)) <;> (try (exfalso; omega))) | apply kT | apply kU | apply kV | apply kW | refine kX rfl ?_ | apply kY | apply kZ)
        all_goals first | (exfalso; omega) | exact retq rfl rfl
      · rw [if_neg hk4] at hEc
        subst hEc
        rw [if_pos rfl] at hy
        repeat' (first | (show W _ _ _ _ _ _; first | apply kA | refine kB rfl ?_ | refine kC rfl rfl ?_ | refine kD rfl rfl ?_ | apply kE | apply kF | apply kG | apply kH | refine kI (by kernel_rfl) (by kernel_rfl) ?_) | (show O _ _ _ _ _ _ _; first | (show O _ _ _ _ (⟨_, .alloc _, _, _, _, _⟩ :: _) _ _; first | refine ao_alloc (id := 13) rfl rfl rfl rfl rfl rfl rfl ?_ | refine ao_alloc (id := 14) rfl rfl rfl rfl rfl rfl rfl ?_) | (show O _ _ _ _ (⟨_, .store _ _ _, _, _, _, _⟩ :: _) _ _; refine kJ rfl rfl rfl rfl rfl rfl rfl rfl rfl rfl rfl ?_) | apply kK) | apply kL | ((first | apply kM | apply kN); (iterate 3 (· exact rfl)); (· first | (show Y _ ⟨_, .indexAddr _ _ _, _, _, _, _⟩ _ _ _; first | exact Y.mk (ok_indexE (hcc) rfl rfl rfl rfl rfl (by omega)) | exact Y.mk (ok_indexE (ho) rfl rfl rfl rfl rfl (by omega))) | (show Y _ ⟨_, .call ⟨.value _, _, _⟩, _, _, _, _⟩ _ _ _; first | exact q_c (c8) rfl | exact q_c (c9) rfl | exact q_c (c10) rfl | exact q_c (c11) rfl) | exact ya)) | refine kO rfl rfl rfl rfl rfl ?_ | refine kP rfl rfl rfl ?_ | ((first | refine kQ rfl rfl ?_ ?_ | refine kR rfl rfl rfl rfl rfl ?_ ?_ | refine kS rfl rfl rfl ?_ ?_) <;> intro hc <;> (try simp only [KL, cond_true, cond_false, beq_iff_eq, bne_iff_ne, ne_eq, reduceCtorEq] at hc) <;> (try (have hT : True := hc; clear hT hc)) <;> (try (exfalso; omega))) | apply kT | apply kU | apply kV | apply kW | refine kX rfl ?_ | apply kY | apply kZ)
        all_goals first | (exfalso; omega) | exact ⟨m + 1, ⟨by omega, hy⟩, by omega, les, leh⟩
    · subst hml
      rw [List.drop_length, codeR] at hy
      subst hy
      rw [if_pos rfl] at hx
      repeat' (first | (show W _ _ _ _ _ _; first | apply kA | refine kB rfl ?_ | refine kC rfl rfl ?_ | refine kD rfl rfl ?_ | apply kE | apply kF | apply kG | apply kH | refine kI (by kernel_rfl) (by kernel_rfl) ?_) | (show O _ _ _ _ _ _ _; first | (show O _ _ _ _ (⟨_, .store _ _ _, _, _, _, _⟩ :: _) _ _; refine kJ rfl rfl rfl rfl rfl rfl rfl rfl rfl rfl rfl ?_) | apply kK) | apply kL | ((first | apply kM | apply kN); (iterate 3 (· exact rfl)); (· first | exact ya)) | refine kO rfl rfl rfl rfl rfl ?_ | refine kP rfl rfl rfl ?_ | ((first | refine kQ rfl rfl ?_ ?_ | refine kR rfl rfl rfl rfl rfl ?_ ?_ | refine kS rfl rfl rfl ?_ ?_) <;> intro hc <;> (try simp only [KL, cond_true, cond_false, beq_iff_eq, bne_iff_ne, ne_eq, reduceCtorEq] at hc) <;> (try (have hT : True := hc; clear hT hc)) <;> (try (exfalso; omega))) | apply kT | apply kU | apply kV | apply kW | refine kX rfl ?_ | apply kY | apply kZ)
      all_goals first | (exfalso; omega) | exact ⟨i + 1, ⟨by omega, hx⟩, by omega, les, leh⟩
  · subst hil
    rw [List.drop_length, codeF] at hx
    rw [y4 (by rw [← hx])]
    rcases hL with e | e
    all_goals
      rw [e] at c4
      repeat' (first | (show W _ _ _ _ _ _; first | apply kA | refine kB rfl ?_ | refine kC rfl rfl ?_ | refine kD rfl rfl ?_ | apply kE | apply kF | apply kG | apply kH | refine kI (by kernel_rfl) (by kernel_rfl) ?_) | (show O _ _ _ _ _ _ _; first | (show O _ _ _ _ (⟨_, .alloc _, _, _, _, _⟩ :: _) _ _; first | refine ao_alloc (id := 12) rfl rfl rfl rfl rfl rfl rfl ?_) | (show O _ _ _ _ (⟨_, .store _ _ _, _, _, _, _⟩ :: _) _ _; refine kJ rfl rfl rfl rfl rfl rfl rfl rfl rfl rfl rfl ?_) | apply kK) | apply kL | ((first | apply kM | apply kN); (iterate 3 (· exact rfl)); (· first | (show Y _ ⟨_, .call ⟨.value _, _, _⟩, _, _, _, _⟩ _ _ _; first | exact q_c (c4) rfl) | exact ya)) | refine kO rfl rfl rfl rfl rfl ?_ | refine kP rfl rfl rfl ?_ | ((first | refine kQ rfl rfl ?_ ?_ | refine kR rfl rfl rfl rfl rfl ?_ ?_ | refine kS rfl rfl rfl ?_ ?_) <;> intro hc <;> (try simp only [KL, cond_true, cond_false, beq_iff_eq, bne_iff_ne, ne_eq, reduceCtorEq] at hc) <;> (try (have hT : True := hc; clear hT hc)) <;> (try (exfalso; omega))) | apply kT | apply kU | apply kV | apply kW | refine kX rfl ?_ | apply kY | apply kZ)
      all_goals first | (exfalso; omega) | exact retq rfl rfl
end Go.Proofs.YtkkmageogkkchaaGreat
