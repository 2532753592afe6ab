/- Tasks' numbers; times of release: the packages task, release, over abstract values. No condition. -/
import Derived.Test.YtfjoaeghnfkdlaaTaskFn
namespace Go.Proofs.Ytfjoaeghnfkdlaa
set_option linter.unusedSimpArgs false
set_option linter.unusedVariables false
set_option maxRecDepth 100000
open Go.RowKit
theorem plainB_spec {t : Task} (h : plainB t = true) : (t.kind = 1 ∨ t.kind = 2 ∧ t.offset = 0) ∧ (0 ≤ t.prio ∧ t.prio ≤ 255) ∧ (1 ≤ t.period ∧ t.period ≤ 1048576) ∧ (0 ≤ t.offset ∧ t.offset ≤ 1048576) ∧ (1 ≤ t.deadline ∧ t.deadline ≤ t.period) ∧ (1 ≤ t.own ∧ t.own ≤ 64) := of_decide_eq_true h
theorem periodic_fn (t : Task) : Fn Try.prog 89 [.agg (eTask t)] (.bool (plainB t && decide (t.kind = 1))) := by
  refine fnb Try.func89 (entered_of (by kernel_rfl)) rfl rfl rfl ?_
  repeat' (first | (show W _ _ _ _ _ _; first | apply kA | refine kB rfl ?_ | refine kC rfl rfl ?_ | refine kD rfl rfl ?_ | apply kE | apply kF | apply kG | apply kH | refine kI (by kernel_rfl) (by kernel_rfl) ?_) | (show O _ _ _ _ _ _ _; first | (show O _ _ _ _ (⟨_, .store _ _ _, _, _, _, _⟩ :: _) _ _; refine kJ rfl rfl rfl rfl rfl rfl rfl rfl rfl rfl rfl ?_) | apply kK) | apply kL | ((first | apply kM | apply kN); (iterate 3 (· exact rfl)); (· first | (show Y _ ⟨_, .call ⟨.value _, _, _⟩, _, _, _, _⟩ _ _ _; first | exact q_c (plain_fn _) rfl) | exact ya)) | refine kO rfl rfl rfl rfl rfl ?_ | refine kP rfl rfl rfl ?_ | ((first | refine kQ rfl rfl ?_ ?_ | refine kR rfl rfl rfl rfl rfl ?_ ?_ | refine kS rfl rfl rfl ?_ ?_) <;> intro hc <;> (try simp only [KL, cond_true, cond_false, beq_iff_eq, bne_iff_ne, ne_eq, reduceCtorEq] at hc) <;> (try (have hT : True := hc; clear hT hc)) <;> (try (exfalso; omega))) | apply kT | apply kU | apply kV | apply kW | refine kX rfl ?_ | apply kY | apply kZ)
  all_goals exact retq rfl (congrArg AV.bool (by simp [*]))
def ceilZ (a b : Int) : Int := if a < 1 ∨ b < 1 then 0 else (a - 1) / b + 1
theorem ceil_fn (a b : Int) : Fn Try.prog 90 [.int .i64 a, .int .i64 b] (.int .i64 (ceilZ a b)) := by
  refine fnb Try.func90 (entered_of (by kernel_rfl)) rfl rfl rfl ?_
  refine wrange 0 rfl (fun hr => ?_)
  simp only [rangeP] at hr
  have hd : 1 ≤ a → 1 ≤ b → 0 ≤ (a - 1) / b ∧ (a - 1) / b ≤ a - 1 := fun h1 h2 => ⟨Int.ediv_nonneg (by omega) (by omega), Int.ediv_le_self _ (by omega)⟩
  by_cases h1 : a < 1
  · repeat' (first | (show W _ _ _ _ _ _; first | apply kA | refine kB rfl ?_ | refine kC rfl rfl ?_ | refine kD rfl rfl ?_ | apply kE | apply kF | apply kG | apply kH | refine kI (by kernel_rfl) (by kernel_rfl) ?_) | (show O _ _ _ _ _ _ _; first | (show O _ _ _ _ (⟨_, .store _ _ _, _, _, _, _⟩ :: _) _ _; refine kJ rfl rfl rfl rfl rfl rfl rfl rfl rfl rfl rfl ?_) | apply kK) | apply kL | ((first | apply kM | apply kN); (iterate 3 (· exact rfl)); (· first | exact ya)) | refine kO rfl rfl rfl rfl rfl ?_ | refine kP rfl rfl rfl ?_ | ((first | refine kQ rfl rfl ?_ ?_ | refine kR rfl rfl rfl rfl rfl ?_ ?_ | refine kS rfl rfl rfl ?_ ?_) <;> intro hc <;> (try simp only [KL, cond_true, cond_false, beq_iff_eq, bne_iff_ne, ne_eq, reduceCtorEq] at hc) <;> (try (have hT : True := hc; clear hT hc)) <;> (try (exfalso; omega))) | apply kT | apply kU | apply kV | apply kW | refine kX rfl ?_ | apply kY | apply kZ)
    all_goals first | (exfalso; omega) | exact retq rfl (congrArg (AV.int _) (by rw [ceilZ, if_pos (.inl h1)]))
  by_cases h2 : b < 1
  · repeat' (first | (show W _ _ _ _ _ _; first | apply kA | refine kB rfl ?_ | refine kC rfl rfl ?_ | refine kD rfl rfl ?_ | apply kE | apply kF | apply kG | apply kH | refine kI (by kernel_rfl) (by kernel_rfl) ?_) | (show O _ _ _ _ _ _ _; first | (show O _ _ _ _ (⟨_, .store _ _ _, _, _, _, _⟩ :: _) _ _; refine kJ rfl rfl rfl rfl rfl rfl rfl rfl rfl rfl rfl ?_) | apply kK) | apply kL | ((first | apply kM | apply kN); (iterate 3 (· exact rfl)); (· first | exact ya)) | refine kO rfl rfl rfl rfl rfl ?_ | refine kP rfl rfl rfl ?_ | ((first | refine kQ rfl rfl ?_ ?_ | refine kR rfl rfl rfl rfl rfl ?_ ?_ | refine kS rfl rfl rfl ?_ ?_) <;> intro hc <;> (try simp only [KL, cond_true, cond_false, beq_iff_eq, bne_iff_ne, ne_eq, reduceCtorEq] at hc) <;> (try (have hT : True := hc; clear hT hc)) <;> (try (exfalso; omega))) | apply kT | apply kU | apply kV | apply kW | refine kX rfl ?_ | apply kY | apply kZ)
    all_goals first | (exfalso; omega) | exact retq rfl (congrArg (AV.int _) (by rw [ceilZ, if_pos (.inr h2)]))
  have hd := hd (by omega) (by omega)
  repeat' (first | (show W _ _ _ _ _ _; first | apply kA | refine kB rfl ?_ | refine kC rfl rfl ?_ | refine kD rfl rfl ?_ | apply kE | apply kF | apply kG | apply kH | refine kI (by kernel_rfl) (by kernel_rfl) ?_) | (show O _ _ _ _ _ _ _; first | (show O _ _ _ _ (⟨_, .store _ _ _, _, _, _, _⟩ :: _) _ _; refine kJ rfl rfl rfl rfl rfl rfl rfl rfl rfl rfl rfl ?_) | apply kK) | apply kL | ((first | apply kM | apply kN); (iterate 3 (· exact rfl)); (· first | exact ya)) | refine kO rfl rfl rfl rfl rfl ?_ | refine kP rfl rfl rfl ?_ | ((first | refine kQ rfl rfl ?_ ?_ | refine kR rfl rfl rfl rfl rfl ?_ ?_ | refine kS rfl rfl rfl ?_ ?_) <;> intro hc <;> (try simp only [KL, cond_true, cond_false, beq_iff_eq, bne_iff_ne, ne_eq, reduceCtorEq] at hc) <;> (try (have hT : True := hc; clear hT hc)) <;> (try (exfalso; omega))) | apply kT | apply kU | apply kV | apply kW | refine kX rfl ?_ | apply kY | apply kZ)
  all_goals exact retq rfl (congrArg (AV.int _) (by rw [ceilZ, if_neg (by omega)]))
/-- The first time from one on; below 0: none. -/
def nextZ (t : Task) (frm : Int) : Int :=
  if plainB t = true ∧ t.kind = 1 ∧ frm ≤ 1099511627776 then (let at_ := if frm ≤ t.offset then t.offset else t.offset + ceilZ (frm - t.offset) t.period * t.period; if at_ > 1099511627776 then -1 else at_) else -1
theorem ceil_mul (a p : Int) (h1 : 1 ≤ a) (h2 : 1 ≤ p) : a ≤ ceilZ a p * p ∧ ceilZ a p * p ≤ a - 1 + p := by
  rw [ceilZ, if_neg (by omega), Int.add_mul, Int.one_mul]
  have h3 := Int.mul_ediv_add_emod (a - 1) p
  have h4 := Int.emod_nonneg (a - 1) (show p ≠ 0 by omega)
  have h5 := Int.emod_lt_of_pos (a - 1) (show 0 < p by omega)
  rw [Int.mul_comm] at h3
  omega
theorem ceil_range (a p : Int) (h1 : 1 ≤ a) (h2 : 1 ≤ p) : 1 ≤ ceilZ a p ∧ ceilZ a p ≤ a := by
  rw [ceilZ, if_neg (by omega)]
  have h3 := Int.ediv_nonneg (show 0 ≤ a - 1 by omega) (show 0 ≤ p by omega)
  have h4 := Int.ediv_le_self p (show 0 ≤ a - 1 by omega)
  omega
theorem next_fn (t : Task) (frm : Int) : Fn Try.prog 68 [.agg (eTask t), .int .i64 frm] (.tup [.int .i64 (if nextZ t frm < 0 then 0 else nextZ t frm), .bool (decide (0 ≤ nextZ t frm))]) := by
  refine fnb Try.func68 (entered_of (by kernel_rfl)) rfl rfl rfl ?_
  refine wrange 1 rfl (fun hr => ?_)
  simp only [rangeP] at hr
  cases hp : plainB t && decide (t.kind = 1)
  · have e : nextZ t frm = -1 := by
      rw [nextZ, if_neg]; intro h; simp [h.1, h.2.1] at hp
    rw [e]
    repeat' (first | (show W _ _ _ _ _ _; first | apply kA | refine kB rfl ?_ | refine kC rfl rfl ?_ | refine kD rfl rfl ?_ | apply kE | apply kF | apply kG | apply kH | refine kI (by kernel_rfl) (by kernel_rfl) ?_) | (show O _ _ _ _ _ _ _; first | (show O _ _ _ _ (⟨_, .store _ _ _, _, _, _, _⟩ :: _) _ _; refine kJ rfl rfl rfl rfl rfl rfl rfl rfl rfl rfl rfl ?_) | apply kK) | apply kL | ((first | apply kM | apply kN); (iterate 3 (· exact rfl)); (· first | (show Y _ ⟨_, .call ⟨.value _, _, _⟩, _, _, _, _⟩ _ _ _; first | exact q_c (periodic_fn _) rfl) | exact ya)) | refine kO rfl rfl rfl rfl rfl ?_ | refine kP rfl rfl rfl ?_ | ((first | refine kQ rfl rfl ?_ ?_ | refine kR rfl rfl rfl rfl rfl ?_ ?_ | refine kS rfl rfl rfl ?_ ?_) <;> intro hc <;> (try simp only [KL, cond_true, cond_false, beq_iff_eq, bne_iff_ne, ne_eq, reduceCtorEq] at hc) <;> (try (have hT : True := hc; clear hT hc)) <;> (try (exfalso; omega))) | apply kT | apply kU | apply kV | apply kW | refine kX rfl ?_ | apply kY | apply kZ)
    all_goals first | (exfalso; simp_all; done) | exact retq rfl rfl
  simp only [Bool.and_eq_true, decide_eq_true_eq] at hp
  obtain ⟨hp, hk⟩ := hp
  have hpp : (plainB t && decide (t.kind = 1)) = true := by simp [hp, hk]
  obtain ⟨_, _, h3, h4, _, _⟩ := plainB_spec hp
  by_cases htop : frm ≤ 1099511627776
  case neg =>
    have e : nextZ t frm = -1 := by rw [nextZ, if_neg]; intro h; omega
    rw [e]
    repeat' (first | (show W _ _ _ _ _ _; first | apply kA | refine kB rfl ?_ | refine kC rfl rfl ?_ | refine kD rfl rfl ?_ | apply kE | apply kF | apply kG | apply kH | refine kI (by kernel_rfl) (by kernel_rfl) ?_) | (show O _ _ _ _ _ _ _; first | (show O _ _ _ _ (⟨_, .store _ _ _, _, _, _, _⟩ :: _) _ _; refine kJ rfl rfl rfl rfl rfl rfl rfl rfl rfl rfl rfl ?_) | apply kK) | apply kL | ((first | apply kM | apply kN); (iterate 3 (· exact rfl)); (· first | (show Y _ ⟨_, .call ⟨.value _, _, _⟩, _, _, _, _⟩ _ _ _; first | exact q_c (periodic_fn _) rfl) | exact ya)) | refine kO rfl rfl rfl rfl rfl ?_ | refine kP rfl rfl rfl ?_ | ((first | refine kQ rfl rfl ?_ ?_ | refine kR rfl rfl rfl rfl rfl ?_ ?_ | refine kS rfl rfl rfl ?_ ?_) <;> intro hc <;> (try simp only [KL, cond_true, cond_false, beq_iff_eq, bne_iff_ne, ne_eq, reduceCtorEq] at hc) <;> (try (have hT : True := hc; clear hT hc)) <;> (try (exfalso; omega))) | apply kT | apply kU | apply kV | apply kW | refine kX rfl ?_ | apply kY | apply kZ)
    all_goals first | (exfalso; simp_all; done) | (exfalso; omega) | exact retq rfl rfl
  by_cases hlow : frm ≤ t.offset
  · have e : nextZ t frm = t.offset := by rw [nextZ, if_pos ⟨hp, hk, htop⟩]; simp only [if_pos hlow]; rw [if_neg (by omega)]
    rw [e, if_neg (by omega)]
    repeat' (first | (show W _ _ _ _ _ _; first | apply kA | refine kB rfl ?_ | refine kC rfl rfl ?_ | refine kD rfl rfl ?_ | apply kE | apply kF | apply kG | apply kH | refine kI (by kernel_rfl) (by kernel_rfl) ?_) | (show O _ _ _ _ _ _ _; first | (show O _ _ _ _ (⟨_, .store _ _ _, _, _, _, _⟩ :: _) _ _; refine kJ rfl rfl rfl rfl rfl rfl rfl rfl rfl rfl rfl ?_) | apply kK) | apply kL | ((first | apply kM | apply kN); (iterate 3 (· exact rfl)); (· first | (show Y _ ⟨_, .call ⟨.value _, _, _⟩, _, _, _, _⟩ _ _ _; first | exact q_c (periodic_fn _) rfl | exact q_c (ceil_fn _ _) rfl) | exact ya | exact q_w rfl)) | refine kO rfl rfl rfl rfl rfl ?_ | refine kP rfl rfl rfl ?_ | ((first | refine kQ rfl rfl ?_ ?_ | refine kR rfl rfl rfl rfl rfl ?_ ?_ | refine kS rfl rfl rfl ?_ ?_) <;> intro hc <;> (try simp only [KL, cond_true, cond_false, beq_iff_eq, bne_iff_ne, ne_eq, reduceCtorEq] at hc) <;> (try (have hT : True := hc; clear hT hc)) <;> (try (exfalso; omega))) | apply kT | apply kU | apply kV | apply kW | refine kX rfl ?_ | apply kY | apply kZ)
    all_goals first | (exfalso; simp_all; done) | (exfalso; omega) | exact retq rfl (by rw [decide_eq_true (show 0 ≤ t.offset by omega)])
  · have hm := ceil_mul (frm - t.offset) t.period (by omega) (by omega)
    have hm2 := ceil_range (frm - t.offset) t.period (by omega) (by omega)
    by_cases hbig : t.offset + ceilZ (frm - t.offset) t.period * t.period > 1099511627776
    · have e : nextZ t frm = -1 := by rw [nextZ, if_pos ⟨hp, hk, htop⟩]; simp only [if_neg hlow]; rw [if_pos hbig]
      rw [e]
      repeat' (first | (show W _ _ _ _ _ _; first | apply kA | refine kB rfl ?_ | refine kC rfl rfl ?_ | refine kD rfl rfl ?_ | apply kE | apply kF | apply kG | apply kH | refine kI (by kernel_rfl) (by kernel_rfl) ?_) | (show O _ _ _ _ _ _ _; first | (show O _ _ _ _ (⟨_, .store _ _ _, _, _, _, _⟩ :: _) _ _; refine kJ rfl rfl rfl rfl rfl rfl rfl rfl rfl rfl rfl ?_) | apply kK) | apply kL | ((first | apply kM | apply kN); (iterate 3 (· exact rfl)); (· first | (show Y _ ⟨_, .call ⟨.value _, _, _⟩, _, _, _, _⟩ _ _ _; first | exact q_c (periodic_fn _) rfl | exact q_c (ceil_fn _ _) rfl) | exact ya)) | refine kO rfl rfl rfl rfl rfl ?_ | refine kP rfl rfl rfl ?_ | ((first | refine kQ rfl rfl ?_ ?_ | refine kR rfl rfl rfl rfl rfl ?_ ?_ | refine kS rfl rfl rfl ?_ ?_) <;> intro hc <;> (try simp only [KL, cond_true, cond_false, beq_iff_eq, bne_iff_ne, ne_eq, reduceCtorEq] at hc) <;> (try (have hT : True := hc; clear hT hc)) <;> (try (exfalso; omega))) | apply kT | apply kU | apply kV | apply kW | refine kX rfl ?_ | apply kY | apply kZ)
      all_goals first | (exfalso; simp_all; done) | (exfalso; omega) | exact retq rfl rfl
    · have e : nextZ t frm = t.offset + ceilZ (frm - t.offset) t.period * t.period := by rw [nextZ, if_pos ⟨hp, hk, htop⟩]; simp only [if_neg hlow]; rw [if_neg hbig]
      rw [e, if_neg (by omega)]
      repeat' (first | (show W _ _ _ _ _ _; first | apply kA | refine kB rfl ?_ | refine kC rfl rfl ?_ | refine kD rfl rfl ?_ | apply kE | apply kF | apply kG | apply kH | refine kI (by kernel_rfl) (by kernel_rfl) ?_) | (show O _ _ _ _ _ _ _; first | (show O _ _ _ _ (⟨_, .store _ _ _, _, _, _, _⟩ :: _) _ _; refine kJ rfl rfl rfl rfl rfl rfl rfl rfl rfl rfl rfl ?_) | apply kK) | apply kL | ((first | apply kM | apply kN); (iterate 3 (· exact rfl)); (· first | (show Y _ ⟨_, .call ⟨.value _, _, _⟩, _, _, _, _⟩ _ _ _; first | exact q_c (periodic_fn _) rfl | exact q_c (ceil_fn _ _) rfl) | exact ya)) | refine kO rfl rfl rfl rfl rfl ?_ | refine kP rfl rfl rfl ?_ | ((first | refine kQ rfl rfl ?_ ?_ | refine kR rfl rfl rfl rfl rfl ?_ ?_ | refine kS rfl rfl rfl ?_ ?_) <;> intro hc <;> (try simp only [KL, cond_true, cond_false, beq_iff_eq, bne_iff_ne, ne_eq, reduceCtorEq] at hc) <;> (try (have hT : True := hc; clear hT hc)) <;> (try (exfalso; omega))) | apply kT | apply kU | apply kV | apply kW | refine kX rfl ?_ | apply kY | apply kZ)
      all_goals first | (exfalso; simp_all; done) | (exfalso; omega) | exact retq rfl (by rw [decide_eq_true (show 0 ≤ t.offset + ceilZ (frm - t.offset) t.period * t.period by omega)])
theorem at_fn (t : Task) (time : Int) : Fn Try.prog 42 [.agg (eTask t), .int .i64 time] (.bool (decide (0 ≤ nextZ t time) && decide (nextZ t time = time))) := by
  refine fnb Try.func42 (entered_of (by kernel_rfl)) rfl rfl rfl ?_
  repeat' (first | (show W _ _ _ _ _ _; first | apply kA | refine kB rfl ?_ | refine kC rfl rfl ?_ | refine kD rfl rfl ?_ | apply kE | apply kF | apply kG | apply kH | refine kI (by kernel_rfl) (by kernel_rfl) ?_) | (show O _ _ _ _ _ _ _; first | (show O _ _ _ _ (⟨_, .store _ _ _, _, _, _, _⟩ :: _) _ _; refine kJ rfl rfl rfl rfl rfl rfl rfl rfl rfl rfl rfl ?_) | apply kK) | apply kL | ((first | apply kM | apply kN); (iterate 3 (· exact rfl)); (· first | (show Y _ ⟨_, .call ⟨.value _, _, _⟩, _, _, _, _⟩ _ _ _; first | exact q_c (next_fn _ _) rfl) | exact ya)) | refine kO rfl rfl rfl rfl rfl ?_ | refine kP rfl rfl rfl ?_ | ((first | refine kQ rfl rfl ?_ ?_ | refine kR rfl rfl rfl rfl rfl ?_ ?_ | refine kS rfl rfl rfl ?_ ?_) <;> intro hc <;> (try simp only [KL, cond_true, cond_false, beq_iff_eq, bne_iff_ne, ne_eq, reduceCtorEq] at hc) <;> (try (have hT : True := hc; clear hT hc)) <;> (try (exfalso; omega))) | apply kT | apply kU | apply kV | apply kW | refine kX rfl ?_ | apply kY | apply kZ)
  all_goals exact retq rfl (congrArg AV.bool (by rw [Bool.eq_iff_iff]; (try simp only [cond_true, cond_false, decide_eq_true_eq, Bool.not_eq_true', decide_eq_false_iff_not, Bool.and_eq_true, Bool.or_eq_true, true_iff, false_iff, iff_true, iff_false, Bool.false_eq_true, Bool.not_true, Bool.not_false, reduceCtorEq]); (first | done | omega | (constructor <;> intros <;> omega))))
end Go.Proofs.Ytfjoaeghnfkdlaa
namespace Go.Proofs.Ytfjoaeghnfkdlaa
set_option linter.unusedSimpArgs false
set_option linter.unusedVariables false
set_option maxRecDepth 100000
open Go.RowKit
def okF (period : Int) (lt : List Int) (x : Int) : Bool := decide (0 ≤ x ∧ 1 ≤ period) && (match lt.getLast? with | none => true | some l => decide (l ≤ x ∧ period ≤ x - l))
def stepF (period : Int) (st : List Int × List Int) (x : Int) : List Int × List Int := if okF period st.1 x then (st.1 ++ [x], st.2) else (st.1, st.2 ++ [x])
def filtF (period : Int) (asks : List Int) : List Int × List Int := asks.foldl (stepF period) ([], [])
theorem filt_next (period : Int) (asks : List Int) (k : Nat) (h : k < asks.length) : filtF period (asks.take (k + 1)) = stepF period (filtF period (asks.take k)) (asks.getD k default) := by
  rw [List.take_succ_eq_append_getElem h, filtF, List.foldl_append]
  simp [filtF, h]
theorem filt_len (period : Int) (asks : List Int) : (filtF period asks).1.length + (filtF period asks).2.length = asks.length := by
  have : ∀ (l : List Int) (st : List Int × List Int), (l.foldl (stepF period) st).1.length + (l.foldl (stepF period) st).2.length = st.1.length + st.2.length + l.length := by
    intro l
    induction l with
    | nil => intro st; simp
    | cons x l ih =>
      intro st
      rw [List.foldl_cons, ih, stepF]
      split <;> simp <;> omega
  simpa [filtF] using this asks ([], [])
/-- What is let through lies from 0 on, a period apart. -/
def apartL (period : Int) : List Int → Prop
  | [] => True
  | [x] => 0 ≤ x
  | x :: y :: r => 0 ≤ x ∧ x ≤ y ∧ period ≤ y - x ∧ apartL period (y :: r)
theorem apart_snoc (period : Int) : ∀ (l : List Int) (x : Int), apartL period l → 0 ≤ x → (∀ y, l.getLast? = some y → y ≤ x ∧ period ≤ x - y) → apartL period (l ++ [x])
  | [], x, _, h0, _ => h0
  | [y], x, h, h0, hl => ⟨h, (hl y rfl).1, (hl y rfl).2, h0⟩
  | y :: z :: r, x, h, h0, hl => ⟨h.1, h.2.1, h.2.2.1, apart_snoc period (z :: r) x h.2.2.2 h0 (fun u hu => hl u (by rw [List.getLast?_cons_cons]; exact hu))⟩
theorem filt_apart (period : Int) (asks : List Int) : apartL period (filtF period asks).1 := by
  have : ∀ (l : List Int) (st : List Int × List Int), apartL period st.1 → apartL period (l.foldl (stepF period) st).1 := by
    intro l
    induction l with
    | nil => intro st h; exact h
    | cons x l ih =>
      intro st h
      rw [List.foldl_cons]
      refine ih _ ?_
      rw [stepF]
      split
      · rename_i hok
        refine apart_snoc period st.1 x h ?_ fun y hy => ?_
        · simp only [okF, Bool.and_eq_true, decide_eq_true_eq] at hok; exact hok.1.1
        · simp only [okF, Bool.and_eq_true, hy, decide_eq_true_eq] at hok; exact hok.2
      · exact h
  exact this asks ([], []) trivial
theorem apart_get (period : Int) : ∀ (l : List Int) (i : Nat) (h : i + 1 < l.length), apartL period l → period ≤ l[i + 1] - l[i] ∧ 0 ≤ l[i] ∧ 0 ≤ l[i + 1]
  | [], i, h, _ => by simp at h
  | [x], i, h, _ => by simp at h
  | x :: y :: r, 0, h, ha => ⟨ha.2.2.1, ha.1, by have := ha.1; have := ha.2.1; simp only [List.getElem_cons_zero, List.getElem_cons_succ]; omega⟩
  | x :: y :: r, i + 1, h, ha => by
    have := apart_get period (y :: r) i (by simpa using h) ha.2.2.2
    simpa using this
theorem apart_last (period : Int) : ∀ (l : List Int) (y : Int), apartL period l → l.getLast? = some y → 0 ≤ y
  | [], y, _, h => by simp at h
  | [x], y, ha, h => by simp at h; subst h; exact ha
  | x :: z :: r, y, ha, h => apart_last period (z :: r) y ha.2.2.2 (by rwa [List.getLast?_cons_cons] at h)
/-- The gate's last and open. -/
def lastF (lt : List Int) : Int := (lt.getLast?).getD 0
theorem okF_eq (period : Int) (lt : List Int) (x : Int) : okF period lt x = (decide (0 ≤ x ∧ 1 ≤ period) && (lt.isEmpty || decide (lastF lt ≤ x ∧ period ≤ x - lastF lt))) := by
  unfold okF lastF
  cases lt with
  | nil => simp
  | cons a r => rw [List.getLast?_eq_some_getLast (List.cons_ne_nil a r)]; simp
def passB (period last : Int) (op : Bool) (x : Int) : Bool := decide (0 ≤ x ∧ 1 ≤ period) && (!op || decide (last ≤ x ∧ period ≤ x - last))
theorem pass0_fn (period last x : Int) (op : Bool) (hop : op = true → 0 ≤ last) : FnH Try.prog 44 [.ptr 0 0, .int .i64 x] [(0, .blk 89 [.int .i64 period, .int .i64 last, .bool op])]
    (fun r h' => r = .bool (passB period last op x) ∧ h' = [(0, .blk 89 [.int .i64 period, .int .i64 (if passB period last op x then x else last), .bool (passB period last op x || op)])]) := by
  refine fnhb Try.func44 (entered_of (by kernel_rfl)) rfl rfl ?_
  refine wrange 1 rfl (fun hr => ?_)
  simp only [rangeP] at hr
  cases op
  · cases hb : passB period last false x
    all_goals simp only [passB, Bool.not_false, Bool.true_or, Bool.and_true, decide_eq_true_eq, decide_eq_false_iff_not] at hb
    all_goals repeat' (first | (show W _ _ _ _ _ _; first | apply kA | refine kB rfl ?_ | refine kC rfl rfl ?_ | refine kD rfl rfl ?_ | apply kE | apply kF | apply kG | apply kH | refine kI (by kernel_rfl) (by kernel_rfl) ?_) | (show O _ _ _ _ _ _ _; first | (show O _ _ _ _ (⟨_, .store _ _ _, _, _, _, _⟩ :: _) _ _; refine kJ rfl rfl rfl rfl rfl rfl rfl rfl rfl rfl rfl ?_) | apply kK) | apply kL | ((first | apply kM | apply kN); (iterate 3 (· exact rfl)); (· first | exact ya)) | refine kO rfl rfl rfl rfl rfl ?_ | refine kP rfl rfl rfl ?_ | ((first | refine kQ rfl rfl ?_ ?_ | refine kR rfl rfl rfl rfl rfl ?_ ?_ | refine kS rfl rfl rfl ?_ ?_) <;> intro hc <;> (try simp only [KL, cond_true, cond_false, beq_iff_eq, bne_iff_ne, ne_eq, reduceCtorEq] at hc) <;> (try (have hT : True := hc; clear hT hc)) <;> (try (exfalso; omega))) | apply kT | apply kU | apply kV | apply kW | refine kX rfl ?_ | apply kY | apply kZ)
    all_goals first | (exfalso; omega) | exact reth rfl leh ⟨rfl, rfl⟩
  · have h0 := hop rfl
    cases hb : passB period last true x
    all_goals simp only [passB, Bool.not_true, Bool.false_or, Bool.and_eq_true, Bool.and_eq_false_iff, decide_eq_true_eq, decide_eq_false_iff_not] at hb
    all_goals repeat' (first | (show W _ _ _ _ _ _; first | apply kA | refine kB rfl ?_ | refine kC rfl rfl ?_ | refine kD rfl rfl ?_ | apply kE | apply kF | apply kG | apply kH | refine kI (by kernel_rfl) (by kernel_rfl) ?_) | (show O _ _ _ _ _ _ _; first | (show O _ _ _ _ (⟨_, .store _ _ _, _, _, _, _⟩ :: _) _ _; refine kJ rfl rfl rfl rfl rfl rfl rfl rfl rfl rfl rfl ?_) | apply kK) | apply kL | ((first | apply kM | apply kN); (iterate 3 (· exact rfl)); (· first | exact ya)) | refine kO rfl rfl rfl rfl rfl ?_ | refine kP rfl rfl rfl ?_ | ((first | refine kQ rfl rfl ?_ ?_ | refine kR rfl rfl rfl rfl rfl ?_ ?_ | refine kS rfl rfl rfl ?_ ?_) <;> intro hc <;> (try simp only [KL, cond_true, cond_false, beq_iff_eq, bne_iff_ne, ne_eq, reduceCtorEq] at hc) <;> (try (have hT : True := hc; clear hT hc)) <;> (try (exfalso; omega))) | apply kT | apply kU | apply kV | apply kW | refine kX rfl ?_ | apply kY | apply kZ)
    all_goals first | (exfalso; omega) | exact reth rfl leh ⟨rfl, rfl⟩
theorem pass_fn (period x : Int) (lt : List Int) (ha : apartL period lt) : FnH Try.prog 44 [.ptr 0 0, .int .i64 x] [(0, .blk 89 [.int .i64 period, .int .i64 (lastF lt), .bool (!lt.isEmpty)])]
    (fun r h' => r = .bool (okF period lt x) ∧ h' = [(0, .blk 89 [.int .i64 period, .int .i64 (lastF (if okF period lt x then lt ++ [x] else lt)), .bool (!(if okF period lt x then lt ++ [x] else lt).isEmpty)])]) := by
  have h0 : (!lt.isEmpty) = true → 0 ≤ lastF lt := fun he => by
    unfold lastF
    cases hl : lt.getLast? with
    | none => simp
    | some y => exact apart_last period lt y ha hl
  have e : passB period (lastF lt) (!lt.isEmpty) x = okF period lt x := by rw [okF_eq, passB, Bool.not_not]
  refine (pass0_fn period (lastF lt) x (!lt.isEmpty) h0).mono fun r h' ⟨h1, h2⟩ => ?_
  rw [e] at h1 h2
  refine ⟨h1, h2.trans ?_⟩
  cases okF period lt x <;> simp [lastF]
theorem part_fn (period : Int) (asks : List Int) (hn : asks.length ≤ 1000000) : FnH Try.prog 43 [.lst 1 (asks.map eI), .fn (.func 44) [.ptr 0 0] []] [(0, .blk 89 [.int .i64 period, .int .i64 0, .bool false])]
    (fun r h' => r = .tup [.lst 1 ((filtF period asks).1.map eI), .lst 1 ((filtF period asks).2.map eI)] ∧ ∃ lt, h' = [(0, .blk 89 [.int .i64 period, .int .i64 (lastF lt), .bool (!lt.isEmpty)])]) := by
  refine fnhb Try.func43 (entered_of (by kernel_rfl)) rfl rfl ?_
  repeat' (first | (show W _ _ _ _ _ _; first | apply kA | refine kB rfl ?_ | refine kC rfl rfl ?_ | refine kD rfl rfl ?_ | apply kE | apply kF | apply kG | apply kH | refine kI (by kernel_rfl) (by kernel_rfl) ?_) | (show O _ _ _ _ _ _ _; first | (show O _ _ _ _ (⟨_, .store _ _ _, _, _, _, _⟩ :: _) _ _; refine kJ rfl rfl rfl rfl rfl rfl rfl rfl rfl rfl rfl ?_) | apply kK) | apply kL | ((first | apply kM | apply kN); (iterate 3 (· exact rfl)); (· first | exact ya)) | refine kO rfl rfl rfl rfl rfl ?_ | refine kP rfl rfl rfl ?_ | ((first | refine kQ rfl rfl ?_ ?_ | refine kR rfl rfl rfl rfl rfl ?_ ?_ | refine kS rfl rfl rfl ?_ ?_) <;> intro hc <;> (try simp only [KL, cond_true, cond_false, beq_iff_eq, bne_iff_ne, ne_eq, reduceCtorEq] at hc) <;> (try (have hT : True := hc; clear hT hc)) <;> (try (exfalso; omega))) | apply kT | apply kU | apply kV | apply kW | refine kX rfl ?_ | apply kY | apply kZ)
  refine wturn (turn_own eI (t := 4) rfl 10 3 1 (by omega) rfl) ?_
  refine wturn (turn_own eI (t := 5) rfl 11 3 1 (by omega) rfl) ?_
  refine wloop (fun k : Nat => ([(0, .lst 1 (asks.map eI)), (1, .fn (.func 44) [.ptr 0 0] []), (4, .own 10), (5, .own 11), (8, .lst 1 (asks.map eI)), (9, .int .i64 asks.length), (10, .int .i64 k)],
      [(10, .row 3 1 ((filtF period (asks.take k)).1.map eI)), (11, .row 3 1 ((filtF period (asks.take k)).2.map eI)), (0, .blk 89 [.int .i64 period, .int .i64 (lastF (filtF period (asks.take k)).1), .bool (!(filtF period (asks.take k)).1.isEmpty)])]))
    (fun k => k ≤ asks.length) (fun k => asks.length - k) 0 (Nat.zero_le _) les leh (fun k hk => ?_)
  have hlen := filt_len period (asks.take k)
  have hap := filt_apart period (asks.take k)
  rw [List.length_take, Nat.min_eq_left hk] at hlen
  repeat' (first | (show W _ _ _ _ _ _; first | apply kA | refine kB rfl ?_ | refine kC rfl rfl ?_ | refine kD rfl rfl ?_ | apply kE | apply kF | apply kG | apply kH | refine kI (by kernel_rfl) (by kernel_rfl) ?_) | (show O _ _ _ _ _ _ _; first | (show O _ _ _ _ (⟨_, .store _ _ _, _, _, _, _⟩ :: _) _ _; refine kJ rfl rfl rfl rfl rfl rfl rfl rfl rfl rfl rfl ?_) | apply kK) | apply kL | ((first | apply kM | apply kN); (iterate 3 (· exact rfl)); (· first | exact ya)) | refine kO rfl rfl rfl rfl rfl ?_ | refine kP rfl rfl rfl ?_ | ((first | refine kQ rfl rfl ?_ ?_ | refine kR rfl rfl rfl rfl rfl ?_ ?_ | refine kS rfl rfl rfl ?_ ?_) <;> intro hc <;> (try simp only [KL, cond_true, cond_false, beq_iff_eq, bne_iff_ne, ne_eq, reduceCtorEq] at hc) <;> (try (have hT : True := hc; clear hT hc)) <;> (try (exfalso; omega))) | apply kT | apply kU | apply kV | apply kW | refine kX rfl ?_ | apply kY | apply kZ)
  · refine zcall (fun i => i) (pass_fn period (asks.getD k default) _ hap) rfl rfl leh rfl rfl rfl rfl rfl rfl (fun r h' hR => ?_)
    obtain ⟨rfl, rfl⟩ := hR
    refine ⟨rfl, rfl, ?_⟩
    have hnx := filt_next period asks k (by omega)
    rw [stepF] at hnx
    repeat' (first | (show W _ _ _ _ _ _; first | apply kA | refine kB rfl ?_ | refine kC rfl rfl ?_ | refine kD rfl rfl ?_ | apply kE | apply kF | apply kG | apply kH | refine kI (by kernel_rfl) (by kernel_rfl) ?_) | (show O _ _ _ _ _ _ _; first | (show O _ _ _ _ (⟨_, .store _ _ _, _, _, _, _⟩ :: _) _ _; refine kJ rfl rfl rfl rfl rfl rfl rfl rfl rfl rfl rfl ?_) | apply kK) | apply kL | ((first | apply kM | apply kN); (iterate 3 (· exact rfl)); (· first | exact ya)) | refine kO rfl rfl rfl rfl rfl ?_ | refine kP rfl rfl rfl ?_ | ((first | refine kQ rfl rfl ?_ ?_ | refine kR rfl rfl rfl rfl rfl ?_ ?_ | refine kS rfl rfl rfl ?_ ?_) <;> intro hc <;> (try simp only [KL, cond_true, cond_false, beq_iff_eq, bne_iff_ne, ne_eq, reduceCtorEq] at hc) <;> (try (have hT : True := hc; clear hT hc)) <;> (try (exfalso; omega))) | apply kT | apply kU | apply kV | apply kW | refine kX rfl ?_ | apply kY | apply kZ)
    · rw [if_pos hc] at hnx
      (refine ao_ap (id := 10) (ys := [asks.getD k default]) (by_ := 8) rfl rfl rfl rfl rfl rfl rfl rfl rfl rfl (fun _ _ => rfl) ?_ ?_ rfl rfl rfl rfl rfl ?_; (· (first | omega | ((try simp only [List.length_cons, List.length_nil, List.length_append, List.length_map]) <;> omega))); (· (first | omega | ((try simp only [List.length_cons, List.length_nil, List.length_append, List.length_map]) <;> omega))))
      repeat' (first | (show W _ _ _ _ _ _; first | apply kA | refine kB rfl ?_ | refine kC rfl rfl ?_ | refine kD rfl rfl ?_ | apply kE | apply kF | apply kG | apply kH | refine kI (by kernel_rfl) (by kernel_rfl) ?_) | (show O _ _ _ _ _ _ _; first | (show O _ _ _ _ (⟨_, .store _ _ _, _, _, _, _⟩ :: _) _ _; refine kJ rfl rfl rfl rfl rfl rfl rfl rfl rfl rfl rfl ?_) | apply kK) | apply kL | ((first | apply kM | apply kN); (iterate 3 (· exact rfl)); (· first | exact ya)) | refine kO rfl rfl rfl rfl rfl ?_ | refine kP rfl rfl rfl ?_ | ((first | refine kQ rfl rfl ?_ ?_ | refine kR rfl rfl rfl rfl rfl ?_ ?_ | refine kS rfl rfl rfl ?_ ?_) <;> intro hc <;> (try simp only [KL, cond_true, cond_false, beq_iff_eq, bne_iff_ne, ne_eq, reduceCtorEq] at hc) <;> (try (have hT : True := hc; clear hT hc)) <;> (try (exfalso; omega))) | apply kT | apply kU | apply kV | apply kW | refine kX rfl ?_ | apply kY | apply kZ)
      exact ⟨k + 1, by omega, by omega, les, by simp only [hnx, hc, if_true]; exact leh⟩
    · rw [if_neg (by rw [hc]; exact Bool.false_ne_true)] at hnx
      (refine ao_ap (id := 11) (ys := [asks.getD k default]) (by_ := 8) rfl rfl rfl rfl rfl rfl rfl rfl rfl rfl (fun _ _ => rfl) ?_ ?_ rfl rfl rfl rfl rfl ?_; (· (first | omega | ((try simp only [List.length_cons, List.length_nil, List.length_append, List.length_map]) <;> omega))); (· (first | omega | ((try simp only [List.length_cons, List.length_nil, List.length_append, List.length_map]) <;> omega))))
      repeat' (first | (show W _ _ _ _ _ _; first | apply kA | refine kB rfl ?_ | refine kC rfl rfl ?_ | refine kD rfl rfl ?_ | apply kE | apply kF | apply kG | apply kH | refine kI (by kernel_rfl) (by kernel_rfl) ?_) | (show O _ _ _ _ _ _ _; first | (show O _ _ _ _ (⟨_, .store _ _ _, _, _, _, _⟩ :: _) _ _; refine kJ rfl rfl rfl rfl rfl rfl rfl rfl rfl rfl rfl ?_) | apply kK) | apply kL | ((first | apply kM | apply kN); (iterate 3 (· exact rfl)); (· first | exact ya)) | refine kO rfl rfl rfl rfl rfl ?_ | refine kP rfl rfl rfl ?_ | ((first | refine kQ rfl rfl ?_ ?_ | refine kR rfl rfl rfl rfl rfl ?_ ?_ | refine kS rfl rfl rfl ?_ ?_) <;> intro hc <;> (try simp only [KL, cond_true, cond_false, beq_iff_eq, bne_iff_ne, ne_eq, reduceCtorEq] at hc) <;> (try (have hT : True := hc; clear hT hc)) <;> (try (exfalso; omega))) | apply kT | apply kU | apply kV | apply kW | refine kX rfl ?_ | apply kY | apply kZ)
      exact ⟨k + 1, by omega, by omega, les, by simp only [hnx, hc]; exact leh⟩
  · obtain rfl : k = asks.length := by omega
    rw [List.take_length]
    refine retT (fun _ => turn_freeze (t := 4) rfl rfl rfl) ?_
    refine retT (fun _ => turn_freeze (t := 5) rfl rfl rfl) ?_
    exact reth rfl (h' := [(0, _)]) leh ⟨rfl, _, rfl⟩
theorem filter_fn (period : Int) (asks : List Int) (hn : asks.length ≤ 1000000) : Fn Try.prog 13 [.int .i64 period, .lst 1 (asks.map eI)] (.tup [.lst 1 ((filtF period asks).1.map eI), .lst 1 ((filtF period asks).2.map eI)]) := by
  refine fnb Try.func13 (entered_of (by kernel_rfl)) rfl rfl rfl ?_
  repeat' (first | (show W _ _ _ _ _ _; first | apply kA | refine kB rfl ?_ | refine kC rfl rfl ?_ | refine kD rfl rfl ?_ | apply kE | apply kF | apply kG | apply kH | refine kI (by kernel_rfl) (by kernel_rfl) ?_) | (show O _ _ _ _ _ _ _; first | (show O _ _ _ _ (⟨_, .box _ _, _, _, _, _⟩ :: _) _ _; first | refine ao_box (id := 12) rfl rfl rfl rfl rfl rfl rfl rfl ?_) | (show O _ _ _ _ (⟨_, .store _ _ _, _, _, _, _⟩ :: _) _ _; refine kJ rfl rfl rfl rfl rfl rfl rfl rfl rfl rfl rfl ?_) | apply kK) | apply kL | ((first | apply kM | apply kN); (iterate 3 (· exact rfl)); (· first | exact yab)) | refine kO rfl rfl rfl rfl rfl ?_ | refine kP rfl rfl rfl ?_ | ((first | refine kQ rfl rfl ?_ ?_ | refine kR rfl rfl rfl rfl rfl ?_ ?_ | refine kS rfl rfl rfl ?_ ?_) <;> intro hc <;> (try simp only [KL, cond_true, cond_false, beq_iff_eq, bne_iff_ne, ne_eq, reduceCtorEq] at hc) <;> (try (have hT : True := hc; clear hT hc)) <;> (try (exfalso; omega))) | apply kT | apply kU | apply kV | apply kW | refine kX rfl ?_ | apply kY | apply kZ)
  refine zcall (fun i => i + 12) (part_fn period asks hn) rfl rfl leh rfl rfl rfl rfl rfl rfl (fun r h' hR => ?_)
  obtain ⟨rfl, lt, rfl⟩ := hR
  refine ⟨rfl, rfl, ?_⟩
  repeat' (first | (show W _ _ _ _ _ _; first | apply kA | refine kB rfl ?_ | refine kC rfl rfl ?_ | refine kD rfl rfl ?_ | apply kE | apply kF | apply kG | apply kH | refine kI (by kernel_rfl) (by kernel_rfl) ?_) | (show O _ _ _ _ _ _ _; first | (show O _ _ _ _ (⟨_, .store _ _ _, _, _, _, _⟩ :: _) _ _; refine kJ rfl rfl rfl rfl rfl rfl rfl rfl rfl rfl rfl ?_) | apply kK) | apply kL | ((first | apply kM | apply kN); (iterate 3 (· exact rfl)); (· first | exact ya)) | refine kO rfl rfl rfl rfl rfl ?_ | refine kP rfl rfl rfl ?_ | ((first | refine kQ rfl rfl ?_ ?_ | refine kR rfl rfl rfl rfl rfl ?_ ?_ | refine kS rfl rfl rfl ?_ ?_) <;> intro hc <;> (try simp only [KL, cond_true, cond_false, beq_iff_eq, bne_iff_ne, ne_eq, reduceCtorEq] at hc) <;> (try (have hT : True := hc; clear hT hc)) <;> (try (exfalso; omega))) | apply kT | apply kU | apply kV | apply kW | refine kX rfl ?_ | apply kY | apply kZ)
  exact retq rfl rfl
theorem last_get {l : List Int} {m : Nat} (h : l.length = m + 1) : l.getLast? = some (l.getD m default) := by
  rw [List.getLast?_eq_getElem?, h]
  simp [show m < l.length by omega]
theorem rfilter_fn (period : Int) (asks : List Int) (hn : asks.length ≤ 1000000) : Fn Try.prog 14 [.int .i64 period, .lst 1 (asks.map eI)] (.tup [.lst 1 ((filtF period asks).1.map eI), .lst 1 ((filtF period asks).2.map eI)]) := by
  refine fnb Try.func14 (entered_of (by kernel_rfl)) rfl rfl rfl ?_
  refine wlist 1 rfl (fun hall => ?_)
  have hall := ints_range hall
  repeat' (first | (show W _ _ _ _ _ _; first | apply kA | refine kB rfl ?_ | refine kC rfl rfl ?_ | refine kD rfl rfl ?_ | apply kE | apply kF | apply kG | apply kH | refine kI (by kernel_rfl) (by kernel_rfl) ?_) | (show O _ _ _ _ _ _ _; first | (show O _ _ _ _ (⟨_, .store _ _ _, _, _, _, _⟩ :: _) _ _; refine kJ rfl rfl rfl rfl rfl rfl rfl rfl rfl rfl rfl ?_) | apply kK) | apply kL | ((first | apply kM | apply kN); (iterate 3 (· exact rfl)); (· first | exact ya)) | refine kO rfl rfl rfl rfl rfl ?_ | refine kP rfl rfl rfl ?_ | ((first | refine kQ rfl rfl ?_ ?_ | refine kR rfl rfl rfl rfl rfl ?_ ?_ | refine kS rfl rfl rfl ?_ ?_) <;> intro hc <;> (try simp only [KL, cond_true, cond_false, beq_iff_eq, bne_iff_ne, ne_eq, reduceCtorEq] at hc) <;> (try (have hT : True := hc; clear hT hc)) <;> (try (exfalso; omega))) | apply kT | apply kU | apply kV | apply kW | refine kX rfl ?_ | apply kY | apply kZ)
  refine wturn (turn_own eI (t := 6) rfl 10 3 1 (by omega) rfl) ?_
  refine wturn (turn_own eI (t := 7) rfl 11 3 1 (by omega) rfl) ?_
  refine wloop (fun k : Nat => ([(0, .int .i64 period), (6, .own 10), (7, .own 11), (12, .lst 1 (asks.map eI)), (13, .int .i64 asks.length), (14, .int .i64 k)],
      [(10, .row 3 1 ((filtF period (asks.take k)).1.map eI)), (11, .row 3 1 ((filtF period (asks.take k)).2.map eI))]))
    (fun k => k ≤ asks.length) (fun k => asks.length - k) 0 (Nat.zero_le _) les leh (fun k hk => ?_)
  have hlen := filt_len period (asks.take k)
  have hap := filt_apart period (asks.take k)
  rw [List.length_take, Nat.min_eq_left hk] at hlen
  have hx := hall k
  by_cases hlt : k < asks.length
  case neg =>
    obtain rfl : k = asks.length := by omega
    repeat' (first | (show W _ _ _ _ _ _; first | apply kA | refine kB rfl ?_ | refine kC rfl rfl ?_ | refine kD rfl rfl ?_ | apply kE | apply kF | apply kG | apply kH | refine kI (by kernel_rfl) (by kernel_rfl) ?_) | (show O _ _ _ _ _ _ _; first | (show O _ _ _ _ (⟨_, .store _ _ _, _, _, _, _⟩ :: _) _ _; refine kJ rfl rfl rfl rfl rfl rfl rfl rfl rfl rfl rfl ?_) | apply kK) | apply kL | ((first | apply kM | apply kN); (iterate 3 (· exact rfl)); (· first | exact ya)) | refine kO rfl rfl rfl rfl rfl ?_ | refine kP rfl rfl rfl ?_ | ((first | refine kQ rfl rfl ?_ ?_ | refine kR rfl rfl rfl rfl rfl ?_ ?_ | refine kS rfl rfl rfl ?_ ?_) <;> intro hc <;> (try simp only [KL, cond_true, cond_false, beq_iff_eq, bne_iff_ne, ne_eq, reduceCtorEq] at hc) <;> (try (have hT : True := hc; clear hT hc)) <;> (try (exfalso; omega))) | apply kT | apply kU | apply kV | apply kW | refine kX rfl ?_ | apply kY | apply kZ)
    rw [List.take_length]
    refine retT (fun _ => turn_freeze (t := 4) rfl rfl rfl) ?_
    refine retT (fun _ => turn_freeze (t := 5) rfl rfl rfl) ?_
    exact retq rfl rfl
  have hnx := filt_next period asks k hlt
  rw [stepF] at hnx
  generalize hL : (filtF period (asks.take k)).1 = L at *
  generalize hR : (filtF period (asks.take k)).2 = R at *
  have h0 : L.length ≠ 0 → 0 ≤ lastF L ∧ L.getD ((L.length : Int) - 1).toNat default = lastF L := fun hne => by
    obtain ⟨m, hm⟩ : ∃ m, L.length = m + 1 := ⟨L.length - 1, by omega⟩
    have h1 := last_get hm
    have h2 := apart_last period L _ hap h1
    rw [lastF, h1]
    refine ⟨h2, ?_⟩
    rw [show ((L.length : Int) - 1).toNat = m by omega]; rfl
  by_cases hL0 : L.length = 0
  · have hb0 : okF period L (asks.getD k default) = decide (0 ≤ asks.getD k default ∧ 1 ≤ period) := by rw [okF_eq, List.eq_nil_of_length_eq_zero hL0]; simp
    by_cases hb : 0 ≤ asks.getD k default ∧ 1 ≤ period
    · rw [hb0, decide_eq_true hb, if_pos rfl] at hnx
      repeat' (first | (show W _ _ _ _ _ _; first | apply kA | refine kB rfl ?_ | refine kC rfl rfl ?_ | refine kD rfl rfl ?_ | apply kE | apply kF | apply kG | apply kH | refine kI (by kernel_rfl) (by kernel_rfl) ?_) | (show O _ _ _ _ _ _ _; first | (show O _ _ _ _ (⟨_, .store _ _ _, _, _, _, _⟩ :: _) _ _; refine kJ rfl rfl rfl rfl rfl rfl rfl rfl rfl rfl rfl ?_) | apply kK) | apply kL | ((first | apply kM | apply kN); (iterate 3 (· exact rfl)); (· first | exact ya)) | refine kO rfl rfl rfl rfl rfl ?_ | refine kP rfl rfl rfl ?_ | ((first | refine kQ rfl rfl ?_ ?_ | refine kR rfl rfl rfl rfl rfl ?_ ?_ | refine kS rfl rfl rfl ?_ ?_) <;> intro hc <;> (try simp only [KL, cond_true, cond_false, beq_iff_eq, bne_iff_ne, ne_eq, reduceCtorEq] at hc) <;> (try (have hT : True := hc; clear hT hc)) <;> (try (exfalso; omega))) | apply kT | apply kU | apply kV | apply kW | refine kX rfl ?_ | apply kY | apply kZ)
      all_goals first | (exfalso; omega) | skip
      (refine ao_ap (id := 10) (ys := [asks.getD k default]) (by_ := 8) rfl rfl rfl rfl rfl rfl rfl rfl rfl rfl (fun _ _ => rfl) ?_ ?_ rfl rfl rfl rfl rfl ?_; (· (first | omega | ((try simp only [List.length_cons, List.length_nil, List.length_append, List.length_map]) <;> omega))); (· (first | omega | ((try simp only [List.length_cons, List.length_nil, List.length_append, List.length_map]) <;> omega))))
      repeat' (first | (show W _ _ _ _ _ _; first | apply kA | refine kB rfl ?_ | refine kC rfl rfl ?_ | refine kD rfl rfl ?_ | apply kE | apply kF | apply kG | apply kH | refine kI (by kernel_rfl) (by kernel_rfl) ?_) | (show O _ _ _ _ _ _ _; first | (show O _ _ _ _ (⟨_, .store _ _ _, _, _, _, _⟩ :: _) _ _; refine kJ rfl rfl rfl rfl rfl rfl rfl rfl rfl rfl rfl ?_) | apply kK) | apply kL | ((first | apply kM | apply kN); (iterate 3 (· exact rfl)); (· first | exact ya)) | refine kO rfl rfl rfl rfl rfl ?_ | refine kP rfl rfl rfl ?_ | ((first | refine kQ rfl rfl ?_ ?_ | refine kR rfl rfl rfl rfl rfl ?_ ?_ | refine kS rfl rfl rfl ?_ ?_) <;> intro hc <;> (try simp only [KL, cond_true, cond_false, beq_iff_eq, bne_iff_ne, ne_eq, reduceCtorEq] at hc) <;> (try (have hT : True := hc; clear hT hc)) <;> (try (exfalso; omega))) | apply kT | apply kU | apply kV | apply kW | refine kX rfl ?_ | apply kY | apply kZ)
      exact ⟨k + 1, by omega, by omega, les, by simp only [hnx]; exact leh⟩
    · rw [hb0, decide_eq_false hb, if_neg Bool.false_ne_true] at hnx
      repeat' (first | (show W _ _ _ _ _ _; first | apply kA | refine kB rfl ?_ | refine kC rfl rfl ?_ | refine kD rfl rfl ?_ | apply kE | apply kF | apply kG | apply kH | refine kI (by kernel_rfl) (by kernel_rfl) ?_) | (show O _ _ _ _ _ _ _; first | (show O _ _ _ _ (⟨_, .store _ _ _, _, _, _, _⟩ :: _) _ _; refine kJ rfl rfl rfl rfl rfl rfl rfl rfl rfl rfl rfl ?_) | apply kK) | apply kL | ((first | apply kM | apply kN); (iterate 3 (· exact rfl)); (· first | exact ya)) | refine kO rfl rfl rfl rfl rfl ?_ | refine kP rfl rfl rfl ?_ | ((first | refine kQ rfl rfl ?_ ?_ | refine kR rfl rfl rfl rfl rfl ?_ ?_ | refine kS rfl rfl rfl ?_ ?_) <;> intro hc <;> (try simp only [KL, cond_true, cond_false, beq_iff_eq, bne_iff_ne, ne_eq, reduceCtorEq] at hc) <;> (try (have hT : True := hc; clear hT hc)) <;> (try (exfalso; omega))) | apply kT | apply kU | apply kV | apply kW | refine kX rfl ?_ | apply kY | apply kZ)
      all_goals first | (exfalso; omega) | skip
      all_goals (refine ao_ap (id := 11) (ys := [asks.getD k default]) (by_ := 8) rfl rfl rfl rfl rfl rfl rfl rfl rfl rfl (fun _ _ => rfl) ?_ ?_ rfl rfl rfl rfl rfl ?_; (· (first | omega | ((try simp only [List.length_cons, List.length_nil, List.length_append, List.length_map]) <;> omega))); (· (first | omega | ((try simp only [List.length_cons, List.length_nil, List.length_append, List.length_map]) <;> omega))))
      all_goals repeat' (first | (show W _ _ _ _ _ _; first | apply kA | refine kB rfl ?_ | refine kC rfl rfl ?_ | refine kD rfl rfl ?_ | apply kE | apply kF | apply kG | apply kH | refine kI (by kernel_rfl) (by kernel_rfl) ?_) | (show O _ _ _ _ _ _ _; first | (show O _ _ _ _ (⟨_, .store _ _ _, _, _, _, _⟩ :: _) _ _; refine kJ rfl rfl rfl rfl rfl rfl rfl rfl rfl rfl rfl ?_) | apply kK) | apply kL | ((first | apply kM | apply kN); (iterate 3 (· exact rfl)); (· first | exact ya)) | refine kO rfl rfl rfl rfl rfl ?_ | refine kP rfl rfl rfl ?_ | ((first | refine kQ rfl rfl ?_ ?_ | refine kR rfl rfl rfl rfl rfl ?_ ?_ | refine kS rfl rfl rfl ?_ ?_) <;> intro hc <;> (try simp only [KL, cond_true, cond_false, beq_iff_eq, bne_iff_ne, ne_eq, reduceCtorEq] at hc) <;> (try (have hT : True := hc; clear hT hc)) <;> (try (exfalso; omega))) | apply kT | apply kU | apply kV | apply kW | refine kX rfl ?_ | apply kY | apply kZ)
      all_goals exact ⟨k + 1, by omega, by omega, les, by simp only [hnx]; exact leh⟩
  · have hb0 : okF period L (asks.getD k default) = decide ((0 ≤ asks.getD k default ∧ 1 ≤ period) ∧ lastF L ≤ asks.getD k default ∧ period ≤ asks.getD k default - lastF L) := by
      rw [okF_eq, show L.isEmpty = false by cases L <;> simp_all]; simp
    obtain ⟨h1, h2⟩ := h0 hL0
    refine wrange 0 rfl (fun hp => ?_)
    simp only [rangeP] at hp
    by_cases hb : (0 ≤ asks.getD k default ∧ 1 ≤ period) ∧ lastF L ≤ asks.getD k default ∧ period ≤ asks.getD k default - lastF L
    · rw [hb0, decide_eq_true hb, if_pos rfl] at hnx
      repeat' (first | (show W _ _ _ _ _ _; first | apply kA | refine kB rfl ?_ | refine kC rfl rfl ?_ | refine kD rfl rfl ?_ | apply kE | apply kF | apply kG | apply kH | refine kI (by kernel_rfl) (by kernel_rfl) ?_) | (show O _ _ _ _ _ _ _; first | (show O _ _ _ _ (⟨_, .store _ _ _, _, _, _, _⟩ :: _) _ _; refine kJ rfl rfl rfl rfl rfl rfl rfl rfl rfl rfl rfl ?_) | apply kK) | apply kL | ((first | apply kM | apply kN); (iterate 3 (· exact rfl)); (· first | exact ya)) | refine kO rfl rfl rfl rfl rfl ?_ | refine kP rfl rfl rfl ?_ | ((first | refine kQ rfl rfl ?_ ?_ | refine kR rfl rfl rfl rfl rfl ?_ ?_ | refine kS rfl rfl rfl ?_ ?_) <;> intro hc <;> (try simp only [KL, cond_true, cond_false, beq_iff_eq, bne_iff_ne, ne_eq, reduceCtorEq] at hc) <;> (try (have hT : True := hc; clear hT hc)) <;> (try (exfalso; omega))) | apply kT | apply kU | apply kV | apply kW | refine kX rfl ?_ | apply kY | apply kZ)
      all_goals first | (exfalso; omega) | skip
      (refine ao_ap (id := 10) (ys := [asks.getD k default]) (by_ := 8) rfl rfl rfl rfl rfl rfl rfl rfl rfl rfl (fun _ _ => rfl) ?_ ?_ rfl rfl rfl rfl rfl ?_; (· (first | omega | ((try simp only [List.length_cons, List.length_nil, List.length_append, List.length_map]) <;> omega))); (· (first | omega | ((try simp only [List.length_cons, List.length_nil, List.length_append, List.length_map]) <;> omega))))
      repeat' (first | (show W _ _ _ _ _ _; first | apply kA | refine kB rfl ?_ | refine kC rfl rfl ?_ | refine kD rfl rfl ?_ | apply kE | apply kF | apply kG | apply kH | refine kI (by kernel_rfl) (by kernel_rfl) ?_) | (show O _ _ _ _ _ _ _; first | (show O _ _ _ _ (⟨_, .store _ _ _, _, _, _, _⟩ :: _) _ _; refine kJ rfl rfl rfl rfl rfl rfl rfl rfl rfl rfl rfl ?_) | apply kK) | apply kL | ((first | apply kM | apply kN); (iterate 3 (· exact rfl)); (· first | exact ya)) | refine kO rfl rfl rfl rfl rfl ?_ | refine kP rfl rfl rfl ?_ | ((first | refine kQ rfl rfl ?_ ?_ | refine kR rfl rfl rfl rfl rfl ?_ ?_ | refine kS rfl rfl rfl ?_ ?_) <;> intro hc <;> (try simp only [KL, cond_true, cond_false, beq_iff_eq, bne_iff_ne, ne_eq, reduceCtorEq] at hc) <;> (try (have hT : True := hc; clear hT hc)) <;> (try (exfalso; omega))) | apply kT | apply kU | apply kV | apply kW | refine kX rfl ?_ | apply kY | apply kZ)
      exact ⟨k + 1, by omega, by omega, les, by simp only [hnx]; exact leh⟩
    · rw [hb0, decide_eq_false hb, if_neg Bool.false_ne_true] at hnx
      repeat' (first | (show W _ _ _ _ _ _; first | apply kA | refine kB rfl ?_ | refine kC rfl rfl ?_ | refine kD rfl rfl ?_ | apply kE | apply kF | apply kG | apply kH | refine kI (by kernel_rfl) (by kernel_rfl) ?_) | (show O _ _ _ _ _ _ _; first | (show O _ _ _ _ (⟨_, .store _ _ _, _, _, _, _⟩ :: _) _ _; refine kJ rfl rfl rfl rfl rfl rfl rfl rfl rfl rfl rfl ?_) | apply kK) | apply kL | ((first | apply kM | apply kN); (iterate 3 (· exact rfl)); (· first | exact ya)) | refine kO rfl rfl rfl rfl rfl ?_ | refine kP rfl rfl rfl ?_ | ((first | refine kQ rfl rfl ?_ ?_ | refine kR rfl rfl rfl rfl rfl ?_ ?_ | refine kS rfl rfl rfl ?_ ?_) <;> intro hc <;> (try simp only [KL, cond_true, cond_false, beq_iff_eq, bne_iff_ne, ne_eq, reduceCtorEq] at hc) <;> (try (have hT : True := hc; clear hT hc)) <;> (try (exfalso; omega))) | apply kT | apply kU | apply kV | apply kW | refine kX rfl ?_ | apply kY | apply kZ)
      all_goals first | (exfalso; omega) | skip
      all_goals (refine ao_ap (id := 11) (ys := [asks.getD k default]) (by_ := 8) rfl rfl rfl rfl rfl rfl rfl rfl rfl rfl (fun _ _ => rfl) ?_ ?_ rfl rfl rfl rfl rfl ?_; (· (first | omega | ((try simp only [List.length_cons, List.length_nil, List.length_append, List.length_map]) <;> omega))); (· (first | omega | ((try simp only [List.length_cons, List.length_nil, List.length_append, List.length_map]) <;> omega))))
      all_goals repeat' (first | (show W _ _ _ _ _ _; first | apply kA | refine kB rfl ?_ | refine kC rfl rfl ?_ | refine kD rfl rfl ?_ | apply kE | apply kF | apply kG | apply kH | refine kI (by kernel_rfl) (by kernel_rfl) ?_) | (show O _ _ _ _ _ _ _; first | (show O _ _ _ _ (⟨_, .store _ _ _, _, _, _, _⟩ :: _) _ _; refine kJ rfl rfl rfl rfl rfl rfl rfl rfl rfl rfl rfl ?_) | apply kK) | apply kL | ((first | apply kM | apply kN); (iterate 3 (· exact rfl)); (· first | exact ya)) | refine kO rfl rfl rfl rfl rfl ?_ | refine kP rfl rfl rfl ?_ | ((first | refine kQ rfl rfl ?_ ?_ | refine kR rfl rfl rfl rfl rfl ?_ ?_ | refine kS rfl rfl rfl ?_ ?_) <;> intro hc <;> (try simp only [KL, cond_true, cond_false, beq_iff_eq, bne_iff_ne, ne_eq, reduceCtorEq] at hc) <;> (try (have hT : True := hc; clear hT hc)) <;> (try (exfalso; omega))) | apply kT | apply kU | apply kV | apply kW | refine kX rfl ?_ | apply kY | apply kZ)
      all_goals exact ⟨k + 1, by omega, by omega, les, by simp only [hnx]; exact leh⟩
end Go.Proofs.Ytfjoaeghnfkdlaa
namespace Go.Proofs.Ytfjoaeghnfkdlaa
set_option linter.unusedSimpArgs false
set_option linter.unusedVariables false
set_option maxRecDepth 100000
open Go.RowKit
theorem awake27_fn : Fn Try.prog 12 [] (.bool true) := by
  have e : filtF 5 [0, 3, 5, 9, 10] = ([0, 5, 10], [3, 9]) := by decide
  have f1 := filter_fn 5 [0, 3, 5, 9, 10] (by decide)
  rw [e] at f1
  have f2 := pl_Ints [0, 5, 10] [0, 5, 10]
  rw [show decide (([0, 5, 10] : List Int) = [0, 5, 10]) = true by decide] at f2
  have f3 := pl_Ints [3, 9] [3, 9]
  rw [show decide (([3, 9] : List Int) = [3, 9]) = true by decide] at f3
  have f4 := (at_fn ⟨1, 0, 3, 1, 1, 1, []⟩ 7)
  rw [show (decide (0 ≤ nextZ ⟨1, 0, 3, 1, 1, 1, []⟩ 7) && decide (nextZ ⟨1, 0, 3, 1, 1, 1, []⟩ 7 = 7)) = true by decide] at f4
  have f5 : Fn Try.prog 42 [.agg [.int .i64 1, .int .i64 0, .int .i64 3, .int .i64 1, .int .i64 1, .int .i64 1, .nils], .int .i64 7] (.bool true) := f4.le (by repeat' (first | exact L2.nil _ | refine L2.cons ?_ ?_ | exact LeV.of_eq rfl | exact LeV.nils _ | refine LeV.agg ?_))
  refine fnb Try.func12 (entered_of (by kernel_rfl)) rfl rfl rfl ?_
  repeat' (first | (show W _ _ _ _ _ _; first | apply kA | refine kB rfl ?_ | refine kC rfl rfl ?_ | refine kD rfl rfl ?_ | apply kE | apply kF | apply kG | apply kH | refine kI (by kernel_rfl) (by kernel_rfl) ?_) | (show O _ _ _ _ _ _ _; first | (show O _ _ _ _ (⟨_, .store _ _ _, _, _, _, _⟩ :: _) _ _; refine kJ rfl rfl rfl rfl rfl rfl rfl rfl rfl rfl rfl ?_) | apply kK) | apply kL | ((first | apply kM | apply kN); (iterate 3 (· exact rfl)); (· first | (show Y _ ⟨_, .call ⟨.value _, _, _⟩, _, _, _, _⟩ _ _ _; first | exact q_c (f1) rfl | exact q_c (f2) rfl | exact q_c (f3) rfl | exact q_c (f5) rfl) | exact ya)) | refine kO rfl rfl rfl rfl rfl ?_ | refine kP rfl rfl rfl ?_ | ((first | refine kQ rfl rfl ?_ ?_ | refine kR rfl rfl rfl rfl rfl ?_ ?_ | refine kS rfl rfl rfl ?_ ?_) <;> intro hc <;> (try simp only [KL, cond_true, cond_false, beq_iff_eq, bne_iff_ne, ne_eq, reduceCtorEq] at hc) <;> (try (have hT : True := hc; clear hT hc)) <;> (try (exfalso; omega))) | apply kT | apply kU | apply kV | apply kW | refine kX rfl ?_ | apply kY | apply kZ)
  exact retq rfl rfl
theorem releaseFilters_fn (period : Int) (asks : List Int) : Fn Try.prog 3 [.int .i64 period, .lst 1 (asks.map eI)] (.bool true) := by
  refine fnb Try.func3 (entered_of (by kernel_rfl)) rfl rfl rfl ?_
  by_cases hn : asks.length ≤ 200
  case neg =>
    repeat' (first | (show W _ _ _ _ _ _; first | apply kA | refine kB rfl ?_ | refine kC rfl rfl ?_ | refine kD rfl rfl ?_ | apply kE | apply kF | apply kG | apply kH | refine kI (by kernel_rfl) (by kernel_rfl) ?_) | (show O _ _ _ _ _ _ _; first | (show O _ _ _ _ (⟨_, .store _ _ _, _, _, _, _⟩ :: _) _ _; refine kJ rfl rfl rfl rfl rfl rfl rfl rfl rfl rfl rfl ?_) | apply kK) | apply kL | ((first | apply kM | apply kN); (iterate 3 (· exact rfl)); (· first | (show Y _ ⟨_, .call ⟨.value _, _, _⟩, _, _, _, _⟩ _ _ _; first | exact q_c (awake27_fn) rfl) | exact ya)) | refine kO rfl rfl rfl rfl rfl ?_ | refine kP rfl rfl rfl ?_ | ((first | refine kQ rfl rfl ?_ ?_ | refine kR rfl rfl rfl rfl rfl ?_ ?_ | refine kS rfl rfl rfl ?_ ?_) <;> intro hc <;> (try simp only [KL, cond_true, cond_false, beq_iff_eq, bne_iff_ne, ne_eq, reduceCtorEq] at hc) <;> (try (have hT : True := hc; clear hT hc)) <;> (try (exfalso; omega))) | apply kT | apply kU | apply kV | apply kW | refine kX rfl ?_ | apply kY | apply kZ)
    all_goals first | (exfalso; omega) | exact retq rfl rfl
  repeat' (first | (show W _ _ _ _ _ _; first | apply kA | refine kB rfl ?_ | refine kC rfl rfl ?_ | refine kD rfl rfl ?_ | apply kE | apply kF | apply kG | apply kH | refine kI (by kernel_rfl) (by kernel_rfl) ?_) | (show O _ _ _ _ _ _ _; first | (show O _ _ _ _ (⟨_, .store _ _ _, _, _, _, _⟩ :: _) _ _; refine kJ rfl rfl rfl rfl rfl rfl rfl rfl rfl rfl rfl ?_) | apply kK) | apply kL | ((first | apply kM | apply kN); (iterate 3 (· exact rfl)); (· first | (show Y _ ⟨_, .call ⟨.value _, _, _⟩, _, _, _, _⟩ _ _ _; first | exact q_c (filter_fn _ _ (by omega)) rfl | exact q_c (rfilter_fn _ _ (by omega)) rfl) | exact ya)) | refine kO rfl rfl rfl rfl rfl ?_ | refine kP rfl rfl rfl ?_ | ((first | refine kQ rfl rfl ?_ ?_ | refine kR rfl rfl rfl rfl rfl ?_ ?_ | refine kS rfl rfl rfl ?_ ?_) <;> intro hc <;> (try simp only [KL, cond_true, cond_false, beq_iff_eq, bne_iff_ne, ne_eq, reduceCtorEq] at hc) <;> (try (have hT : True := hc; clear hT hc)) <;> (try (exfalso; omega))) | apply kT | apply kU | apply kV | apply kW | refine kX rfl ?_ | apply kY | apply kZ)
  all_goals first | (exfalso; omega) | skip
  have hap := filt_apart period asks
  have hlen := filt_len period asks
  generalize hF : filtF period asks = F at *
  obtain ⟨A, B⟩ := F
  simp only at hap hlen
  refine wloop (fun i : Nat => ([(0, .int .i64 period), (5, .lst 1 (A.map eI)), (6, .lst 1 (B.map eI)), (7, .lst 1 (A.map eI)), (8, .lst 1 (B.map eI)), (9, .int .i64 i)], []))
    (fun i => 1 ≤ i ∧ i ≤ 1000) (fun i => 1000 - i) 1 ⟨by omega, by omega⟩ les leh (fun i hi => ?_)
  obtain ⟨hi1, hi2⟩ := hi
  refine wlist 5 rfl (fun hall => ?_)
  have hall := ints_range hall
  have h1 := hall i
  have h2 := hall ((i : Int) - 1).toNat
  have hgap : i < A.length → period ≤ A.getD i default - A.getD ((i : Int) - 1).toNat default ∧ 0 ≤ A.getD ((i : Int) - 1).toNat default ∧ 0 ≤ A.getD i default := fun hlt => by
    obtain ⟨j, rfl⟩ : ∃ j, i = j + 1 := ⟨i - 1, by omega⟩
    have := apart_get period A j hlt hap
    rw [show (((j + 1 : Nat) : Int) - 1).toNat = j by omega]
    simpa [hlt, show j < A.length by omega] using this
  by_cases hlt : i < A.length
  · have hgap := hgap hlt
    repeat' (first | (show W _ _ _ _ _ _; first | apply kA | refine kB rfl ?_ | refine kC rfl rfl ?_ | refine kD rfl rfl ?_ | apply kE | apply kF | apply kG | apply kH | refine kI (by kernel_rfl) (by kernel_rfl) ?_) | (show O _ _ _ _ _ _ _; first | (show O _ _ _ _ (⟨_, .store _ _ _, _, _, _, _⟩ :: _) _ _; refine kJ rfl rfl rfl rfl rfl rfl rfl rfl rfl rfl rfl ?_) | apply kK) | apply kL | ((first | apply kM | apply kN); (iterate 3 (· exact rfl)); (· first | exact ya)) | refine kO rfl rfl rfl rfl rfl ?_ | refine kP rfl rfl rfl ?_ | ((first | refine kQ rfl rfl ?_ ?_ | refine kR rfl rfl rfl rfl rfl ?_ ?_ | refine kS rfl rfl rfl ?_ ?_) <;> intro hc <;> (try simp only [KL, cond_true, cond_false, beq_iff_eq, bne_iff_ne, ne_eq, reduceCtorEq] at hc) <;> (try (have hT : True := hc; clear hT hc)) <;> (try (exfalso; omega))) | apply kT | apply kU | apply kV | apply kW | refine kX rfl ?_ | apply kY | apply kZ)
    all_goals first | (exfalso; omega) | exact ⟨i + 1, ⟨by omega, by omega⟩, by omega, les, leh⟩
  · have p1 := pl_Ints A A
    rw [decide_eq_true rfl] at p1
    have p2 := pl_Ints B B
    rw [decide_eq_true rfl] at p2
    repeat' (first | (show W _ _ _ _ _ _; first | apply kA | refine kB rfl ?_ | refine kC rfl rfl ?_ | refine kD rfl rfl ?_ | apply kE | apply kF | apply kG | apply kH | refine kI (by kernel_rfl) (by kernel_rfl) ?_) | (show O _ _ _ _ _ _ _; first | (show O _ _ _ _ (⟨_, .store _ _ _, _, _, _, _⟩ :: _) _ _; refine kJ rfl rfl rfl rfl rfl rfl rfl rfl rfl rfl rfl ?_) | apply kK) | apply kL | ((first | apply kM | apply kN); (iterate 3 (· exact rfl)); (· first | (show Y _ ⟨_, .call ⟨.value _, _, _⟩, _, _, _, _⟩ _ _ _; first | exact q_c (p1) rfl | exact q_c (p2) rfl | exact q_c (awake27_fn) rfl) | exact ya)) | refine kO rfl rfl rfl rfl rfl ?_ | refine kP rfl rfl rfl ?_ | ((first | refine kQ rfl rfl ?_ ?_ | refine kR rfl rfl rfl rfl rfl ?_ ?_ | refine kS rfl rfl rfl ?_ ?_) <;> intro hc <;> (try simp only [KL, cond_true, cond_false, beq_iff_eq, bne_iff_ne, ne_eq, reduceCtorEq] at hc) <;> (try (have hT : True := hc; clear hT hc)) <;> (try (exfalso; omega))) | apply kT | apply kU | apply kV | apply kW | refine kX rfl ?_ | apply kY | apply kZ)
    all_goals first | (exfalso; omega) | exact retq rfl rfl
end Go.Proofs.Ytfjoaeghnfkdlaa
