/- How many slots, and attempts, would do; the statement SizeTells. No condition. -/
import Derived.Test.YtkkmageogkkchaaI7
namespace Go.Proofs.Ytkkmageogkkchaa
set_option linter.unusedSimpArgs false
set_option linter.unusedVariables false
set_option maxRecDepth 100000
set_option linter.unusedSimpArgs false
set_option linter.unusedVariables false
set_option maxRecDepth 100000
open Go.RowKit
def tickI (rs : List Int) (i : Int) : Int := if i < 0 ∨ (rs.length : Int) ≤ i then 0 else rs.getD i.toNat default
def mxL (g : Int → Int) (l : List Int) : Int := l.foldl (fun n i => max n (g i)) 0
theorem mx_next (g : Int → Int) (l : List Int) (k : Nat) (h : k < l.length) : mxL g (l.take (k + 1)) = max (mxL g (l.take k)) (g (l.getD k default)) := by
  have e : l.getD k default = l[k] := by simp [h]
  rw [mxL, List.take_succ_eq_append_getElem h, List.foldl_append, e]; rfl
theorem mx_B {g : Int → Int} (hg : ∀ i, 0 ≤ g i ∧ g i ≤ 1099511627776) : ∀ (l : List Int) (n : Int), 0 ≤ n → n ≤ 1099511627776 → 0 ≤ l.foldl (fun n i => max n (g i)) n ∧ l.foldl (fun n i => max n (g i)) n ≤ 1099511627776 ∧ n ≤ l.foldl (fun n i => max n (g i)) n ∧ ∀ i ∈ l, g i ≤ l.foldl (fun n i => max n (g i)) n
  | [], n, h1, h2 => ⟨h1, h2, Int.le_refl _, fun i hi => by cases hi⟩
  | a :: l, n, h1, h2 => by
    have ha := hg a
    obtain ⟨q1, q2, q3, q4⟩ := mx_B hg l (max n (g a)) (by omega) (by omega)
    rw [List.foldl_cons]
    refine ⟨q1, q2, by omega, fun i hi => ?_⟩
    rcases List.mem_cons.1 hi with rfl | hi
    · omega
    · exact q4 i hi
def slotsI (S : System) (k : Int) (rs : List Int) : Int := if k < 0 ∨ (S.objects.length : Int) ≤ k ∨ (S.objects.getD k.toNat default).kind ≠ 4 then 0 else mxL (fun i => writesI S i k (tickI rs i)) (S.objects.getD k.toNat default).readers + 2
def capsN (S : System) (k : Int) (rs : List Int) : Int := if k < 0 ∨ (S.objects.length : Int) ≤ k ∨ ¬ (3 ≤ (S.objects.getD k.toNat default).kind ∧ (S.objects.getD k.toNat default).kind ≤ 5) then 0 else mxL (fun i => failsI S i k (tickI rs i)) (S.objects.getD k.toNat default).readers + 1
theorem failsI_B (S : System) (i k r : Int) : 0 ≤ failsI S i k r ∧ failsI S i k r ≤ 1099511627776 := fails_B _ (writes_B S i k r)
theorem ticks_fn (rs : List Int) (i : Int) (hn : rs.length ≤ 1000000) : Fn Try.prog 47 [.lst 1 (rs.map eI), .int .i64 i] (.int .i64 (tickI rs i)) := by
  by_cases h : i < 0 ∨ (rs.length : Int) ≤ i
  · rw [tickI, if_pos h]
    refine fnb Try.func47 (entered_of (by kernel_rfl)) rfl rfl rfl ?_
    repeat' (first | (show W _ _ _ _ _ _; first | apply kA | refine kB rfl ?_ | refine kC rfl rfl ?_ | refine kD rfl rfl ?_ | apply kE | apply kF | apply kG | apply kH | refine kI (by kernel_rfl) (by kernel_rfl) ?_) | (show O _ _ _ _ _ _ _; first | (show O _ _ _ _ (⟨_, .store _ _ _, _, _, _, _⟩ :: _) _ _; refine kJ rfl rfl rfl rfl rfl rfl rfl rfl rfl rfl rfl ?_) | apply kK) | apply kL | ((first | apply kM | apply kN); (iterate 3 (· exact rfl)); (· first | exact ya)) | refine kO rfl rfl rfl rfl rfl ?_ | refine kP rfl rfl rfl ?_ | ((first | refine kQ rfl rfl ?_ ?_ | refine kR rfl rfl rfl rfl rfl ?_ ?_ | refine kS rfl rfl rfl ?_ ?_) <;> intro hc <;> (try simp only [KL, cond_true, cond_false, beq_iff_eq, bne_iff_ne, ne_eq, reduceCtorEq] at hc) <;> (try (have hT : True := hc; clear hT hc)) <;> (try (exfalso; omega))) | apply kT | apply kU | apply kV | apply kW | refine kX rfl ?_ | apply kY | apply kZ)
    all_goals first | (exfalso; omega) | exact retq rfl rfl
  · rw [tickI, if_neg h]
    refine fnb Try.func47 (entered_of (by kernel_rfl)) rfl rfl rfl ?_
    repeat' (first | (show W _ _ _ _ _ _; first | apply kA | refine kB rfl ?_ | refine kC rfl rfl ?_ | refine kD rfl rfl ?_ | apply kE | apply kF | apply kG | apply kH | refine kI (by kernel_rfl) (by kernel_rfl) ?_) | (show O _ _ _ _ _ _ _; first | (show O _ _ _ _ (⟨_, .store _ _ _, _, _, _, _⟩ :: _) _ _; refine kJ rfl rfl rfl rfl rfl rfl rfl rfl rfl rfl rfl ?_) | apply kK) | apply kL | ((first | apply kM | apply kN); (iterate 3 (· exact rfl)); (· first | exact ya)) | refine kO rfl rfl rfl rfl rfl ?_ | refine kP rfl rfl rfl ?_ | ((first | refine kQ rfl rfl ?_ ?_ | refine kR rfl rfl rfl rfl rfl ?_ ?_ | refine kS rfl rfl rfl ?_ ?_) <;> intro hc <;> (try simp only [KL, cond_true, cond_false, beq_iff_eq, bne_iff_ne, ne_eq, reduceCtorEq] at hc) <;> (try (have hT : True := hc; clear hT hc)) <;> (try (exfalso; omega))) | apply kT | apply kU | apply kV | apply kW | refine kX rfl ?_ | apply kY | apply kZ)
    all_goals first | (exfalso; omega) | exact retq rfl rfl
theorem smost_fn (o : Object) (fc : FuncId) (cap : List AV) (g : Int → Int) (hF : ∀ i, Fn Try.prog fc ([.int .i64 i] ++ cap) (.int .i64 (g i))) (hrl : o.readers.length ≤ 1000) : Fn Try.prog 45 [.agg (eObject o), .fn (.func fc) [] cap] (.int .i64 (mxL g o.readers)) := by
  obtain ⟨xs, hxs⟩ : ∃ xs, o.readers = xs := ⟨_, rfl⟩
  refine fnb Try.func45 (entered_of (by kernel_rfl)) rfl rfl rfl ?_
  repeat' (first | (show W _ _ _ _ _ _; first | apply kA | refine kB rfl ?_ | refine kC rfl rfl ?_ | refine kD rfl rfl ?_ | apply kE | apply kF | apply kG | apply kH | refine kI (by kernel_rfl) (by kernel_rfl) ?_) | (show O _ _ _ _ _ _ _; first | (show O _ _ _ _ (⟨_, .store _ _ _, _, _, _, _⟩ :: _) _ _; refine kJ rfl rfl rfl rfl rfl rfl rfl rfl rfl rfl rfl ?_) | apply kK) | apply kL | ((first | apply kM | apply kN); (iterate 3 (· exact rfl)); (· first | exact ya)) | refine kO rfl rfl rfl rfl rfl ?_ | refine kP rfl rfl rfl ?_ | ((first | refine kQ rfl rfl ?_ ?_ | refine kR rfl rfl rfl rfl rfl ?_ ?_ | refine kS rfl rfl rfl ?_ ?_) <;> intro hc <;> (try simp only [KL, cond_true, cond_false, beq_iff_eq, bne_iff_ne, ne_eq, reduceCtorEq] at hc) <;> (try (have hT : True := hc; clear hT hc)) <;> (try (exfalso; omega))) | apply kT | apply kU | apply kV | apply kW | refine kX rfl ?_ | apply kY | apply kZ)
  rw [hxs] at hrl ⊢
  refine wloop (fun k : Nat => ([(1, .fn (.func fc) [] cap), (5, .int .i64 (mxL g (xs.take k))), (9, .lst 1 (xs.map eI)), (10, .int .i64 xs.length), (11, .int .i64 k)], [])) (fun k => k ≤ xs.length) (fun k => xs.length - k) 0 (Nat.zero_le _) (by rw [← hxs]; exact les) leh (fun k hk => ?_)
  rcases Nat.lt_or_eq_of_le hk with hkl | hkl
  · have hnx := mx_next g xs k hkl
    obtain ⟨i, hi⟩ : ∃ i, xs.getD k default = i := ⟨_, rfl⟩
    rw [hi] at hnx
    have c1 := hF i
    repeat' (first | (show W _ _ _ _ _ _; first | apply kA | refine kB rfl ?_ | refine kC rfl rfl ?_ | refine kD rfl rfl ?_ | apply kE | apply kF | apply kG | apply kH | refine kI (by kernel_rfl) (by kernel_rfl) ?_) | (show O _ _ _ _ _ _ _; first | (show O _ _ _ _ (⟨_, .store _ _ _, _, _, _, _⟩ :: _) _ _; refine kJ rfl rfl rfl rfl rfl rfl rfl rfl rfl rfl rfl ?_) | apply kK) | apply kL | ((first | apply kM | apply kN); (iterate 3 (· exact rfl)); (· first | (show Y _ ⟨_, .indexAddr _ _ _, _, _, _, _⟩ _ _ _; first | exact Y.mk (ok_indexE (hi) rfl rfl rfl rfl rfl (by omega))) | (show Y _ ⟨_, .call ⟨.value _, _, _⟩, _, _, _, _⟩ _ _ _; first | exact q_c (c1) rfl) | exact ya)) | refine kO rfl rfl rfl rfl rfl ?_ | refine kP rfl rfl rfl ?_ | ((first | refine kQ rfl rfl ?_ ?_ | refine kR rfl rfl rfl rfl rfl ?_ ?_ | refine kS rfl rfl rfl ?_ ?_) <;> intro hc <;> (try simp only [KL, cond_true, cond_false, beq_iff_eq, bne_iff_ne, ne_eq, reduceCtorEq] at hc) <;> (try (have hT : True := hc; clear hT hc)) <;> (try (exfalso; omega))) | apply kT | apply kU | apply kV | apply kW | refine kX rfl ?_ | apply kY | apply kZ)
    all_goals first | (exfalso; omega) | exact ⟨k + 1, by omega, by omega, by simp only [hnx]; exact les, leh⟩
  · subst hkl
    rw [List.take_length]
    repeat' (first | (show W _ _ _ _ _ _; first | apply kA | refine kB rfl ?_ | refine kC rfl rfl ?_ | refine kD rfl rfl ?_ | apply kE | apply kF | apply kG | apply kH | refine kI (by kernel_rfl) (by kernel_rfl) ?_) | (show O _ _ _ _ _ _ _; first | (show O _ _ _ _ (⟨_, .store _ _ _, _, _, _, _⟩ :: _) _ _; refine kJ rfl rfl rfl rfl rfl rfl rfl rfl rfl rfl rfl ?_) | apply kK) | apply kL | ((first | apply kM | apply kN); (iterate 3 (· exact rfl)); (· first | exact ya)) | refine kO rfl rfl rfl rfl rfl ?_ | refine kP rfl rfl rfl ?_ | ((first | refine kQ rfl rfl ?_ ?_ | refine kR rfl rfl rfl rfl rfl ?_ ?_ | refine kS rfl rfl rfl ?_ ?_) <;> intro hc <;> (try simp only [KL, cond_true, cond_false, beq_iff_eq, bne_iff_ne, ne_eq, reduceCtorEq] at hc) <;> (try (have hT : True := hc; clear hT hc)) <;> (try (exfalso; omega))) | apply kT | apply kU | apply kV | apply kW | refine kX rfl ?_ | apply kY | apply kZ)
    all_goals first | (exfalso; omega) | exact retq rfl rfl
theorem slotsC_fn (S : System) (h : OkS S) (k : Int) (rs : List Int) (hn : rs.length ≤ 1000000) (i : Int) : Fn Try.prog 46 [.int .i64 i, .ref (eSystem S), .ref [.int .i64 k], .ref [.lst 1 (rs.map eI)]] (.int .i64 (writesI S i k (tickI rs i))) := by
  have c1 := ticks_fn rs i hn
  have c2 := writes_fn S h i k (tickI rs i)
  refine fnb Try.func46 (entered_of (by kernel_rfl)) rfl rfl rfl ?_
  repeat' (first | (show W _ _ _ _ _ _; first | apply kA | refine kB rfl ?_ | refine kC rfl rfl ?_ | refine kD rfl rfl ?_ | apply kE | apply kF | apply kG | apply kH | refine kI (by kernel_rfl) (by kernel_rfl) ?_) | (show O _ _ _ _ _ _ _; first | (show O _ _ _ _ (⟨_, .store _ _ _, _, _, _, _⟩ :: _) _ _; refine kJ rfl rfl rfl rfl rfl rfl rfl rfl rfl rfl rfl ?_) | apply kK) | apply kL | ((first | apply kM | apply kN); (iterate 3 (· exact rfl)); (· first | (show Y _ ⟨_, .call ⟨.value _, _, _⟩, _, _, _, _⟩ _ _ _; first | exact q_c (c1) rfl | exact q_c (c2) rfl) | exact ya)) | refine kO rfl rfl rfl rfl rfl ?_ | refine kP rfl rfl rfl ?_ | ((first | refine kQ rfl rfl ?_ ?_ | refine kR rfl rfl rfl rfl rfl ?_ ?_ | refine kS rfl rfl rfl ?_ ?_) <;> intro hc <;> (try simp only [KL, cond_true, cond_false, beq_iff_eq, bne_iff_ne, ne_eq, reduceCtorEq] at hc) <;> (try (have hT : True := hc; clear hT hc)) <;> (try (exfalso; omega))) | apply kT | apply kU | apply kV | apply kW | refine kX rfl ?_ | apply kY | apply kZ)
  exact retq rfl rfl
theorem capsC_fn (S : System) (h : OkS S) (k : Int) (rs : List Int) (hn : rs.length ≤ 1000000) (i : Int) : Fn Try.prog 49 [.int .i64 i, .ref (eSystem S), .ref [.int .i64 k], .ref [.lst 1 (rs.map eI)]] (.int .i64 (failsI S i k (tickI rs i))) := by
  have c1 := ticks_fn rs i hn
  have c2 := fails_fn S h i k (tickI rs i)
  refine fnb Try.func49 (entered_of (by kernel_rfl)) rfl rfl rfl ?_
  repeat' (first | (show W _ _ _ _ _ _; first | apply kA | refine kB rfl ?_ | refine kC rfl rfl ?_ | refine kD rfl rfl ?_ | apply kE | apply kF | apply kG | apply kH | refine kI (by kernel_rfl) (by kernel_rfl) ?_) | (show O _ _ _ _ _ _ _; first | (show O _ _ _ _ (⟨_, .store _ _ _, _, _, _, _⟩ :: _) _ _; refine kJ rfl rfl rfl rfl rfl rfl rfl rfl rfl rfl rfl ?_) | apply kK) | apply kL | ((first | apply kM | apply kN); (iterate 3 (· exact rfl)); (· first | (show Y _ ⟨_, .call ⟨.value _, _, _⟩, _, _, _, _⟩ _ _ _; first | exact q_c (c1) rfl | exact q_c (c2) rfl) | exact ya)) | refine kO rfl rfl rfl rfl rfl ?_ | refine kP rfl rfl rfl ?_ | ((first | refine kQ rfl rfl ?_ ?_ | refine kR rfl rfl rfl rfl rfl ?_ ?_ | refine kS rfl rfl rfl ?_ ?_) <;> intro hc <;> (try simp only [KL, cond_true, cond_false, beq_iff_eq, bne_iff_ne, ne_eq, reduceCtorEq] at hc) <;> (try (have hT : True := hc; clear hT hc)) <;> (try (exfalso; omega))) | apply kT | apply kU | apply kV | apply kW | refine kX rfl ?_ | apply kY | apply kZ)
  exact retq rfl rfl
theorem tries39_fn (k : Int) : Fn Try.prog 48 [.int .i64 k] (.bool (decide (3 ≤ k ∧ k ≤ 5))) := by
  refine fnb Try.func48 (entered_of (by kernel_rfl)) rfl rfl rfl ?_
  repeat' (first | (show W _ _ _ _ _ _; first | apply kA | refine kB rfl ?_ | refine kC rfl rfl ?_ | refine kD rfl rfl ?_ | apply kE | apply kF | apply kG | apply kH | refine kI (by kernel_rfl) (by kernel_rfl) ?_) | (show O _ _ _ _ _ _ _; first | (show O _ _ _ _ (⟨_, .store _ _ _, _, _, _, _⟩ :: _) _ _; refine kJ rfl rfl rfl rfl rfl rfl rfl rfl rfl rfl rfl ?_) | apply kK) | apply kL | ((first | apply kM | apply kN); (iterate 3 (· exact rfl)); (· first | exact ya)) | refine kO rfl rfl rfl rfl rfl ?_ | refine kP rfl rfl rfl ?_ | ((first | refine kQ rfl rfl ?_ ?_ | refine kR rfl rfl rfl rfl rfl ?_ ?_ | refine kS rfl rfl rfl ?_ ?_) <;> intro hc <;> (try simp only [KL, cond_true, cond_false, beq_iff_eq, bne_iff_ne, ne_eq, reduceCtorEq] at hc) <;> (try (have hT : True := hc; clear hT hc)) <;> (try (exfalso; omega))) | apply kT | apply kU | apply kV | apply kW | refine kX rfl ?_ | apply kY | apply kZ)
  all_goals first | (exfalso; omega) | exact retq rfl (congrArg AV.bool (by rw [Bool.eq_iff_iff]; (try simp only [cond_true, cond_false, decide_eq_true_eq, Bool.not_eq_true', decide_eq_false_iff_not, Bool.and_eq_true, Bool.or_eq_true, true_iff, false_iff, iff_true, iff_false, Bool.false_eq_true, Bool.not_true, Bool.not_false, reduceCtorEq]); (first | done | omega | (constructor <;> intros <;> omega))))
theorem slots_fn (S : System) (h : OkS S) (k : Int) (rs : List Int) (hn : rs.length ≤ 1000000) : Fn Try.prog 14 [.agg (eSystem S), .int .i64 k, .lst 1 (rs.map eI)] (.int .i64 (slotsI S k rs)) := by
  have h2 := h.ol
  by_cases hk : k < 0 ∨ (S.objects.length : Int) ≤ k ∨ (S.objects.getD k.toNat default).kind ≠ 4
  · rw [slotsI, if_pos hk]
    refine fnb Try.func14 (entered_of (by kernel_rfl)) rfl rfl rfl ?_
    repeat' (first | (show W _ _ _ _ _ _; first | apply kA | refine kB rfl ?_ | refine kC rfl rfl ?_ | refine kD rfl rfl ?_ | apply kE | apply kF | apply kG | apply kH | refine kI (by kernel_rfl) (by kernel_rfl) ?_) | (show O _ _ _ _ _ _ _; first | (show O _ _ _ _ (⟨_, .store _ _ _, _, _, _, _⟩ :: _) _ _; refine kJ rfl rfl rfl rfl rfl rfl rfl rfl rfl rfl rfl ?_) | apply kK) | apply kL | ((first | apply kM | apply kN); (iterate 3 (· exact rfl)); (· first | exact ya)) | refine kO rfl rfl rfl rfl rfl ?_ | refine kP rfl rfl rfl ?_ | ((first | refine kQ rfl rfl ?_ ?_ | refine kR rfl rfl rfl rfl rfl ?_ ?_ | refine kS rfl rfl rfl ?_ ?_) <;> intro hc <;> (try simp only [KL, cond_true, cond_false, beq_iff_eq, bne_iff_ne, ne_eq, reduceCtorEq] at hc) <;> (try (have hT : True := hc; clear hT hc)) <;> (try (exfalso; omega))) | apply kT | apply kU | apply kV | apply kW | refine kX rfl ?_ | apply kY | apply kZ)
    all_goals first | (exfalso; omega) | exact retq rfl rfl
  rw [slotsI, if_neg hk]
  have h3 := h.rl k.toNat
  have hB := mx_B (fun i => writes_B S i k (tickI rs i)) (S.objects.getD k.toNat default).readers 0 (by omega) (by omega)
  have c1 := smost_fn (S.objects.getD k.toNat default) 46 [.ref (eSystem S), .ref [.int .i64 k], .ref [.lst 1 (rs.map eI)]] (fun i => writesI S i k (tickI rs i)) (slotsC_fn S h k rs hn) (by omega)
  change Fn _ _ _ (.int .i64 (mxL (fun i => writesI S i k (tickI rs i)) (S.objects.getD k.toNat default).readers)) at c1
  rw [show (S.objects.getD k.toNat default).readers.foldl (fun n i => max n (writesI S i k (tickI rs i))) 0 = mxL (fun i => writesI S i k (tickI rs i)) (S.objects.getD k.toNat default).readers from rfl] at hB
  generalize mxL (fun i => writesI S i k (tickI rs i)) (S.objects.getD k.toNat default).readers = mx at *
  refine fnb Try.func14 (entered_of (by kernel_rfl)) rfl rfl rfl ?_
  repeat' (first | (show W _ _ _ _ _ _; first | apply kA | refine kB rfl ?_ | refine kC rfl rfl ?_ | refine kD rfl rfl ?_ | apply kE | apply kF | apply kG | apply kH | refine kI (by kernel_rfl) (by kernel_rfl) ?_) | (show O _ _ _ _ _ _ _; first | (show O _ _ _ _ (⟨_, .store _ _ _, _, _, _, _⟩ :: _) _ _; refine kJ rfl rfl rfl rfl rfl rfl rfl rfl rfl rfl rfl ?_) | apply kK) | apply kL | ((first | apply kM | apply kN); (iterate 3 (· exact rfl)); (· first | (show Y _ ⟨_, .call ⟨.value _, _, _⟩, _, _, _, _⟩ _ _ _; first | exact q_c (c1) rfl) | exact ya)) | refine kO rfl rfl rfl rfl rfl ?_ | refine kP rfl rfl rfl ?_ | ((first | refine kQ rfl rfl ?_ ?_ | refine kR rfl rfl rfl rfl rfl ?_ ?_ | refine kS rfl rfl rfl ?_ ?_) <;> intro hc <;> (try simp only [KL, cond_true, cond_false, beq_iff_eq, bne_iff_ne, ne_eq, reduceCtorEq] at hc) <;> (try (have hT : True := hc; clear hT hc)) <;> (try (exfalso; omega))) | apply kT | apply kU | apply kV | apply kW | refine kX rfl ?_ | apply kY | apply kZ)
  all_goals first | (exfalso; omega) | exact retq rfl (congrArg (AV.int .i64) (by omega))
theorem capsN_fn (S : System) (h : OkS S) (k : Int) (rs : List Int) (hn : rs.length ≤ 1000000) : Fn Try.prog 15 [.agg (eSystem S), .int .i64 k, .lst 1 (rs.map eI)] (.int .i64 (capsN S k rs)) := by
  have h2 := h.ol
  have c2 := tries39_fn (S.objects.getD k.toNat default).kind
  by_cases hk : k < 0 ∨ (S.objects.length : Int) ≤ k ∨ ¬ (3 ≤ (S.objects.getD k.toNat default).kind ∧ (S.objects.getD k.toNat default).kind ≤ 5)
  · rw [capsN, if_pos hk]
    by_cases hk2 : k < 0 ∨ (S.objects.length : Int) ≤ k
    · refine fnb Try.func15 (entered_of (by kernel_rfl)) rfl rfl rfl ?_
      repeat' (first | (show W _ _ _ _ _ _; first | apply kA | refine kB rfl ?_ | refine kC rfl rfl ?_ | refine kD rfl rfl ?_ | apply kE | apply kF | apply kG | apply kH | refine kI (by kernel_rfl) (by kernel_rfl) ?_) | (show O _ _ _ _ _ _ _; first | (show O _ _ _ _ (⟨_, .store _ _ _, _, _, _, _⟩ :: _) _ _; refine kJ rfl rfl rfl rfl rfl rfl rfl rfl rfl rfl rfl ?_) | apply kK) | apply kL | ((first | apply kM | apply kN); (iterate 3 (· exact rfl)); (· first | exact ya)) | refine kO rfl rfl rfl rfl rfl ?_ | refine kP rfl rfl rfl ?_ | ((first | refine kQ rfl rfl ?_ ?_ | refine kR rfl rfl rfl rfl rfl ?_ ?_ | refine kS rfl rfl rfl ?_ ?_) <;> intro hc <;> (try simp only [KL, cond_true, cond_false, beq_iff_eq, bne_iff_ne, ne_eq, reduceCtorEq] at hc) <;> (try (have hT : True := hc; clear hT hc)) <;> (try (exfalso; omega))) | apply kT | apply kU | apply kV | apply kW | refine kX rfl ?_ | apply kY | apply kZ)
      all_goals first | (exfalso; omega) | exact retq rfl rfl
    · rw [decide_eq_false (by omega)] at c2
      refine fnb Try.func15 (entered_of (by kernel_rfl)) rfl rfl rfl ?_
      repeat' (first | (show W _ _ _ _ _ _; first | apply kA | refine kB rfl ?_ | refine kC rfl rfl ?_ | refine kD rfl rfl ?_ | apply kE | apply kF | apply kG | apply kH | refine kI (by kernel_rfl) (by kernel_rfl) ?_) | (show O _ _ _ _ _ _ _; first | (show O _ _ _ _ (⟨_, .store _ _ _, _, _, _, _⟩ :: _) _ _; refine kJ rfl rfl rfl rfl rfl rfl rfl rfl rfl rfl rfl ?_) | apply kK) | apply kL | ((first | apply kM | apply kN); (iterate 3 (· exact rfl)); (· first | (show Y _ ⟨_, .call ⟨.value _, _, _⟩, _, _, _, _⟩ _ _ _; first | exact q_c (c2) rfl) | exact ya)) | refine kO rfl rfl rfl rfl rfl ?_ | refine kP rfl rfl rfl ?_ | ((first | refine kQ rfl rfl ?_ ?_ | refine kR rfl rfl rfl rfl rfl ?_ ?_ | refine kS rfl rfl rfl ?_ ?_) <;> intro hc <;> (try simp only [KL, cond_true, cond_false, beq_iff_eq, bne_iff_ne, ne_eq, reduceCtorEq] at hc) <;> (try (have hT : True := hc; clear hT hc)) <;> (try (exfalso; omega))) | apply kT | apply kU | apply kV | apply kW | refine kX rfl ?_ | apply kY | apply kZ)
      all_goals first | (exfalso; omega) | exact retq rfl rfl
  rw [capsN, if_neg hk]
  rw [decide_eq_true (by omega)] at c2
  have h3 := h.rl k.toNat
  have hB := mx_B (fun i => failsI_B S i k (tickI rs i)) (S.objects.getD k.toNat default).readers 0 (by omega) (by omega)
  have c1 := smost_fn (S.objects.getD k.toNat default) 49 [.ref (eSystem S), .ref [.int .i64 k], .ref [.lst 1 (rs.map eI)]] (fun i => failsI S i k (tickI rs i)) (capsC_fn S h k rs hn) (by omega)
  change Fn _ _ _ (.int .i64 (mxL (fun i => failsI S i k (tickI rs i)) (S.objects.getD k.toNat default).readers)) at c1
  rw [show (S.objects.getD k.toNat default).readers.foldl (fun n i => max n (failsI S i k (tickI rs i))) 0 = mxL (fun i => failsI S i k (tickI rs i)) (S.objects.getD k.toNat default).readers from rfl] at hB
  generalize mxL (fun i => failsI S i k (tickI rs i)) (S.objects.getD k.toNat default).readers = mx at *
  refine fnb Try.func15 (entered_of (by kernel_rfl)) rfl rfl rfl ?_
  repeat' (first | (show W _ _ _ _ _ _; first | apply kA | refine kB rfl ?_ | refine kC rfl rfl ?_ | refine kD rfl rfl ?_ | apply kE | apply kF | apply kG | apply kH | refine kI (by kernel_rfl) (by kernel_rfl) ?_) | (show O _ _ _ _ _ _ _; first | (show O _ _ _ _ (⟨_, .store _ _ _, _, _, _, _⟩ :: _) _ _; refine kJ rfl rfl rfl rfl rfl rfl rfl rfl rfl rfl rfl ?_) | apply kK) | apply kL | ((first | apply kM | apply kN); (iterate 3 (· exact rfl)); (· first | (show Y _ ⟨_, .call ⟨.value _, _, _⟩, _, _, _, _⟩ _ _ _; first | exact q_c (c1) rfl | exact q_c (c2) rfl) | exact ya)) | refine kO rfl rfl rfl rfl rfl ?_ | refine kP rfl rfl rfl ?_ | ((first | refine kQ rfl rfl ?_ ?_ | refine kR rfl rfl rfl rfl rfl ?_ ?_ | refine kS rfl rfl rfl ?_ ?_) <;> intro hc <;> (try simp only [KL, cond_true, cond_false, beq_iff_eq, bne_iff_ne, ne_eq, reduceCtorEq] at hc) <;> (try (have hT : True := hc; clear hT hc)) <;> (try (exfalso; omega))) | apply kT | apply kU | apply kV | apply kW | refine kX rfl ?_ | apply kY | apply kZ)
  all_goals first | (exfalso; omega) | exact retq rfl (congrArg (AV.int .i64) (by omega))
theorem rticks_fn (rs : List Int) (i : Int) (hn : rs.length ≤ 1000000) : Fn Try.prog 16 [.lst 1 (rs.map eI), .int .i64 i] (.int .i64 (tickI rs i)) := by
  by_cases h : i < 0 ∨ (rs.length : Int) ≤ i
  · rw [tickI, if_pos h]
    refine fnb Try.func16 (entered_of (by kernel_rfl)) rfl rfl rfl ?_
    repeat' (first | (show W _ _ _ _ _ _; first | apply kA | refine kB rfl ?_ | refine kC rfl rfl ?_ | refine kD rfl rfl ?_ | apply kE | apply kF | apply kG | apply kH | refine kI (by kernel_rfl) (by kernel_rfl) ?_) | (show O _ _ _ _ _ _ _; first | (show O _ _ _ _ (⟨_, .store _ _ _, _, _, _, _⟩ :: _) _ _; refine kJ rfl rfl rfl rfl rfl rfl rfl rfl rfl rfl rfl ?_) | apply kK) | apply kL | ((first | apply kM | apply kN); (iterate 3 (· exact rfl)); (· first | exact ya)) | refine kO rfl rfl rfl rfl rfl ?_ | refine kP rfl rfl rfl ?_ | ((first | refine kQ rfl rfl ?_ ?_ | refine kR rfl rfl rfl rfl rfl ?_ ?_ | refine kS rfl rfl rfl ?_ ?_) <;> intro hc <;> (try simp only [KL, cond_true, cond_false, beq_iff_eq, bne_iff_ne, ne_eq, reduceCtorEq] at hc) <;> (try (have hT : True := hc; clear hT hc)) <;> (try (exfalso; omega))) | apply kT | apply kU | apply kV | apply kW | refine kX rfl ?_ | apply kY | apply kZ)
    all_goals first | (exfalso; omega) | exact retq rfl rfl
  · rw [tickI, if_neg h]
    refine fnb Try.func16 (entered_of (by kernel_rfl)) rfl rfl rfl ?_
    repeat' (first | (show W _ _ _ _ _ _; first | apply kA | refine kB rfl ?_ | refine kC rfl rfl ?_ | refine kD rfl rfl ?_ | apply kE | apply kF | apply kG | apply kH | refine kI (by kernel_rfl) (by kernel_rfl) ?_) | (show O _ _ _ _ _ _ _; first | (show O _ _ _ _ (⟨_, .store _ _ _, _, _, _, _⟩ :: _) _ _; refine kJ rfl rfl rfl rfl rfl rfl rfl rfl rfl rfl rfl ?_) | apply kK) | apply kL | ((first | apply kM | apply kN); (iterate 3 (· exact rfl)); (· first | exact ya)) | refine kO rfl rfl rfl rfl rfl ?_ | refine kP rfl rfl rfl ?_ | ((first | refine kQ rfl rfl ?_ ?_ | refine kR rfl rfl rfl rfl rfl ?_ ?_ | refine kS rfl rfl rfl ?_ ?_) <;> intro hc <;> (try simp only [KL, cond_true, cond_false, beq_iff_eq, bne_iff_ne, ne_eq, reduceCtorEq] at hc) <;> (try (have hT : True := hc; clear hT hc)) <;> (try (exfalso; omega))) | apply kT | apply kU | apply kV | apply kW | refine kX rfl ?_ | apply kY | apply kZ)
    all_goals first | (exfalso; omega) | exact retq rfl rfl
def oa39 : Object := ⟨4, 1, 2, 1, 0, [1], 0, []⟩
def ob39 : Object := ⟨3, 1, 0, 1, 0, [1], 0, []⟩
theorem oka39 : OkS (pairS oa39) := ok2 _ (by decide) (by decide) (by decide)
theorem okb39 : OkS (pairS ob39) := ok2 _ (by decide) (by decide) (by decide)
theorem awake39_fn : Fn Try.prog 13 [] (.bool true) := by
  have c1 := pair_fn oa39
  have c2 := pair_fn ob39
  have c3 := slots_fn _ oka39 0 [0, 25] (by decide)
  rw [show slotsI (pairS oa39) 0 [0, 25] = 5 from by decide +kernel] at c3
  have c4 := capsN_fn _ okb39 0 [0, 25] (by decide)
  rw [show capsN (pairS ob39) 0 [0, 25] = 4 from by decide +kernel] at c4
  have c5 : Fn Try.prog 44 [.agg [.int .i64 4, .int .i64 1, .int .i64 2, .int .i64 1, .int .u32 0, .lst 1 [[.int .u32 1]], .int .i64 0, .nils]] (.agg (eSystem (pairS oa39))) := c1.le (by repeat' (first | exact L2.nil _ | refine L2.cons ?_ ?_ | exact LeV.of_eq rfl | exact LeV.nils _ | refine LeV.agg ?_))
  have c6 : Fn Try.prog 44 [.agg [.int .i64 3, .int .i64 1, .int .i64 0, .int .i64 1, .int .u32 0, .lst 1 [[.int .u32 1]], .int .i64 0, .nils]] (.agg (eSystem (pairS ob39))) := c2.le (by repeat' (first | exact L2.nil _ | refine L2.cons ?_ ?_ | exact LeV.of_eq rfl | exact LeV.nils _ | refine LeV.agg ?_))
  refine fnb Try.func13 (entered_of (by kernel_rfl)) rfl rfl rfl ?_
  repeat' (first | (show W _ _ _ _ _ _; first | apply kA | refine kB rfl ?_ | refine kC rfl rfl ?_ | refine kD rfl rfl ?_ | apply kE | apply kF | apply kG | apply kH | refine kI (by kernel_rfl) (by kernel_rfl) ?_) | (show O _ _ _ _ _ _ _; first | (show O _ _ _ _ (⟨_, .alloc _, _, _, _, _⟩ :: _) _ _; first | refine ao_alloc (id := 20) rfl rfl rfl rfl rfl rfl rfl ?_ | refine ao_alloc (id := 21) rfl rfl rfl rfl rfl rfl rfl ?_) | (show O _ _ _ _ (⟨_, .store _ _ _, _, _, _, _⟩ :: _) _ _; refine kJ rfl rfl rfl rfl rfl rfl rfl rfl rfl rfl rfl ?_) | apply kK) | apply kL | ((first | apply kM | apply kN); (iterate 3 (· exact rfl)); (· first | (show Y _ ⟨_, .call ⟨.value _, _, _⟩, _, _, _, _⟩ _ _ _; first | exact q_c (c5) rfl | exact q_c (c6) rfl | exact q_c (c3) rfl | exact q_c (c4) rfl) | exact ya)) | refine kO rfl rfl rfl rfl rfl ?_ | refine kP rfl rfl rfl ?_ | ((first | refine kQ rfl rfl ?_ ?_ | refine kR rfl rfl rfl rfl rfl ?_ ?_ | refine kS rfl rfl rfl ?_ ?_) <;> intro hc <;> (try simp only [KL, cond_true, cond_false, beq_iff_eq, bne_iff_ne, ne_eq, reduceCtorEq] at hc) <;> (try (have hT : True := hc; clear hT hc)) <;> (try (exfalso; omega))) | apply kT | apply kU | apply kV | apply kW | refine kX rfl ?_ | apply kY | apply kZ)
  all_goals exact retq rfl rfl
end Go.Proofs.Ytkkmageogkkchaa
