/- Registers by the document: R22.Assign; LinregAssigns. No condition but sizes. -/
import Derived.Test.YthmifkibfpcncaaLg
namespace Go.Proofs.Ythmifkibfpcncaa
set_option linter.unusedSimpArgs false
set_option linter.unusedVariables false
set_option maxRecDepth 100000
set_option linter.unusedSimpArgs false
set_option linter.unusedVariables false
set_option maxRecDepth 100000
open Go.RowKit
def fndI : Option Nat → Int
  | none => -1
  | some m => (m : Int)
theorem find_down {p : Nat → Bool} {k n : Nat} (h : k ≤ n) : findQ p k (n + 1 - k) = if p k = true then some k else findQ p (k + 1) (n + 1 - (k + 1)) := by
  rw [show n + 1 - k = (n + 1 - (k + 1)) + 1 by omega, findQ]
set_option maxHeartbeats 8000000 in
theorem rassign_fn (init : List Int) (l : List Call) (hl : l.length ≤ 1000000) (hF : FitP l) : Fn Try.prog 13 [.lst 1 (init.map eU), .lst 7 (l.map eCall)] (.tup [.lst 1 (((asgTo init (wrC l) (rdC l) (rdC l).length).getD []).map eN), .bool (asgTo init (wrC l) (rdC l) (rdC l).length).isSome]) := by
  have c1 := rsplit_fn l hl
  have hws := ws_of hF
  have lw : (wrC l).length ≤ 1000000 := by have := List.length_filter_le isW (sortC l); rw [sortC_len] at this; rw [wrC]; omega
  have lr : (rdC l).length ≤ 1000000 := by have := List.length_filter_le isR (sortC l); rw [sortC_len] at this; rw [rdC]; omega
  generalize wrC l = ws at *
  generalize rdC l = rs at *
  refine fnb Try.func13 (entered_of (by kernel_rfl)) rfl rfl rfl ?_
  repeat' (first | (show W _ _ _ _ _ _; first | apply kA | refine kB rfl ?_ | refine kC rfl rfl ?_ | refine kD rfl rfl ?_ | apply kE | apply kF | apply kG | apply kH | refine kI (by kernel_rfl) (by kernel_rfl) ?_ | apply wscope | apply wlabel) | (show O _ _ _ _ _ _ _; first | (show O _ _ _ _ (⟨_, .store _ _ _, _, _, _, _⟩ :: _) _ _; refine kJ rfl rfl rfl rfl rfl rfl rfl rfl rfl rfl rfl ?_) | apply kK) | apply kL | ((first | apply kM | apply kN); (iterate 3 (· exact rfl)); (· first | (show Y _ ⟨_, .call ⟨.value _, _, _⟩, _, _, _, _⟩ _ _ _; first | exact q_c (c1) rfl) | exact ya)) | refine kO rfl rfl rfl rfl rfl ?_ | refine kP rfl rfl rfl ?_ | ((first | refine kQ rfl rfl ?_ ?_ | refine kR rfl rfl rfl rfl rfl ?_ ?_ | refine kS rfl rfl rfl ?_ ?_) <;> intro hc <;> (try simp only [KL, cond_true, cond_false, beq_iff_eq, bne_iff_ne, ne_eq, reduceCtorEq] at hc) <;> (try (have hT : True := hc; clear hT hc)) <;> (try (exfalso; omega))) | apply kT | apply kU | apply kV | apply kW | refine kX rfl ?_ | apply kY | apply kZ | apply rSc | apply nSc)
  all_goals first | (exfalso; omega) | skip
  refine wturn (turn_own eN (t := 8) rfl 10 3 1 (by omega) rfl) ?_
  refine wloop (fun z : Nat × List Nat => ([(0, .lst 1 (init.map eU)), (6, .lst 7 (ws.map eCall)), (7, .lst 7 (rs.map eCall)), (8, .own 10), (20, .lst 7 (rs.map eCall)), (21, .int .i64 rs.length), (22, .int .i64 z.1)], [(10, .row 3 1 (z.2.map eN))])) (fun z => z.1 ≤ rs.length ∧ asgTo init ws rs z.1 = some z.2) (fun z => rs.length - z.1) (0, []) ⟨Nat.zero_le _, rfl⟩ les leh (fun z hz => ?_)
  obtain ⟨i, out⟩ := z
  obtain ⟨hil, ho⟩ := hz
  simp only at hil ho ⊢
  have hol := asg_len ho
  rcases Nat.lt_or_eq_of_le hil with hlt | rfl
  · have hnx := asg_next ho
    rw [← pick_all hws] at hnx
    repeat' (first | (show W _ _ _ _ _ _; first | apply kA | refine kB rfl ?_ | refine kC rfl rfl ?_ | refine kD rfl rfl ?_ | apply kE | apply kF | apply kG | apply kH | refine kI (by kernel_rfl) (by kernel_rfl) ?_ | apply wscope | apply wlabel) | (show O _ _ _ _ _ _ _; first | (show O _ _ _ _ (⟨_, .alloc _, _, _, _, _⟩ :: _) _ _; first | refine ao_alloc (id := 20) rfl rfl rfl rfl rfl rfl rfl ?_) | (show O _ _ _ _ (⟨_, .store _ _ _, _, _, _, _⟩ :: _) _ _; refine kJ rfl rfl rfl rfl rfl rfl rfl rfl rfl rfl rfl ?_) | apply kK) | apply kL | ((first | apply kM | apply kN); (iterate 3 (· exact rfl)); (· first | exact ya)) | refine kO rfl rfl rfl rfl rfl ?_ | refine kP rfl rfl rfl ?_ | ((first | refine kQ rfl rfl ?_ ?_ | refine kR rfl rfl rfl rfl rfl ?_ ?_ | refine kS rfl rfl rfl ?_ ?_) <;> intro hc <;> (try simp only [KL, cond_true, cond_false, beq_iff_eq, bne_iff_ne, ne_eq, reduceCtorEq] at hc) <;> (try (have hT : True := hc; clear hT hc)) <;> (try (exfalso; omega))) | apply kT | apply kU | apply kV | apply kW | refine kX rfl ?_ | apply kY | apply kZ | apply rSc | apply nSc)
    all_goals first | (exfalso; omega) | skip
    refine wloop (fun z : Nat × Int => ([(0, .lst 1 (init.map eU)), (6, .lst 7 (ws.map eCall)), (7, .lst 7 (rs.map eCall)), (8, .own 10), (9, .int .i64 i), (10, .ptr 20 0), (11, .int .i64 z.2), (12, .int .i64 ((z.1 : Int) - 1)), (20, .lst 7 (rs.map eCall)), (21, .int .i64 rs.length), (22, .int .i64 i)], [(20, .blk 33 (eCall (rs.getD i default))), (10, .row 3 1 (out.map eN))])) (fun z => z.1 ≤ ws.length + 1 ∧ z.2 = fndI (findQ (allQ init ws rs out i) z.1 (ws.length + 1 - z.1))) (fun z => z.1) (ws.length + 1, -1) ⟨Nat.le_refl _, by rw [Nat.sub_self]; rfl⟩ les leh (fun z hz => ?_)
    obtain ⟨kk, fd⟩ := z
    obtain ⟨hk1, hk2⟩ := hz
    simp only at hk1 hk2 ⊢
    rcases kk with _ | k
    · rw [Nat.sub_zero] at hk2
      cases hfq : findQ (allQ init ws rs out i) 0 (ws.length + 1) with
      | none =>
        rw [hfq] at hk2 hnx
        have hk3 : fd = -1 := hk2
        subst hk3
        rw [asgTo_no hnx rs.length hlt, Option.getD_none, Option.isSome_none]
        repeat' (first | (show W _ _ _ _ _ _; first | apply kA | refine kB rfl ?_ | refine kC rfl rfl ?_ | refine kD rfl rfl ?_ | apply kE | apply kF | apply kG | apply kH | refine kI (by kernel_rfl) (by kernel_rfl) ?_ | apply wscope | apply wlabel) | (show O _ _ _ _ _ _ _; first | (show O _ _ _ _ (⟨_, .store _ _ _, _, _, _, _⟩ :: _) _ _; refine kJ rfl rfl rfl rfl rfl rfl rfl rfl rfl rfl rfl ?_) | apply kK) | apply kL | ((first | apply kM | apply kN); (iterate 3 (· exact rfl)); (· first | exact ya)) | refine kO rfl rfl rfl rfl rfl ?_ | refine kP rfl rfl rfl ?_ | ((first | refine kQ rfl rfl ?_ ?_ | refine kR rfl rfl rfl rfl rfl ?_ ?_ | refine kS rfl rfl rfl ?_ ?_) <;> intro hc <;> (try simp only [KL, cond_true, cond_false, beq_iff_eq, bne_iff_ne, ne_eq, reduceCtorEq] at hc) <;> (try (have hT : True := hc; clear hT hc)) <;> (try (exfalso; omega))) | apply kT | apply kU | apply kV | apply kW | refine kX rfl ?_ | apply kY | apply kZ | apply rSc | apply nSc)
        all_goals first | (exfalso; omega) | skip
        refine retT (fun _ => turn_nil 1 (t := 4) rfl) ?_
        exact retq rfl rfl
      | some m =>
        rw [hfq] at hk2 hnx
        have hk3 : fd = (m : Int) := hk2
        subst hk3
        rw [Option.bind_some] at hnx
        repeat' (first | (show W _ _ _ _ _ _; first | apply kA | refine kB rfl ?_ | refine kC rfl rfl ?_ | refine kD rfl rfl ?_ | apply kE | apply kF | apply kG | apply kH | refine kI (by kernel_rfl) (by kernel_rfl) ?_ | apply wscope | apply wlabel) | (show O _ _ _ _ _ _ _; first | (show O _ _ _ _ (⟨_, .store _ _ _, _, _, _, _⟩ :: _) _ _; refine kJ rfl rfl rfl rfl rfl rfl rfl rfl rfl rfl rfl ?_) | apply kK) | apply kL | ((first | apply kM | apply kN); (iterate 3 (· exact rfl)); (· first | exact ya)) | refine kO rfl rfl rfl rfl rfl ?_ | refine kP rfl rfl rfl ?_ | ((first | refine kQ rfl rfl ?_ ?_ | refine kR rfl rfl rfl rfl rfl ?_ ?_ | refine kS rfl rfl rfl ?_ ?_) <;> intro hc <;> (try simp only [KL, cond_true, cond_false, beq_iff_eq, bne_iff_ne, ne_eq, reduceCtorEq] at hc) <;> (try (have hT : True := hc; clear hT hc)) <;> (try (exfalso; omega))) | apply kT | apply kU | apply kV | apply kW | refine kX rfl ?_ | apply kY | apply kZ | apply rSc | apply nSc)
        all_goals first | (exfalso; omega) | skip
        (refine ao_ap (id := 10) (ys := [m]) (by_ := 8) rfl rfl rfl rfl rfl rfl rfl rfl rfl rfl (fun _ _ => rfl) ?_ ?_ rfl rfl rfl rfl rfl ?_; (· (first | omega | ((try simp only [List.length_cons, List.length_nil, List.length_append, List.length_map]) <;> omega))); (· (first | omega | ((try simp only [List.length_cons, List.length_nil, List.length_append, List.length_map]) <;> omega))))
        repeat' (first | (show W _ _ _ _ _ _; first | apply kA | refine kB rfl ?_ | refine kC rfl rfl ?_ | refine kD rfl rfl ?_ | apply kE | apply kF | apply kG | apply kH | refine kI (by kernel_rfl) (by kernel_rfl) ?_ | apply wscope | apply wlabel) | (show O _ _ _ _ _ _ _; first | (show O _ _ _ _ (⟨_, .store _ _ _, _, _, _, _⟩ :: _) _ _; refine kJ rfl rfl rfl rfl rfl rfl rfl rfl rfl rfl rfl ?_) | apply kK) | apply kL | ((first | apply kM | apply kN); (iterate 3 (· exact rfl)); (· first | exact ya)) | refine kO rfl rfl rfl rfl rfl ?_ | refine kP rfl rfl rfl ?_ | ((first | refine kQ rfl rfl ?_ ?_ | refine kR rfl rfl rfl rfl rfl ?_ ?_ | refine kS rfl rfl rfl ?_ ?_) <;> intro hc <;> (try simp only [KL, cond_true, cond_false, beq_iff_eq, bne_iff_ne, ne_eq, reduceCtorEq] at hc) <;> (try (have hT : True := hc; clear hT hc)) <;> (try (exfalso; omega))) | apply kT | apply kU | apply kV | apply kW | refine kX rfl ?_ | apply kY | apply kZ | apply rSc | apply nSc)
        exact ⟨(i + 1, out ++ [m]), ⟨by simp only; omega, hnx⟩, by simp only; omega, les, leh⟩
    · have hkw : k ≤ ws.length := by omega
      have c2 := may_fn init ws k (rs.getD i default) lw hkw
      have hdn := find_down (p := allQ init ws rs out i) hkw
      refine wle (s' := [(0, .lst 1 (init.map eU)), (6, .lst 7 (ws.map eCall)), (7, .lst 7 (rs.map eCall)), (8, .own 10), (9, .int .i64 i), (10, .ptr 20 0), (11, .int .i64 fd), (12, .int .i64 (k : Nat)), (20, .lst 7 (rs.map eCall)), (21, .int .i64 rs.length), (22, .int .i64 i)]) (h' := [(20, .blk 33 (eCall (rs.getD i default))), (10, .row 3 1 (out.map eN))]) les leh ?_
      repeat' (first | (show W _ _ _ _ _ _; first | apply kA | refine kB rfl ?_ | refine kC rfl rfl ?_ | refine kD rfl rfl ?_ | apply kE | apply kF | apply kG | apply kH | refine kI (by kernel_rfl) (by kernel_rfl) ?_ | apply wscope | apply wlabel) | (show O _ _ _ _ _ _ _; first | (show O _ _ _ _ (⟨_, .store _ _ _, _, _, _, _⟩ :: _) _ _; refine kJ rfl rfl rfl rfl rfl rfl rfl rfl rfl rfl rfl ?_) | apply kK) | apply kL | ((first | apply kM | apply kN); (iterate 3 (· exact rfl)); (· first | (show Y _ ⟨_, .call ⟨.value _, _, _⟩, _, _, _, _⟩ _ _ _; first | exact q_c (c2) rfl) | exact ya)) | refine kO rfl rfl rfl rfl rfl ?_ | refine kP rfl rfl rfl ?_ | ((first | refine kQ rfl rfl ?_ ?_ | refine kR rfl rfl rfl rfl rfl ?_ ?_ | refine kS rfl rfl rfl ?_ ?_) <;> intro hc <;> (try simp only [KL, cond_true, cond_false, beq_iff_eq, bne_iff_ne, ne_eq, reduceCtorEq] at hc) <;> (try (have hT : True := hc; clear hT hc)) <;> (try (exfalso; omega))) | apply kT | apply kU | apply kV | apply kW | refine kX rfl ?_ | apply kY | apply kZ | apply rSc | apply nSc)
      all_goals first | (exfalso; omega) | skip
      refine wloop (fun z : Nat × Bool => ([(0, .lst 1 (init.map eU)), (6, .lst 7 (ws.map eCall)), (7, .lst 7 (rs.map eCall)), (8, .own 10), (9, .int .i64 i), (10, .ptr 20 0), (11, .int .i64 fd), (12, .int .i64 (k : Nat)), (13, .bool z.2), (14, .int .i64 z.1), (20, .lst 7 (rs.map eCall)), (21, .int .i64 rs.length), (22, .int .i64 i)], [(20, .blk 33 (eCall (rs.getD i default))), (10, .row 3 1 (out.map eN))])) (fun z => z.1 ≤ i ∧ z.2 = okQ (mayB init ws k (rs.getD i default)) rs (rs.getD i default) out k z.1) (fun z => i - z.1) (0, mayB init ws k (rs.getD i default)) ⟨Nat.zero_le _, rfl⟩ les leh (fun z hz => ?_)
      obtain ⟨j, b⟩ := z
      obtain ⟨hj1, hj2⟩ := hz
      simp only at hj1 hj2 ⊢
      rcases Nat.lt_or_eq_of_le hj1 with hjl | rfl
      · have c3 := rbef_fn (rs.getD j default) (rs.getD i default)
        have hn : okQ (mayB init ws k (rs.getD i default)) rs (rs.getD i default) out k (j + 1) = (b && (!befB (rs.getD j default) (rs.getD i default) || decide (out.getD j default ≤ k))) := by rw [okQ, ← hj2]
        cases b
        · rw [Bool.false_and] at hn
          repeat' (first | (show W _ _ _ _ _ _; first | apply kA | refine kB rfl ?_ | refine kC rfl rfl ?_ | refine kD rfl rfl ?_ | apply kE | apply kF | apply kG | apply kH | refine kI (by kernel_rfl) (by kernel_rfl) ?_ | apply wscope | apply wlabel) | (show O _ _ _ _ _ _ _; first | (show O _ _ _ _ (⟨_, .store _ _ _, _, _, _, _⟩ :: _) _ _; refine kJ rfl rfl rfl rfl rfl rfl rfl rfl rfl rfl rfl ?_) | apply kK) | apply kL | ((first | apply kM | apply kN); (iterate 3 (· exact rfl)); (· first | (show Y _ ⟨_, .call ⟨.value _, _, _⟩, _, _, _, _⟩ _ _ _; first | exact q_c (c3) rfl) | exact ya)) | refine kO rfl rfl rfl rfl rfl ?_ | refine kP rfl rfl rfl ?_ | ((first | refine kQ rfl rfl ?_ ?_ | refine kR rfl rfl rfl rfl rfl ?_ ?_ | refine kS rfl rfl rfl ?_ ?_) <;> intro hc <;> (try simp only [KL, cond_true, cond_false, beq_iff_eq, bne_iff_ne, ne_eq, reduceCtorEq] at hc) <;> (try (have hT : True := hc; clear hT hc)) <;> (try (exfalso; omega))) | apply kT | apply kU | apply kV | apply kW | refine kX rfl ?_ | apply kY | apply kZ | apply rSc | apply nSc)
          all_goals first | (exfalso; omega) | exact ⟨(j + 1, false), ⟨by simp only; omega, hn.symm⟩, by simp only; omega, les, leh⟩
        cases hb : befB (rs.getD j default) (rs.getD i default) <;> rw [hb] at c3 hn
        · have hn' : true = okQ (mayB init ws k (rs.getD i default)) rs (rs.getD i default) out k (j + 1) := by rw [hn]; rfl
          repeat' (first | (show W _ _ _ _ _ _; first | apply kA | refine kB rfl ?_ | refine kC rfl rfl ?_ | refine kD rfl rfl ?_ | apply kE | apply kF | apply kG | apply kH | refine kI (by kernel_rfl) (by kernel_rfl) ?_ | apply wscope | apply wlabel) | (show O _ _ _ _ _ _ _; first | (show O _ _ _ _ (⟨_, .store _ _ _, _, _, _, _⟩ :: _) _ _; refine kJ rfl rfl rfl rfl rfl rfl rfl rfl rfl rfl rfl ?_) | apply kK) | apply kL | ((first | apply kM | apply kN); (iterate 3 (· exact rfl)); (· first | (show Y _ ⟨_, .call ⟨.value _, _, _⟩, _, _, _, _⟩ _ _ _; first | exact q_c (c3) rfl) | exact ya)) | refine kO rfl rfl rfl rfl rfl ?_ | refine kP rfl rfl rfl ?_ | ((first | refine kQ rfl rfl ?_ ?_ | refine kR rfl rfl rfl rfl rfl ?_ ?_ | refine kS rfl rfl rfl ?_ ?_) <;> intro hc <;> (try simp only [KL, cond_true, cond_false, beq_iff_eq, bne_iff_ne, ne_eq, reduceCtorEq] at hc) <;> (try (have hT : True := hc; clear hT hc)) <;> (try (exfalso; omega))) | apply kT | apply kU | apply kV | apply kW | refine kX rfl ?_ | apply kY | apply kZ | apply rSc | apply nSc)
          all_goals first | (exfalso; omega) | exact ⟨(j + 1, true), ⟨by simp only; omega, hn'⟩, by simp only; omega, les, leh⟩
        · have hn' : decide (((out.getD j default : Nat) : Int) ≤ (k : Int)) = okQ (mayB init ws k (rs.getD i default)) rs (rs.getD i default) out k (j + 1) := by
            rw [hn, Bool.not_true, Bool.false_or, Bool.true_and]
            exact decide_eq_decide.2 (by omega)
          repeat' (first | (show W _ _ _ _ _ _; first | apply kA | refine kB rfl ?_ | refine kC rfl rfl ?_ | refine kD rfl rfl ?_ | apply kE | apply kF | apply kG | apply kH | refine kI (by kernel_rfl) (by kernel_rfl) ?_ | apply wscope | apply wlabel) | (show O _ _ _ _ _ _ _; first | (show O _ _ _ _ (⟨_, .store _ _ _, _, _, _, _⟩ :: _) _ _; refine kJ rfl rfl rfl rfl rfl rfl rfl rfl rfl rfl rfl ?_) | apply kK) | apply kL | ((first | apply kM | apply kN); (iterate 3 (· exact rfl)); (· first | (show Y _ ⟨_, .call ⟨.value _, _, _⟩, _, _, _, _⟩ _ _ _; first | exact q_c (c3) rfl) | exact ya)) | refine kO rfl rfl rfl rfl rfl ?_ | refine kP rfl rfl rfl ?_ | ((first | refine kQ rfl rfl ?_ ?_ | refine kR rfl rfl rfl rfl rfl ?_ ?_ | refine kS rfl rfl rfl ?_ ?_) <;> intro hc <;> (try simp only [KL, cond_true, cond_false, beq_iff_eq, bne_iff_ne, ne_eq, reduceCtorEq] at hc) <;> (try (have hT : True := hc; clear hT hc)) <;> (try (exfalso; omega))) | apply kT | apply kU | apply kV | apply kW | refine kX rfl ?_ | apply kY | apply kZ | apply rSc | apply nSc)
          all_goals first | (exfalso; omega) | exact ⟨(j + 1, decide (((out.getD j default : Nat) : Int) ≤ (k : Int))), ⟨by simp only; omega, hn'⟩, by simp only; omega, les, leh⟩
      · have hal : allQ init ws rs out j k = b := hj2.symm
        rw [hal] at hdn
        cases b
        · rw [if_neg (by decide)] at hdn
          repeat' (first | (show W _ _ _ _ _ _; first | apply kA | refine kB rfl ?_ | refine kC rfl rfl ?_ | refine kD rfl rfl ?_ | apply kE | apply kF | apply kG | apply kH | refine kI (by kernel_rfl) (by kernel_rfl) ?_ | apply wscope | apply wlabel) | (show O _ _ _ _ _ _ _; first | (show O _ _ _ _ (⟨_, .store _ _ _, _, _, _, _⟩ :: _) _ _; refine kJ rfl rfl rfl rfl rfl rfl rfl rfl rfl rfl rfl ?_) | apply kK) | apply kL | ((first | apply kM | apply kN); (iterate 3 (· exact rfl)); (· first | exact ya)) | refine kO rfl rfl rfl rfl rfl ?_ | refine kP rfl rfl rfl ?_ | ((first | refine kQ rfl rfl ?_ ?_ | refine kR rfl rfl rfl rfl rfl ?_ ?_ | refine kS rfl rfl rfl ?_ ?_) <;> intro hc <;> (try simp only [KL, cond_true, cond_false, beq_iff_eq, bne_iff_ne, ne_eq, reduceCtorEq] at hc) <;> (try (have hT : True := hc; clear hT hc)) <;> (try (exfalso; omega))) | apply kT | apply kU | apply kV | apply kW | refine kX rfl ?_ | apply kY | apply kZ | apply rSc | apply nSc)
          all_goals first | (exfalso; omega) | exact ⟨(k, fd), ⟨by simp only; omega, by simp only; rw [hdn]; exact hk2⟩, by simp only; omega, les, leh⟩
        · rw [if_pos rfl] at hdn
          repeat' (first | (show W _ _ _ _ _ _; first | apply kA | refine kB rfl ?_ | refine kC rfl rfl ?_ | refine kD rfl rfl ?_ | apply kE | apply kF | apply kG | apply kH | refine kI (by kernel_rfl) (by kernel_rfl) ?_ | apply wscope | apply wlabel) | (show O _ _ _ _ _ _ _; first | (show O _ _ _ _ (⟨_, .store _ _ _, _, _, _, _⟩ :: _) _ _; refine kJ rfl rfl rfl rfl rfl rfl rfl rfl rfl rfl rfl ?_) | apply kK) | apply kL | ((first | apply kM | apply kN); (iterate 3 (· exact rfl)); (· first | exact ya)) | refine kO rfl rfl rfl rfl rfl ?_ | refine kP rfl rfl rfl ?_ | ((first | refine kQ rfl rfl ?_ ?_ | refine kR rfl rfl rfl rfl rfl ?_ ?_ | refine kS rfl rfl rfl ?_ ?_) <;> intro hc <;> (try simp only [KL, cond_true, cond_false, beq_iff_eq, bne_iff_ne, ne_eq, reduceCtorEq] at hc) <;> (try (have hT : True := hc; clear hT hc)) <;> (try (exfalso; omega))) | apply kT | apply kU | apply kV | apply kW | refine kX rfl ?_ | apply kY | apply kZ | apply rSc | apply nSc)
          all_goals first | (exfalso; omega) | exact ⟨(k, (k : Int)), ⟨by simp only; omega, by simp only; rw [hdn]; rfl⟩, by simp only; omega, les, leh⟩
  · rw [ho, Option.getD_some, Option.isSome_some]
    repeat' (first | (show W _ _ _ _ _ _; first | apply kA | refine kB rfl ?_ | refine kC rfl rfl ?_ | refine kD rfl rfl ?_ | apply kE | apply kF | apply kG | apply kH | refine kI (by kernel_rfl) (by kernel_rfl) ?_ | apply wscope | apply wlabel) | (show O _ _ _ _ _ _ _; first | (show O _ _ _ _ (⟨_, .store _ _ _, _, _, _, _⟩ :: _) _ _; refine kJ rfl rfl rfl rfl rfl rfl rfl rfl rfl rfl rfl ?_) | apply kK) | apply kL | ((first | apply kM | apply kN); (iterate 3 (· exact rfl)); (· first | exact ya)) | refine kO rfl rfl rfl rfl rfl ?_ | refine kP rfl rfl rfl ?_ | ((first | refine kQ rfl rfl ?_ ?_ | refine kR rfl rfl rfl rfl rfl ?_ ?_ | refine kS rfl rfl rfl ?_ ?_) <;> intro hc <;> (try simp only [KL, cond_true, cond_false, beq_iff_eq, bne_iff_ne, ne_eq, reduceCtorEq] at hc) <;> (try (have hT : True := hc; clear hT hc)) <;> (try (exfalso; omega))) | apply kT | apply kU | apply kV | apply kW | refine kX rfl ?_ | apply kY | apply kZ | apply rSc | apply nSc)
    all_goals first | (exfalso; omega) | skip
    refine retT (fun _ => turn_freeze (t := 4) rfl rfl rfl) ?_
    exact retq rfl rfl
set_option maxHeartbeats 2000000 in
theorem linregAssigns_fn (init : List Int) (l : List Call) : Fn Try.prog 4 [.lst 1 (init.map eU), .lst 7 (l.map eCall)] (.bool true) := by
  have c0 := awake22_fn
  have c1 := short_fn l 40 (by omega)
  refine fnb Try.func4 (entered_of (by kernel_rfl)) rfl rfl rfl ?_
  by_cases hi : init.length ≤ 100
  case neg =>
    repeat' (first | (show W _ _ _ _ _ _; first | apply kA | refine kB rfl ?_ | refine kC rfl rfl ?_ | refine kD rfl rfl ?_ | apply kE | apply kF | apply kG | apply kH | refine kI (by kernel_rfl) (by kernel_rfl) ?_) | (show O _ _ _ _ _ _ _; first | (show O _ _ _ _ (⟨_, .store _ _ _, _, _, _, _⟩ :: _) _ _; refine kJ rfl rfl rfl rfl rfl rfl rfl rfl rfl rfl rfl ?_) | apply kK) | apply kL | ((first | apply kM | apply kN); (iterate 3 (· exact rfl)); (· first | (show Y _ ⟨_, .call ⟨.value _, _, _⟩, _, _, _, _⟩ _ _ _; first | exact q_c (c0) rfl | exact q_c (c1) rfl) | exact ya)) | refine kO rfl rfl rfl rfl rfl ?_ | refine kP rfl rfl rfl ?_ | ((first | refine kQ rfl rfl ?_ ?_ | refine kR rfl rfl rfl rfl rfl ?_ ?_ | refine kS rfl rfl rfl ?_ ?_) <;> intro hc <;> (try simp only [KL, cond_true, cond_false, beq_iff_eq, bne_iff_ne, ne_eq, reduceCtorEq] at hc) <;> (try (have hT : True := hc; clear hT hc)) <;> (try (exfalso; omega))) | apply kT | apply kU | apply kV | apply kW | refine kX rfl ?_ | apply kY | apply kZ)
    all_goals first | (exfalso; omega) | exact retq rfl rfl | (exfalso; revert hc; decide)
  cases hs : shortB l 40 <;> rw [hs] at c1
  · repeat' (first | (show W _ _ _ _ _ _; first | apply kA | refine kB rfl ?_ | refine kC rfl rfl ?_ | refine kD rfl rfl ?_ | apply kE | apply kF | apply kG | apply kH | refine kI (by kernel_rfl) (by kernel_rfl) ?_) | (show O _ _ _ _ _ _ _; first | (show O _ _ _ _ (⟨_, .store _ _ _, _, _, _, _⟩ :: _) _ _; refine kJ rfl rfl rfl rfl rfl rfl rfl rfl rfl rfl rfl ?_) | apply kK) | apply kL | ((first | apply kM | apply kN); (iterate 3 (· exact rfl)); (· first | (show Y _ ⟨_, .call ⟨.value _, _, _⟩, _, _, _, _⟩ _ _ _; first | exact q_c (c0) rfl | exact q_c (c1) rfl) | exact ya)) | refine kO rfl rfl rfl rfl rfl ?_ | refine kP rfl rfl rfl ?_ | ((first | refine kQ rfl rfl ?_ ?_ | refine kR rfl rfl rfl rfl rfl ?_ ?_ | refine kS rfl rfl rfl ?_ ?_) <;> intro hc <;> (try simp only [KL, cond_true, cond_false, beq_iff_eq, bne_iff_ne, ne_eq, reduceCtorEq] at hc) <;> (try (have hT : True := hc; clear hT hc)) <;> (try (exfalso; omega))) | apply kT | apply kU | apply kV | apply kW | refine kX rfl ?_ | apply kY | apply kZ)
    all_goals first | (exfalso; omega) | exact retq rfl rfl | (exfalso; revert hc; decide)
  have hl : l.length ≤ 40 := by rw [shortB, Bool.and_eq_true, decide_eq_true_eq] at hs; omega
  have c2 := assign_fn init l (by omega) (by omega)
  have c3 := rfits_fn l (by omega)
  have c4 := check_fn init l (by omega) (by omega)
  rw [checkB_asg] at c4
  cases hf : fitsB l
  · rw [hf] at c3
    have e : asgF init l = none := by rw [asgF, hf]; rfl
    rw [e] at c2 c4
    rw [Option.getD_none, Option.isSome_none] at c2
    rw [Option.isSome_none] at c4
    repeat' (first | (show W _ _ _ _ _ _; first | apply kA | refine kB rfl ?_ | refine kC rfl rfl ?_ | refine kD rfl rfl ?_ | apply kE | apply kF | apply kG | apply kH | refine kI (by kernel_rfl) (by kernel_rfl) ?_) | (show O _ _ _ _ _ _ _; first | (show O _ _ _ _ (⟨_, .store _ _ _, _, _, _, _⟩ :: _) _ _; refine kJ rfl rfl rfl rfl rfl rfl rfl rfl rfl rfl rfl ?_) | apply kK) | apply kL | ((first | apply kM | apply kN); (iterate 3 (· exact rfl)); (· first | (show Y _ ⟨_, .call ⟨.value _, _, _⟩, _, _, _, _⟩ _ _ _; first | exact q_c (c0) rfl | exact q_c (c1) rfl | exact q_c (c2) rfl | exact q_c (c3) rfl | exact q_c (c4) rfl) | exact ya)) | refine kO rfl rfl rfl rfl rfl ?_ | refine kP rfl rfl rfl ?_ | ((first | refine kQ rfl rfl ?_ ?_ | refine kR rfl rfl rfl rfl rfl ?_ ?_ | refine kS rfl rfl rfl ?_ ?_) <;> intro hc <;> (try simp only [KL, cond_true, cond_false, beq_iff_eq, bne_iff_ne, ne_eq, reduceCtorEq] at hc) <;> (try (have hT : True := hc; clear hT hc)) <;> (try (exfalso; omega))) | apply kT | apply kU | apply kV | apply kW | refine kX rfl ?_ | apply kY | apply kZ)
    all_goals first | (exfalso; omega) | exact retq rfl rfl | (exfalso; revert hc; decide)
  · rw [hf] at c3
    have c5 := rassign_fn init l (by omega) (fits_iff.1 hf)
    have e : asgF init l = asgTo init (wrC l) (rdC l) (rdC l).length := by rw [asgF, if_pos hf]
    rw [← e] at c5
    have c6 : ∀ o : List Nat, Fn Try.prog 14 [.lst 1 (o.map eN), .lst 1 (o.map eN)] (.bool true) := fun o => by
      have := pl_Ints (o.map fun n : Nat => (n : Int)) (o.map fun n : Nat => (n : Int))
      rw [List.map_map, decide_eq_true rfl] at this
      exact this
    cases ha : asgF init l <;> rw [ha] at c2 c4 c5
    · rw [Option.getD_none, Option.isSome_none] at c2 c5
      rw [Option.isSome_none] at c4
      repeat' (first | (show W _ _ _ _ _ _; first | apply kA | refine kB rfl ?_ | refine kC rfl rfl ?_ | refine kD rfl rfl ?_ | apply kE | apply kF | apply kG | apply kH | refine kI (by kernel_rfl) (by kernel_rfl) ?_) | (show O _ _ _ _ _ _ _; first | (show O _ _ _ _ (⟨_, .store _ _ _, _, _, _, _⟩ :: _) _ _; refine kJ rfl rfl rfl rfl rfl rfl rfl rfl rfl rfl rfl ?_) | apply kK) | apply kL | ((first | apply kM | apply kN); (iterate 3 (· exact rfl)); (· first | (show Y _ ⟨_, .call ⟨.value _, _, _⟩, _, _, _, _⟩ _ _ _; first | exact q_c (c0) rfl | exact q_c (c1) rfl | exact q_c (c2) rfl | exact q_c (c3) rfl | exact q_c (c4) rfl | exact q_c (c5) rfl | exact q_c (c6 []) rfl) | exact ya)) | refine kO rfl rfl rfl rfl rfl ?_ | refine kP rfl rfl rfl ?_ | ((first | refine kQ rfl rfl ?_ ?_ | refine kR rfl rfl rfl rfl rfl ?_ ?_ | refine kS rfl rfl rfl ?_ ?_) <;> intro hc <;> (try simp only [KL, cond_true, cond_false, beq_iff_eq, bne_iff_ne, ne_eq, reduceCtorEq] at hc) <;> (try (have hT : True := hc; clear hT hc)) <;> (try (exfalso; omega))) | apply kT | apply kU | apply kV | apply kW | refine kX rfl ?_ | apply kY | apply kZ)
      all_goals first | (exfalso; omega) | exact retq rfl rfl | (exfalso; revert hc; decide)
    · rename_i o
      rw [Option.getD_some, Option.isSome_some] at c2 c5
      rw [Option.isSome_some] at c4
      repeat' (first | (show W _ _ _ _ _ _; first | apply kA | refine kB rfl ?_ | refine kC rfl rfl ?_ | refine kD rfl rfl ?_ | apply kE | apply kF | apply kG | apply kH | refine kI (by kernel_rfl) (by kernel_rfl) ?_) | (show O _ _ _ _ _ _ _; first | (show O _ _ _ _ (⟨_, .store _ _ _, _, _, _, _⟩ :: _) _ _; refine kJ rfl rfl rfl rfl rfl rfl rfl rfl rfl rfl rfl ?_) | apply kK) | apply kL | ((first | apply kM | apply kN); (iterate 3 (· exact rfl)); (· first | (show Y _ ⟨_, .call ⟨.value _, _, _⟩, _, _, _, _⟩ _ _ _; first | exact q_c (c0) rfl | exact q_c (c1) rfl | exact q_c (c2) rfl | exact q_c (c3) rfl | exact q_c (c4) rfl | exact q_c (c5) rfl | exact q_c (c6 o) rfl) | exact ya)) | refine kO rfl rfl rfl rfl rfl ?_ | refine kP rfl rfl rfl ?_ | ((first | refine kQ rfl rfl ?_ ?_ | refine kR rfl rfl rfl rfl rfl ?_ ?_ | refine kS rfl rfl rfl ?_ ?_) <;> intro hc <;> (try simp only [KL, cond_true, cond_false, beq_iff_eq, bne_iff_ne, ne_eq, reduceCtorEq] at hc) <;> (try (have hT : True := hc; clear hT hc)) <;> (try (exfalso; omega))) | apply kT | apply kU | apply kV | apply kW | refine kX rfl ?_ | apply kY | apply kZ)
      all_goals first | (exfalso; omega) | exact retq rfl rfl | (exfalso; revert hc; decide)
end Go.Proofs.Ythmifkibfpcncaa
