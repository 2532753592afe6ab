/- Registers (layer 22): the program's Assign and Check; the chapter's example; LinregLess. No condition but sizes. -/
import Derived.Test.YthmifkibfpcncaaLa
import Derived.Test.YthmifkibfpcncaaAvSc
namespace Go.Proofs.Ythmifkibfpcncaa
set_option linter.unusedSimpArgs false
set_option linter.unusedVariables false
set_option maxRecDepth 100000
set_option linter.unusedSimpArgs false
set_option linter.unusedVariables false
set_option maxRecDepth 100000
open Go.RowKit
theorem asg_len {init : List Int} {ws rs : List Call} {n : Nat} {out : List Nat} (h : asgTo init ws rs n = some out) : out.length = n := (asg_good n out h).1
theorem asg_hi {init : List Int} {ws rs : List Call} {n : Nat} {out : List Nat} (h : asgTo init ws rs n = some out) (i : Nat) (hi : i < n) : out.getD i default ≤ ws.length :=
  Nat.le_trans ((asg_good n out h).2 i hi).2.1 (highTo_le _ _ _)
theorem asg_next {init : List Int} {ws rs : List Call} {n : Nat} {out : List Nat} (h : asgTo init ws rs n = some out) : asgTo init ws rs (n + 1) = (pickQ init ws rs out n).bind fun k => some (out ++ [k]) := by
  rw [asgTo, h, Option.bind_some]
theorem lowR_le {rs : List Call} {r : Call} {out : List Nat} {lo m : Nat} (h0 : lo ≤ m) : ∀ k, (∀ j, j < k → out.getD j default ≤ m) → lowR rs r out lo k ≤ m := fun k h => (lowR_iff k).2 ⟨h0, fun j hj _ => h j hj⟩
set_option maxHeartbeats 8000000 in
theorem assign_fn (init : List Int) (l : List Call) (hi : init.length ≤ 1000000) (hl : l.length ≤ 1000000) : Fn Try.prog 12 [.lst 1 (init.map eU), .lst 7 (l.map eCall)] (.tup [.lst 1 (((asgF init l).getD []).map eN), .bool (asgF init l).isSome]) := by
  have c0 := lfits_fn l hl
  rw [asgF]
  cases hf : fitsB l <;> rw [hf] at c0
  · rw [if_neg (by decide), Option.getD_none, Option.isSome_none]
    refine fnb Try.func12 (entered_of (by kernel_rfl)) rfl rfl rfl ?_
    repeat' (first | (show W _ _ _ _ _ _; first | apply kA | refine kB rfl ?_ | refine kC rfl rfl ?_ | refine kD rfl rfl ?_ | apply kE | apply kF | apply kG | apply kH | refine kI (by kernel_rfl) (by kernel_rfl) ?_ | apply wscope | apply wlabel) | (show O _ _ _ _ _ _ _; first | (show O _ _ _ _ (⟨_, .store _ _ _, _, _, _, _⟩ :: _) _ _; refine kJ rfl rfl rfl rfl rfl rfl rfl rfl rfl rfl rfl ?_) | apply kK) | apply kL | ((first | apply kM | apply kN); (iterate 3 (· exact rfl)); (· first | (show Y _ ⟨_, .call ⟨.value _, _, _⟩, _, _, _, _⟩ _ _ _; first | exact q_c (c0) rfl) | exact ya)) | refine kO rfl rfl rfl rfl rfl ?_ | refine kP rfl rfl rfl ?_ | ((first | refine kQ rfl rfl ?_ ?_ | refine kR rfl rfl rfl rfl rfl ?_ ?_ | refine kS rfl rfl rfl ?_ ?_) <;> intro hc <;> (try simp only [KL, cond_true, cond_false, beq_iff_eq, bne_iff_ne, ne_eq, reduceCtorEq] at hc) <;> (try (have hT : True := hc; clear hT hc)) <;> (try (exfalso; omega))) | apply kT | apply kU | apply kV | apply kW | refine kX rfl ?_ | apply kY | apply kZ | apply rSc | apply nSc)
    all_goals first | (exfalso; omega) | skip
    refine retT (fun _ => turn_nil 1 (t := 4) rfl) ?_
    exact retq rfl rfl
  rw [if_pos rfl]
  have hF := fits_iff.1 hf
  have c1 := split_fn l hl hF.1
  have lw : (wrC l).length ≤ 1000000 := by have := List.length_filter_le isW (sortC l); rw [sortC_len] at this; rw [wrC]; omega
  have lr : (rdC l).length ≤ 1000000 := by have := List.length_filter_le isR (sortC l); rw [sortC_len] at this; rw [rdC]; omega
  generalize wrC l = ws at *
  generalize rdC l = rs at *
  refine fnb Try.func12 (entered_of (by kernel_rfl)) rfl rfl rfl ?_
  repeat' (first | (show W _ _ _ _ _ _; first | apply kA | refine kB rfl ?_ | refine kC rfl rfl ?_ | refine kD rfl rfl ?_ | apply kE | apply kF | apply kG | apply kH | refine kI (by kernel_rfl) (by kernel_rfl) ?_ | apply wscope | apply wlabel) | (show O _ _ _ _ _ _ _; first | (show O _ _ _ _ (⟨_, .store _ _ _, _, _, _, _⟩ :: _) _ _; refine kJ rfl rfl rfl rfl rfl rfl rfl rfl rfl rfl rfl ?_) | apply kK) | apply kL | ((first | apply kM | apply kN); (iterate 3 (· exact rfl)); (· first | (show Y _ ⟨_, .call ⟨.value _, _, _⟩, _, _, _, _⟩ _ _ _; first | exact q_c (c0) rfl | exact q_c (c1) rfl) | exact ya)) | refine kO rfl rfl rfl rfl rfl ?_ | refine kP rfl rfl rfl ?_ | ((first | refine kQ rfl rfl ?_ ?_ | refine kR rfl rfl rfl rfl rfl ?_ ?_ | refine kS rfl rfl rfl ?_ ?_) <;> intro hc <;> (try simp only [KL, cond_true, cond_false, beq_iff_eq, bne_iff_ne, ne_eq, reduceCtorEq] at hc) <;> (try (have hT : True := hc; clear hT hc)) <;> (try (exfalso; omega))) | apply kT | apply kU | apply kV | apply kW | refine kX rfl ?_ | apply kY | apply kZ | apply rSc | apply nSc)
  all_goals first | (exfalso; omega) | skip
  refine wturn (turn_own eN (t := 8) rfl 10 3 1 (by omega) rfl) ?_
  refine wloop (fun z : Nat × List Nat => ([(0, .lst 1 (init.map eU)), (6, .lst 7 (ws.map eCall)), (7, .lst 7 (rs.map eCall)), (8, .own 10), (25, .lst 7 (rs.map eCall)), (26, .int .i64 rs.length), (27, .int .i64 z.1)], [(10, .row 3 1 (z.2.map eN))])) (fun z => z.1 ≤ rs.length ∧ asgTo init ws rs z.1 = some z.2) (fun z => rs.length - z.1) (0, []) ⟨Nat.zero_le _, rfl⟩ les leh (fun z hz => ?_)
  obtain ⟨i, out⟩ := z
  obtain ⟨hil, ho⟩ := hz
  simp only at hil ho ⊢
  have hol := asg_len ho
  rcases Nat.lt_or_eq_of_le hil with hlt | rfl
  · have c2 := window_fn ws (rs.getD i default) lw
    have hnx := asg_next ho
    rw [pickQ] at hnx
    have htl : ((rs.take i).drop 0).length = i := by rw [List.drop_zero, List.length_take]; omega
    have hlo := lowTo_le ws (rs.getD i default) ws.length
    have hhi := highTo_le ws (rs.getD i default) ws.length
    have hoh := asg_hi ho
    repeat' (first | (show W _ _ _ _ _ _; first | apply kA | refine kB rfl ?_ | refine kC rfl rfl ?_ | refine kD rfl rfl ?_ | apply kE | apply kF | apply kG | apply kH | refine kI (by kernel_rfl) (by kernel_rfl) ?_ | apply wscope | apply wlabel) | (show O _ _ _ _ _ _ _; first | (show O _ _ _ _ (⟨_, .alloc _, _, _, _, _⟩ :: _) _ _; first | refine ao_alloc (id := 20) rfl rfl rfl rfl rfl rfl rfl ?_) | (show O _ _ _ _ (⟨_, .store _ _ _, _, _, _, _⟩ :: _) _ _; refine kJ rfl rfl rfl rfl rfl rfl rfl rfl rfl rfl rfl ?_) | apply kK) | apply kL | ((first | apply kM | apply kN); (iterate 3 (· exact rfl)); (· first | (show Y _ ⟨_, .call ⟨.value _, _, _⟩, _, _, _, _⟩ _ _ _; first | exact q_c (c2) rfl) | exact ya)) | refine kO rfl rfl rfl rfl rfl ?_ | refine kP rfl rfl rfl ?_ | ((first | refine kQ rfl rfl ?_ ?_ | refine kR rfl rfl rfl rfl rfl ?_ ?_ | refine kS rfl rfl rfl ?_ ?_) <;> intro hc <;> (try simp only [KL, cond_true, cond_false, beq_iff_eq, bne_iff_ne, ne_eq, reduceCtorEq] at hc) <;> (try (have hT : True := hc; clear hT hc)) <;> (try (exfalso; omega))) | apply kT | apply kU | apply kV | apply kW | refine kX rfl ?_ | apply kY | apply kZ | apply rSc | apply nSc)
    all_goals first | (exfalso; omega) | skip
    generalize lowTo ws (rs.getD i default) ws.length = low at *
    generalize highTo ws (rs.getD i default) ws.length = high at *
    refine wloop (fun k : Nat => ([(0, .lst 1 (init.map eU)), (6, .lst 7 (ws.map eCall)), (7, .lst 7 (rs.map eCall)), (8, .own 10), (10, .ptr 20 0), (11, .int .i64 (lowR rs (rs.getD i default) out low k : Nat)), (12, .int .i64 (high : Nat)), (25, .lst 7 (rs.map eCall)), (26, .int .i64 rs.length), (27, .int .i64 i), (40, .lst 7 (((rs.take i).drop 0).map eCall)), (41, .int .i64 ((rs.take i).drop 0).length), (42, .int .i64 k)], [(20, .blk 33 (eCall (rs.getD i default))), (10, .row 3 1 (out.map eN))])) (fun k => k ≤ i) (fun k => i - k) 0 (Nat.zero_le _) les leh (fun k hk => ?_)
    rcases Nat.lt_or_eq_of_le hk with hkl | rfl
    · have hy : rs.getD k default = ((rs.take i).drop 0).getD k default := by
        rw [List.drop_zero, List.getD_eq_getElem?_getD, List.getD_eq_getElem?_getD, List.getElem?_take, if_pos hkl]
      have c3 := hbef_fn (((rs.take i).drop 0).getD k default) (rs.getD i default)
      have n1 : lowR rs (rs.getD i default) out low (k + 1) = if befB (rs.getD k default) (rs.getD i default) = true then max (lowR rs (rs.getD i default) out low k) (out.getD k default) else lowR rs (rs.getD i default) out low k := rfl
      rw [hy] at n1
      have q1 := hoh k hkl
      have q2 := lowR_le (rs := rs) (r := rs.getD i default) (out := out) hlo k (fun j hj => hoh j (by omega))
      cases hb : befB (((rs.take i).drop 0).getD k default) (rs.getD i default) <;> rw [hb] at c3 n1
      · rw [if_neg (by decide)] at n1
        repeat' (first | (show W _ _ _ _ _ _; first | apply kA | refine kB rfl ?_ | refine kC rfl rfl ?_ | refine kD rfl rfl ?_ | apply kE | apply kF | apply kG | apply kH | refine kI (by kernel_rfl) (by kernel_rfl) ?_ | apply wscope | apply wlabel) | (show O _ _ _ _ _ _ _; first | (show O _ _ _ _ (⟨_, .alloc _, _, _, _, _⟩ :: _) _ _; first | refine ao_alloc (id := 21) rfl rfl rfl rfl rfl rfl rfl ?_) | (show O _ _ _ _ (⟨_, .store _ _ _, _, _, _, _⟩ :: _) _ _; refine kJ rfl rfl rfl rfl rfl rfl rfl rfl rfl rfl rfl ?_) | apply kK) | apply kL | ((first | apply kM | apply kN); (iterate 3 (· exact rfl)); (· first | (show Y _ ⟨_, .call ⟨.value _, _, _⟩, _, _, _, _⟩ _ _ _; first | exact q_c (c3) rfl) | exact ya)) | refine kO rfl rfl rfl rfl rfl ?_ | refine kP rfl rfl rfl ?_ | ((first | refine kQ rfl rfl ?_ ?_ | refine kR rfl rfl rfl rfl rfl ?_ ?_ | refine kS rfl rfl rfl ?_ ?_) <;> intro hc <;> (try simp only [KL, cond_true, cond_false, beq_iff_eq, bne_iff_ne, ne_eq, reduceCtorEq] at hc) <;> (try (have hT : True := hc; clear hT hc)) <;> (try (exfalso; omega))) | apply kT | apply kU | apply kV | apply kW | refine kX rfl ?_ | apply kY | apply kZ | apply rSc | apply nSc)
        all_goals first | (exfalso; omega) | exact ⟨k + 1, by omega, by omega, by simp only [n1]; exact les, leh⟩
      · rw [if_pos rfl] at n1
        repeat' (first | (show W _ _ _ _ _ _; first | apply kA | refine kB rfl ?_ | refine kC rfl rfl ?_ | refine kD rfl rfl ?_ | apply kE | apply kF | apply kG | apply kH | refine kI (by kernel_rfl) (by kernel_rfl) ?_ | apply wscope | apply wlabel) | (show O _ _ _ _ _ _ _; first | (show O _ _ _ _ (⟨_, .alloc _, _, _, _, _⟩ :: _) _ _; first | refine ao_alloc (id := 21) rfl rfl rfl rfl rfl rfl rfl ?_) | (show O _ _ _ _ (⟨_, .store _ _ _, _, _, _, _⟩ :: _) _ _; refine kJ rfl rfl rfl rfl rfl rfl rfl rfl rfl rfl rfl ?_) | apply kK) | apply kL | ((first | apply kM | apply kN); (iterate 3 (· exact rfl)); (· first | (show Y _ ⟨_, .call ⟨.value _, _, _⟩, _, _, _, _⟩ _ _ _; first | exact q_c (c3) rfl) | exact ya)) | refine kO rfl rfl rfl rfl rfl ?_ | refine kP rfl rfl rfl ?_ | ((first | refine kQ rfl rfl ?_ ?_ | refine kR rfl rfl rfl rfl rfl ?_ ?_ | refine kS rfl rfl rfl ?_ ?_) <;> intro hc <;> (try simp only [KL, cond_true, cond_false, beq_iff_eq, bne_iff_ne, ne_eq, reduceCtorEq] at hc) <;> (try (have hT : True := hc; clear hT hc)) <;> (try (exfalso; omega))) | apply kT | apply kU | apply kV | apply kW | refine kX rfl ?_ | apply kY | apply kZ | apply rSc | apply nSc)
        all_goals first | (exfalso; omega) | exact ⟨k + 1, by omega, by omega, by simp only [n1]; exact les, leh⟩
    · have q2 := lowR_le (rs := rs) (r := rs.getD k default) (out := out) hlo k (fun j hj => hoh j (by omega))
      generalize lowR rs (rs.getD k default) out low k = lo at *
      repeat' (first | (show W _ _ _ _ _ _; first | apply kA | refine kB rfl ?_ | refine kC rfl rfl ?_ | refine kD rfl rfl ?_ | apply kE | apply kF | apply kG | apply kH | refine kI (by kernel_rfl) (by kernel_rfl) ?_ | apply wscope | apply wlabel) | (show O _ _ _ _ _ _ _; first | (show O _ _ _ _ (⟨_, .store _ _ _, _, _, _, _⟩ :: _) _ _; refine kJ rfl rfl rfl rfl rfl rfl rfl rfl rfl rfl rfl ?_) | apply kK) | apply kL | ((first | apply kM | apply kN); (iterate 3 (· exact rfl)); (· first | exact ya)) | refine kO rfl rfl rfl rfl rfl ?_ | refine kP rfl rfl rfl ?_ | ((first | refine kQ rfl rfl ?_ ?_ | refine kR rfl rfl rfl rfl rfl ?_ ?_ | refine kS rfl rfl rfl ?_ ?_) <;> intro hc <;> (try simp only [KL, cond_true, cond_false, beq_iff_eq, bne_iff_ne, ne_eq, reduceCtorEq] at hc) <;> (try (have hT : True := hc; clear hT hc)) <;> (try (exfalso; omega))) | apply kT | apply kU | apply kV | apply kW | refine kX rfl ?_ | apply kY | apply kZ | apply rSc | apply nSc)
      all_goals first | (exfalso; omega) | skip
      refine wloop (fun j : Nat => ([(0, .lst 1 (init.map eU)), (6, .lst 7 (ws.map eCall)), (7, .lst 7 (rs.map eCall)), (8, .own 10), (10, .ptr 20 0), (12, .int .i64 (high : Nat)), (15, .int .i64 j), (25, .lst 7 (rs.map eCall)), (26, .int .i64 rs.length), (27, .int .i64 k)], [(20, .blk 33 (eCall (rs.getD k default))), (10, .row 3 1 (out.map eN))])) (fun j => lo ≤ j ∧ j ≤ ws.length + 1 ∧ ∀ m, lo ≤ m → m < j → recQ init ws (rs.getD k default) m = false) (fun j => ws.length + 1 - j) lo ⟨Nat.le_refl _, by omega, fun m h1 h2 => by omega⟩ les leh (fun j hj => ?_)
      obtain ⟨hj1, hj2, hj3⟩ := hj
      rcases Nat.lt_or_ge high j with hjh | hjh
      · have hno : findQ (recQ init ws (rs.getD k default)) lo (high + 1 - lo) = none := (findQ_none _ _).2 fun m h1 h2 => hj3 m h1 (by omega)
        rw [hno] at hnx
        rw [asgTo_no hnx rs.length hlt, Option.getD_none, Option.isSome_none]
        repeat' (first | (show W _ _ _ _ _ _; first | apply kA | refine kB rfl ?_ | refine kC rfl rfl ?_ | refine kD rfl rfl ?_ | apply kE | apply kF | apply kG | apply kH | refine kI (by kernel_rfl) (by kernel_rfl) ?_ | apply wscope | apply wlabel) | (show O _ _ _ _ _ _ _; first | (show O _ _ _ _ (⟨_, .store _ _ _, _, _, _, _⟩ :: _) _ _; refine kJ rfl rfl rfl rfl rfl rfl rfl rfl rfl rfl rfl ?_) | apply kK) | apply kL | ((first | apply kM | apply kN); (iterate 3 (· exact rfl)); (· first | exact ya)) | refine kO rfl rfl rfl rfl rfl ?_ | refine kP rfl rfl rfl ?_ | ((first | refine kQ rfl rfl ?_ ?_ | refine kR rfl rfl rfl rfl rfl ?_ ?_ | refine kS rfl rfl rfl ?_ ?_) <;> intro hc <;> (try simp only [KL, cond_true, cond_false, beq_iff_eq, bne_iff_ne, ne_eq, reduceCtorEq] at hc) <;> (try (have hT : True := hc; clear hT hc)) <;> (try (exfalso; omega))) | apply kT | apply kU | apply kV | apply kW | refine kX rfl ?_ | apply kY | apply kZ | apply rSc | apply nSc)
        all_goals first | (exfalso; omega) | skip
        refine retT (fun _ => turn_nil 1 (t := 4) rfl) ?_
        exact retq rfl rfl
      have hyes : recQ init ws (rs.getD k default) j = true → asgTo init ws rs (k + 1) = some (out ++ [j]) := fun e => by
        rw [hnx, (findQ_some (k := j) _ _).2 ⟨hj1, by omega, e, hj3⟩, Option.bind_some]
      have hno : recQ init ws (rs.getD k default) j = false → ∀ m, lo ≤ m → m < j + 1 → recQ init ws (rs.getD k default) m = false := fun e m h1 h2 => by
        rcases Nat.lt_or_eq_of_le (Nat.le_of_lt_succ h2) with q | q
        · exact hj3 m h1 q
        · subst q; exact e
      rcases j with _ | j
      · have c4 : Fn Try.prog 23 [.lst 1 (init.map eU), .lst 1 ((rs.getD k default).rc.map eU)] (.bool (recQ init ws (rs.getD k default) 0)) := sameU_fn _ _
        cases hq : recQ init ws (rs.getD k default) 0 <;> rw [hq] at c4
        · repeat' (first | (show W _ _ _ _ _ _; first | apply kA | refine kB rfl ?_ | refine kC rfl rfl ?_ | refine kD rfl rfl ?_ | apply kE | apply kF | apply kG | apply kH | refine kI (by kernel_rfl) (by kernel_rfl) ?_ | apply wscope | apply wlabel) | (show O _ _ _ _ _ _ _; first | (show O _ _ _ _ (⟨_, .store _ _ _, _, _, _, _⟩ :: _) _ _; refine kJ rfl rfl rfl rfl rfl rfl rfl rfl rfl rfl rfl ?_) | apply kK) | apply kL | ((first | apply kM | apply kN); (iterate 3 (· exact rfl)); (· first | (show Y _ ⟨_, .call ⟨.value _, _, _⟩, _, _, _, _⟩ _ _ _; first | exact q_c (c4) rfl) | exact ya)) | refine kO rfl rfl rfl rfl rfl ?_ | refine kP rfl rfl rfl ?_ | ((first | refine kQ rfl rfl ?_ ?_ | refine kR rfl rfl rfl rfl rfl ?_ ?_ | refine kS rfl rfl rfl ?_ ?_) <;> intro hc <;> (try simp only [KL, cond_true, cond_false, beq_iff_eq, bne_iff_ne, ne_eq, reduceCtorEq] at hc) <;> (try (have hT : True := hc; clear hT hc)) <;> (try (exfalso; omega))) | apply kT | apply kU | apply kV | apply kW | refine kX rfl ?_ | apply kY | apply kZ | apply rSc | apply nSc)
          all_goals first | (exfalso; omega) | exact ⟨0 + 1, ⟨by omega, by omega, hno hq⟩, by omega, les, leh⟩
        · have hyes := hyes hq
          repeat' (first | (show W _ _ _ _ _ _; first | apply kA | refine kB rfl ?_ | refine kC rfl rfl ?_ | refine kD rfl rfl ?_ | apply kE | apply kF | apply kG | apply kH | refine kI (by kernel_rfl) (by kernel_rfl) ?_ | apply wscope | apply wlabel) | (show O _ _ _ _ _ _ _; first | (show O _ _ _ _ (⟨_, .store _ _ _, _, _, _, _⟩ :: _) _ _; refine kJ rfl rfl rfl rfl rfl rfl rfl rfl rfl rfl rfl ?_) | apply kK) | apply kL | ((first | apply kM | apply kN); (iterate 3 (· exact rfl)); (· first | (show Y _ ⟨_, .call ⟨.value _, _, _⟩, _, _, _, _⟩ _ _ _; first | exact q_c (c4) rfl) | exact ya)) | refine kO rfl rfl rfl rfl rfl ?_ | refine kP rfl rfl rfl ?_ | ((first | refine kQ rfl rfl ?_ ?_ | refine kR rfl rfl rfl rfl rfl ?_ ?_ | refine kS rfl rfl rfl ?_ ?_) <;> intro hc <;> (try simp only [KL, cond_true, cond_false, beq_iff_eq, bne_iff_ne, ne_eq, reduceCtorEq] at hc) <;> (try (have hT : True := hc; clear hT hc)) <;> (try (exfalso; omega))) | apply kT | apply kU | apply kV | apply kW | refine kX rfl ?_ | apply kY | apply kZ | apply rSc | apply nSc)
          all_goals first | (exfalso; omega) | skip
          (refine ao_ap (id := 10) (ys := [0]) (by_ := 8) rfl rfl rfl rfl rfl rfl rfl rfl rfl rfl (fun _ _ => rfl) ?_ ?_ rfl rfl rfl rfl rfl ?_; (· (first | omega | ((try simp only [List.length_cons, List.length_nil, List.length_append, List.length_map]) <;> omega))); (· (first | omega | ((try simp only [List.length_cons, List.length_nil, List.length_append, List.length_map]) <;> omega))))
          repeat' (first | (show W _ _ _ _ _ _; first | apply kA | refine kB rfl ?_ | refine kC rfl rfl ?_ | refine kD rfl rfl ?_ | apply kE | apply kF | apply kG | apply kH | refine kI (by kernel_rfl) (by kernel_rfl) ?_ | apply wscope | apply wlabel) | (show O _ _ _ _ _ _ _; first | (show O _ _ _ _ (⟨_, .store _ _ _, _, _, _, _⟩ :: _) _ _; refine kJ rfl rfl rfl rfl rfl rfl rfl rfl rfl rfl rfl ?_) | apply kK) | apply kL | ((first | apply kM | apply kN); (iterate 3 (· exact rfl)); (· first | exact ya)) | refine kO rfl rfl rfl rfl rfl ?_ | refine kP rfl rfl rfl ?_ | ((first | refine kQ rfl rfl ?_ ?_ | refine kR rfl rfl rfl rfl rfl ?_ ?_ | refine kS rfl rfl rfl ?_ ?_) <;> intro hc <;> (try simp only [KL, cond_true, cond_false, beq_iff_eq, bne_iff_ne, ne_eq, reduceCtorEq] at hc) <;> (try (have hT : True := hc; clear hT hc)) <;> (try (exfalso; omega))) | apply kT | apply kU | apply kV | apply kW | refine kX rfl ?_ | apply kY | apply kZ | apply rSc | apply nSc)
          exact ⟨(k + 1, out ++ [0]), ⟨by simp only; omega, hyes⟩, by simp only; omega, les, leh⟩
      · have ej : (((j + 1 : Nat) : Int) - 1).toNat = j := by omega
        have c4 : Fn Try.prog 23 [.lst 1 ((ws.getD (((j + 1 : Nat) : Int) - 1).toNat default).rc.map eU), .lst 1 ((rs.getD k default).rc.map eU)] (.bool (recQ init ws (rs.getD k default) (j + 1))) := by
          rw [ej]; exact sameU_fn _ _
        cases hq : recQ init ws (rs.getD k default) (j + 1) <;> rw [hq] at c4
        · repeat' (first | (show W _ _ _ _ _ _; first | apply kA | refine kB rfl ?_ | refine kC rfl rfl ?_ | refine kD rfl rfl ?_ | apply kE | apply kF | apply kG | apply kH | refine kI (by kernel_rfl) (by kernel_rfl) ?_ | apply wscope | apply wlabel) | (show O _ _ _ _ _ _ _; first | (show O _ _ _ _ (⟨_, .store _ _ _, _, _, _, _⟩ :: _) _ _; refine kJ rfl rfl rfl rfl rfl rfl rfl rfl rfl rfl rfl ?_) | apply kK) | apply kL | ((first | apply kM | apply kN); (iterate 3 (· exact rfl)); (· first | (show Y _ ⟨_, .call ⟨.value _, _, _⟩, _, _, _, _⟩ _ _ _; first | exact q_c (c4) rfl) | exact ya)) | refine kO rfl rfl rfl rfl rfl ?_ | refine kP rfl rfl rfl ?_ | ((first | refine kQ rfl rfl ?_ ?_ | refine kR rfl rfl rfl rfl rfl ?_ ?_ | refine kS rfl rfl rfl ?_ ?_) <;> intro hc <;> (try simp only [KL, cond_true, cond_false, beq_iff_eq, bne_iff_ne, ne_eq, reduceCtorEq] at hc) <;> (try (have hT : True := hc; clear hT hc)) <;> (try (exfalso; omega))) | apply kT | apply kU | apply kV | apply kW | refine kX rfl ?_ | apply kY | apply kZ | apply rSc | apply nSc)
          all_goals first | (exfalso; omega) | exact ⟨j + 1 + 1, ⟨by omega, by omega, hno hq⟩, by omega, les, leh⟩
        · have hyes := hyes hq
          repeat' (first | (show W _ _ _ _ _ _; first | apply kA | refine kB rfl ?_ | refine kC rfl rfl ?_ | refine kD rfl rfl ?_ | apply kE | apply kF | apply kG | apply kH | refine kI (by kernel_rfl) (by kernel_rfl) ?_ | apply wscope | apply wlabel) | (show O _ _ _ _ _ _ _; first | (show O _ _ _ _ (⟨_, .store _ _ _, _, _, _, _⟩ :: _) _ _; refine kJ rfl rfl rfl rfl rfl rfl rfl rfl rfl rfl rfl ?_) | apply kK) | apply kL | ((first | apply kM | apply kN); (iterate 3 (· exact rfl)); (· first | (show Y _ ⟨_, .call ⟨.value _, _, _⟩, _, _, _, _⟩ _ _ _; first | exact q_c (c4) rfl) | exact ya)) | refine kO rfl rfl rfl rfl rfl ?_ | refine kP rfl rfl rfl ?_ | ((first | refine kQ rfl rfl ?_ ?_ | refine kR rfl rfl rfl rfl rfl ?_ ?_ | refine kS rfl rfl rfl ?_ ?_) <;> intro hc <;> (try simp only [KL, cond_true, cond_false, beq_iff_eq, bne_iff_ne, ne_eq, reduceCtorEq] at hc) <;> (try (have hT : True := hc; clear hT hc)) <;> (try (exfalso; omega))) | apply kT | apply kU | apply kV | apply kW | refine kX rfl ?_ | apply kY | apply kZ | apply rSc | apply nSc)
          all_goals first | (exfalso; omega) | skip
          (refine ao_ap (id := 10) (ys := [j + 1]) (by_ := 8) rfl rfl rfl rfl rfl rfl rfl rfl rfl rfl (fun _ _ => rfl) ?_ ?_ rfl rfl rfl rfl rfl ?_; (· (first | omega | ((try simp only [List.length_cons, List.length_nil, List.length_append, List.length_map]) <;> omega))); (· (first | omega | ((try simp only [List.length_cons, List.length_nil, List.length_append, List.length_map]) <;> omega))))
          repeat' (first | (show W _ _ _ _ _ _; first | apply kA | refine kB rfl ?_ | refine kC rfl rfl ?_ | refine kD rfl rfl ?_ | apply kE | apply kF | apply kG | apply kH | refine kI (by kernel_rfl) (by kernel_rfl) ?_ | apply wscope | apply wlabel) | (show O _ _ _ _ _ _ _; first | (show O _ _ _ _ (⟨_, .store _ _ _, _, _, _, _⟩ :: _) _ _; refine kJ rfl rfl rfl rfl rfl rfl rfl rfl rfl rfl rfl ?_) | apply kK) | apply kL | ((first | apply kM | apply kN); (iterate 3 (· exact rfl)); (· first | exact ya)) | refine kO rfl rfl rfl rfl rfl ?_ | refine kP rfl rfl rfl ?_ | ((first | refine kQ rfl rfl ?_ ?_ | refine kR rfl rfl rfl rfl rfl ?_ ?_ | refine kS rfl rfl rfl ?_ ?_) <;> intro hc <;> (try simp only [KL, cond_true, cond_false, beq_iff_eq, bne_iff_ne, ne_eq, reduceCtorEq] at hc) <;> (try (have hT : True := hc; clear hT hc)) <;> (try (exfalso; omega))) | apply kT | apply kU | apply kV | apply kW | refine kX rfl ?_ | apply kY | apply kZ | apply rSc | apply nSc)
          exact ⟨(k + 1, out ++ [j + 1]), ⟨by simp only; omega, hyes⟩, by simp only; omega, les, leh⟩
  · rw [ho, Option.getD_some, Option.isSome_some]
    repeat' (first | (show W _ _ _ _ _ _; first | apply kA | refine kB rfl ?_ | refine kC rfl rfl ?_ | refine kD rfl rfl ?_ | apply kE | apply kF | apply kG | apply kH | refine kI (by kernel_rfl) (by kernel_rfl) ?_ | apply wscope | apply wlabel) | (show O _ _ _ _ _ _ _; first | (show O _ _ _ _ (⟨_, .store _ _ _, _, _, _, _⟩ :: _) _ _; refine kJ rfl rfl rfl rfl rfl rfl rfl rfl rfl rfl rfl ?_) | apply kK) | apply kL | ((first | apply kM | apply kN); (iterate 3 (· exact rfl)); (· first | exact ya)) | refine kO rfl rfl rfl rfl rfl ?_ | refine kP rfl rfl rfl ?_ | ((first | refine kQ rfl rfl ?_ ?_ | refine kR rfl rfl rfl rfl rfl ?_ ?_ | refine kS rfl rfl rfl ?_ ?_) <;> intro hc <;> (try simp only [KL, cond_true, cond_false, beq_iff_eq, bne_iff_ne, ne_eq, reduceCtorEq] at hc) <;> (try (have hT : True := hc; clear hT hc)) <;> (try (exfalso; omega))) | apply kT | apply kU | apply kV | apply kW | refine kX rfl ?_ | apply kY | apply kZ | apply rSc | apply nSc)
    all_goals first | (exfalso; omega) | skip
    refine retT (fun _ => turn_freeze (t := 4) rfl rfl rfl) ?_
    exact retq rfl rfl
theorem check_fn (init : List Int) (l : List Call) (hi : init.length ≤ 1000000) (hl : l.length ≤ 1000000) : Fn Try.prog 10 [.lst 1 (init.map eU), .lst 7 (l.map eCall)] (.bool (checkB init l)) := by
  have c0 := assign_fn init l hi hl
  rw [checkB_asg]
  refine fnb Try.func10 (entered_of (by kernel_rfl)) rfl rfl rfl ?_
  repeat' (first | (show W _ _ _ _ _ _; first | apply kA | refine kB rfl ?_ | refine kC rfl rfl ?_ | refine kD rfl rfl ?_ | apply kE | apply kF | apply kG | apply kH | refine kI (by kernel_rfl) (by kernel_rfl) ?_) | (show O _ _ _ _ _ _ _; first | (show O _ _ _ _ (⟨_, .store _ _ _, _, _, _, _⟩ :: _) _ _; refine kJ rfl rfl rfl rfl rfl rfl rfl rfl rfl rfl rfl ?_) | apply kK) | apply kL | ((first | apply kM | apply kN); (iterate 3 (· exact rfl)); (· first | (show Y _ ⟨_, .call ⟨.value _, _, _⟩, _, _, _, _⟩ _ _ _; first | exact q_c (c0) rfl) | exact ya)) | refine kO rfl rfl rfl rfl rfl ?_ | refine kP rfl rfl rfl ?_ | ((first | refine kQ rfl rfl ?_ ?_ | refine kR rfl rfl rfl rfl rfl ?_ ?_ | refine kS rfl rfl rfl ?_ ?_) <;> intro hc <;> (try simp only [KL, cond_true, cond_false, beq_iff_eq, bne_iff_ne, ne_eq, reduceCtorEq] at hc) <;> (try (have hT : True := hc; clear hT hc)) <;> (try (exfalso; omega))) | apply kT | apply kU | apply kV | apply kW | refine kX rfl ?_ | apply kY | apply kZ)
  exact retq rfl rfl
def awW : Call := ⟨0, 0, 2, [5], 0, 0, 9⟩
def awA : Call := ⟨1, 0, 1, [5], 0, 1, 3⟩
def awB : Call := ⟨1, 0, 1, [0], 0, 4, 6⟩
theorem awake22_fn : Fn Try.prog 7 [] (.bool true) := by
  have c1 := check_fn [0] [awW, awA, awB] (by decide) (by decide)
  have c2 := check_fn [0] [awW, awA] (by decide) (by decide)
  have c3 := lfits_fn [awW] (by decide)
  rw [show checkB [0] [awW, awA, awB] = false by decide +kernel] at c1
  rw [show checkB [0] [awW, awA] = true by decide +kernel] at c2
  rw [show fitsB [awW] = true by decide +kernel] at c3
  refine fnb Try.func7 (entered_of (by kernel_rfl)) rfl rfl rfl ?_
  repeat' (first | (show W _ _ _ _ _ _; first | apply kA | refine kB rfl ?_ | refine kC rfl rfl ?_ | refine kD rfl rfl ?_ | apply kE | apply kF | apply kG | apply kH | refine kI (by kernel_rfl) (by kernel_rfl) ?_) | (show O _ _ _ _ _ _ _; first | (show O _ _ _ _ (⟨_, .alloc _, _, _, _, _⟩ :: _) _ _; first | refine ao_alloc (id := 20) rfl rfl rfl rfl rfl rfl rfl ?_ | refine ao_alloc (id := 21) rfl rfl rfl rfl rfl rfl rfl ?_ | refine ao_alloc (id := 22) rfl rfl rfl rfl rfl rfl rfl ?_) | (show O _ _ _ _ (⟨_, .store _ _ _, _, _, _, _⟩ :: _) _ _; refine kJ rfl rfl rfl rfl rfl rfl rfl rfl rfl rfl rfl ?_) | apply kK) | apply kL | ((first | apply kM | apply kN); (iterate 3 (· exact rfl)); (· first | (show Y _ ⟨_, .call ⟨.value _, _, _⟩, _, _, _, _⟩ _ _ _; first | exact q_c (c1) rfl | exact q_c (c2) rfl | exact q_c (c3) rfl) | exact ya)) | refine kO rfl rfl rfl rfl rfl ?_ | refine kP rfl rfl rfl ?_ | ((first | refine kQ rfl rfl ?_ ?_ | refine kR rfl rfl rfl rfl rfl ?_ ?_ | refine kS rfl rfl rfl ?_ ?_) <;> intro hc <;> (try simp only [KL, cond_true, cond_false, beq_iff_eq, bne_iff_ne, ne_eq, reduceCtorEq] at hc) <;> (try (have hT : True := hc; clear hT hc)) <;> (try (exfalso; omega))) | apply kT | apply kU | apply kV | apply kW | refine kX rfl ?_ | apply kY | apply kZ)
  all_goals first | exact retq rfl rfl | skip
  all_goals trace_state
def shortB (l : List Call) (m : Int) : Bool := decide ((l.length : Int) ≤ m) && l.all fun c => decide (c.rc.length ≤ 100)
theorem short_fn (l : List Call) (m : Int) (hm : m ≤ 1000000) : Fn Try.prog 6 [.lst 7 (l.map eCall), .int .i64 m] (.bool (shortB l m)) := by
  refine fnb Try.func6 (entered_of (by kernel_rfl)) rfl rfl rfl ?_
  by_cases hlm : (l.length : Int) ≤ m
  · repeat' (first | (show W _ _ _ _ _ _; first | apply kA | refine kB rfl ?_ | refine kC rfl rfl ?_ | refine kD rfl rfl ?_ | apply kE | apply kF | apply kG | apply kH | refine kI (by kernel_rfl) (by kernel_rfl) ?_) | (show O _ _ _ _ _ _ _; first | (show O _ _ _ _ (⟨_, .store _ _ _, _, _, _, _⟩ :: _) _ _; refine kJ rfl rfl rfl rfl rfl rfl rfl rfl rfl rfl rfl ?_) | apply kK) | apply kL | ((first | apply kM | apply kN); (iterate 3 (· exact rfl)); (· first | exact ya)) | refine kO rfl rfl rfl rfl rfl ?_ | refine kP rfl rfl rfl ?_ | ((first | refine kQ rfl rfl ?_ ?_ | refine kR rfl rfl rfl rfl rfl ?_ ?_ | refine kS rfl rfl rfl ?_ ?_) <;> intro hc <;> (try simp only [KL, cond_true, cond_false, beq_iff_eq, bne_iff_ne, ne_eq, reduceCtorEq] at hc) <;> (try (have hT : True := hc; clear hT hc)) <;> (try (exfalso; omega))) | apply kT | apply kU | apply kV | apply kW | refine kX rfl ?_ | apply kY | apply kZ)
    all_goals first | (exfalso; omega) | skip
    refine wloop (fun k : Nat => ([(11, .lst 7 (l.map eCall)), (12, .int .i64 l.length), (13, .int .i64 k)], [])) (fun k => k ≤ l.length ∧ ∀ j, j < k → (l.getD j default).rc.length ≤ 100) (fun k => l.length - k) 0 ⟨Nat.zero_le _, fun j h => absurd h (Nat.not_lt_zero _)⟩ les leh (fun k hk => ?_)
    obtain ⟨hk, hp⟩ := hk
    repeat' (first | (show W _ _ _ _ _ _; first | apply kA | refine kB rfl ?_ | refine kC rfl rfl ?_ | refine kD rfl rfl ?_ | apply kE | apply kF | apply kG | apply kH | refine kI (by kernel_rfl) (by kernel_rfl) ?_) | (show O _ _ _ _ _ _ _; first | (show O _ _ _ _ (⟨_, .alloc _, _, _, _, _⟩ :: _) _ _; first | refine ao_alloc (id := 16) rfl rfl rfl rfl rfl rfl rfl ?_) | (show O _ _ _ _ (⟨_, .store _ _ _, _, _, _, _⟩ :: _) _ _; refine kJ rfl rfl rfl rfl rfl rfl rfl rfl rfl rfl rfl ?_) | apply kK) | apply kL | ((first | apply kM | apply kN); (iterate 3 (· exact rfl)); (· first | exact ya)) | refine kO rfl rfl rfl rfl rfl ?_ | refine kP rfl rfl rfl ?_ | ((first | refine kQ rfl rfl ?_ ?_ | refine kR rfl rfl rfl rfl rfl ?_ ?_ | refine kS rfl rfl rfl ?_ ?_) <;> intro hc <;> (try simp only [KL, cond_true, cond_false, beq_iff_eq, bne_iff_ne, ne_eq, reduceCtorEq] at hc) <;> (try (have hT : True := hc; clear hT hc)) <;> (try (exfalso; omega))) | apply kT | apply kU | apply kV | apply kW | refine kX rfl ?_ | apply kY | apply kZ)
    · refine retq rfl (congrArg AV.bool ?_)
      symm
      rw [shortB, Bool.and_eq_false_iff]
      refine .inr (List.all_eq_false.2 ⟨l.getD k default, getD_memC (by omega), ?_⟩)
      simp only [decide_eq_true_eq]; omega
    · exact ⟨k + 1, ⟨by omega, fun j hj => by
        by_cases e : j = k
        · subst e; omega
        · exact hp j (by omega)⟩, by omega, les, leh⟩
    · obtain rfl : k = l.length := by omega
      refine retq rfl (congrArg AV.bool ?_)
      symm
      rw [shortB, Bool.and_eq_true]
      refine ⟨decide_eq_true hlm, List.all_eq_true.2 fun t ht => ?_⟩
      obtain ⟨j, hj, rfl⟩ := List.getElem_of_mem ht
      have := hp j hj
      simpa [hj] using this
  · repeat' (first | (show W _ _ _ _ _ _; first | apply kA | refine kB rfl ?_ | refine kC rfl rfl ?_ | refine kD rfl rfl ?_ | apply kE | apply kF | apply kG | apply kH | refine kI (by kernel_rfl) (by kernel_rfl) ?_) | (show O _ _ _ _ _ _ _; first | (show O _ _ _ _ (⟨_, .store _ _ _, _, _, _, _⟩ :: _) _ _; refine kJ rfl rfl rfl rfl rfl rfl rfl rfl rfl rfl rfl ?_) | apply kK) | apply kL | ((first | apply kM | apply kN); (iterate 3 (· exact rfl)); (· first | exact ya)) | refine kO rfl rfl rfl rfl rfl ?_ | refine kP rfl rfl rfl ?_ | ((first | refine kQ rfl rfl ?_ ?_ | refine kR rfl rfl rfl rfl rfl ?_ ?_ | refine kS rfl rfl rfl ?_ ?_) <;> intro hc <;> (try simp only [KL, cond_true, cond_false, beq_iff_eq, bne_iff_ne, ne_eq, reduceCtorEq] at hc) <;> (try (have hT : True := hc; clear hT hc)) <;> (try (exfalso; omega))) | apply kT | apply kU | apply kV | apply kW | refine kX rfl ?_ | apply kY | apply kZ)
    all_goals first | (exfalso; omega) | skip
    exact retq rfl (congrArg AV.bool (by rw [shortB, decide_eq_false hlm]; rfl))
end Go.Proofs.Ythmifkibfpcncaa
