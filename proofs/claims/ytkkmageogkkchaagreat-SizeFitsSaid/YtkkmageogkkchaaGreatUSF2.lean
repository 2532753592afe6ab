/- The statement SizeFits. No condition. -/
import Derived.Test.YtkkmageogkkchaaGreatUSX
import Derived.Test.YtkkmageogkkchaaGreatUSFt
set_option linter.unusedSimpArgs false
set_option linter.unusedVariables false
set_option maxHeartbeats 1000000
namespace Go.Proofs.YtkkmageogkkchaaGreat
set_option maxRecDepth 100000
set_option maxRecDepth 100000
open Go.RowKit
set_option maxHeartbeats 4000000 in
theorem sizeFits_fn (S : System) : Fn Tryz.prog 9 [.agg (eSystem S)] (.bool true) := by
  have c0 := awake39_fn
  have c1 := few31_fn S 20 (by omega)
  refine fnb Tryz.func9 (entered_of (by kernel_rfl)) rfl rfl rfl ?_
  refine wsys 0 rfl (fun hn => ?_)
  cases hf : fewS S 20
  case false =>
    rw [hf] at c1
    repeat' (first | refine sA ?_ | ((first | apply kM | apply kN); (iterate 3 (· exact rfl)); (· first | exact ya | exact q_c (c0) rfl | exact q_c (c1) rfl)) | refine sG ?_ | (refine sK ?_ ?_ <;> intro hc <;> (try simp only [KL, sL, reduceCtorEq] at hc) <;> (try (exfalso; omega))))
    all_goals exact retq rfl rfl
  have h := fewS_ok (by omega) hf hn
  have h1 := h.tl
  have h2 := h.ol
  rw [hf] at c1
  have c2 := fit_fn S h
  have c3 := rall_fn S h
  have hok := allN_ok S S.tasks.length
  change (allI S).e = 0 → (allI S).R.length = S.tasks.length ∧ (allI S).C.length = S.tasks.length ∧ (allI S).at_ = -1 at hok
  rw [fitS, fitB] at c2
  generalize allI S = a at *
  obtain ⟨R, Cs, at0, e0⟩ := a
  dsimp only at *
  repeat' (first | refine sA ?_ | ((first | apply kM | apply kN); (iterate 3 (· exact rfl)); (· first | exact ya | exact q_c (c0) rfl | exact q_c (c1) rfl)) | refine sG ?_ | (refine sK ?_ ?_ <;> intro hc <;> (try simp only [KL, sL, reduceCtorEq] at hc) <;> (try (exfalso; omega))))
  all_goals first | (exfalso; omega) | skip
  refine wloop (fun m : Nat => ([(1, .ref (eSystem S)), (21, .lst 7 (S.tasks.map eTask)), (22, .int .i64 S.tasks.length), (23, .int .i64 m)], [])) (fun m => m ≤ S.tasks.length) (fun m => S.tasks.length - m) 0 (Nat.zero_le _) les leh (fun m hm => ?_)
  rcases Nat.lt_or_eq_of_le hm with hml | hml
  · obtain ⟨t, ht⟩ : ∃ t, S.tasks.getD m default = t := ⟨_, rfl⟩
    repeat' (first | refine sA ?_ | (show O _ _ _ _ _ _ _; first | refine ao_alloc (id := 10) rfl rfl rfl rfl rfl rfl rfl ?_) | ((first | apply kM | apply kN); (iterate 3 (· exact rfl)); (· first | (show Y _ ⟨_, .indexAddr _ _ _, _, _, _, _⟩ _ _ _; first | exact Y.mk (ok_indexE (ht) rfl rfl rfl rfl rfl (by omega))) | exact ya | exact q_c (c0) rfl)) | refine sG ?_ | (refine sK ?_ ?_ <;> intro hc <;> (try simp only [KL, sL, reduceCtorEq] at hc) <;> (try (exfalso; omega))))
    all_goals first | (exfalso; omega) | exact retq rfl rfl | exact ⟨m + 1, by omega, by omega, les, leh⟩
  subst hml
  by_cases he : e0 = 0
  case neg =>
    rw [if_neg he, if_neg he] at c2
    have c4 := plSystem_fn S h
    repeat' (first | refine sA ?_ | (show O _ _ _ _ _ _ _; first | refine ao_alloc (id := 10) rfl rfl rfl rfl rfl rfl rfl ?_) | ((first | apply kM | apply kN); (iterate 3 (· exact rfl)); (· first | exact ya | exact q_c (c0) rfl | exact q_c (c2) rfl | exact q_c (c3) rfl | exact q_c (c4) rfl)) | refine sG ?_ | (refine sK ?_ ?_ <;> intro hc <;> (try simp only [KL, sL, reduceCtorEq] at hc) <;> (try (exfalso; omega))))
    all_goals first | (exfalso; omega) | exact retq rfl rfl
  rw [if_pos he, if_pos he] at c2
  obtain ⟨hRl, _, _⟩ := hok he
  subst he
  have hfl := fitN_len S R S.objects.length
  have hfd := fun j hj => fitN_done S R S.objects.length j hj hj
  have hend : okN S R S.objects.length = okN S R S.objects.length := rfl
  generalize fitN S R S.objects.length = fk at *
  generalize hb : okN S R S.objects.length = b at c2
  repeat' (first | refine sA ?_ | (show O _ _ _ _ _ _ _; first | refine ao_alloc (id := 10) rfl rfl rfl rfl rfl rfl rfl ?_) | ((first | apply kM | apply kN); (iterate 3 (· exact rfl)); (· first | exact ya | exact q_c (c2) rfl | exact q_c (c3) rfl)) | refine sG ?_ | (refine sK ?_ ?_ <;> intro hc <;> (try simp only [KL, sL, reduceCtorEq] at hc) <;> (try (exfalso; omega))))
  all_goals first | (exfalso; omega) | skip
  refine wloop (fun k : Nat => ([(1, .ref (eSystem S)), (5, .ptr 10 0), (6, .bool b), (7, .lst 1 (R.map eI)), (11, .bool (okN S R k)), (73, .lst 8 (S.objects.map eObject)), (74, .int .i64 S.objects.length), (75, .int .i64 k)], [(10, .blk 25 [.lst 7 (S.tasks.map eTask), .lst 8 (fk.map eObject)])])) (fun k => k ≤ S.objects.length) (fun k => S.objects.length - k) 0 (Nat.zero_le _) les leh (fun k hk => ?_)
  rcases Nat.lt_or_eq_of_le hk with hkl | hkl
  · have hat := hfd k hkl
    have honx : okN S R (k + 1) = (okN S R k && (rightO (fitO S R k (S.objects.getD k default)) || !rightO (S.objects.getD k default))) := rfl
    obtain ⟨o, ho⟩ : ∃ o, S.objects.getD k default = o := ⟨_, rfl⟩
    rw [ho] at hat honx
    have c4 := rslots_fn S h k R (by omega)
    have c5 := rcapsN_fn S h k R (by omega)
    have c6 := right14_fn o
    have c7 := right14_fn (fitO S R k o)
    have c8 := plObject_fn (fitO S R k o)
    have hfo : fitO S R k o = setCp (setSl o (if o.kind = 4 then max o.slots (slotsI S k R) else o.slots)) (if 3 ≤ o.kind ∧ o.kind ≤ 5 then max o.cap (capsN S k R) else o.cap) := rfl
    generalize okN S R k = bk at *
    generalize slotsI S (k : Int) R = sl at *
    generalize capsN S (k : Int) R = cp at *
    by_cases k4 : o.kind = 4
    · rw [if_pos k4, if_pos (by omega)] at hfo
      rw [hfo] at honx hat c7 c8
      generalize hr1 : rightO (setCp (setSl o (max o.slots sl)) (max o.cap cp)) = r1 at *
      generalize rightO o = r2 at *
      have hkk : (setSl o (max o.slots sl)).kind = o.kind := rfl
      rcases bk with _ | _
      rotate_left
      rcases r1 with _ | _
      rcases r2 with _ | _
      all_goals
        repeat' (first | refine sB ?_ | (show O _ _ _ _ _ _ _; first | refine ao_alloc (id := 11) rfl rfl rfl rfl rfl rfl rfl ?_) | ((first | apply kM | apply kN); (iterate 3 (· exact rfl)); (· first | (show Y _ ⟨_, .indexAddr _ _ _, _, _, _, _⟩ _ _ _; first | exact Y.mk (ok_indexE (ho) rfl rfl rfl rfl rfl (by omega))) | exact ya)) | refine sG ?_ | (refine sK ?_ ?_ <;> intro hc <;> (try simp only [KL, sL, reduceCtorEq] at hc) <;> (try (exfalso; omega))))
        all_goals first | (exfalso; omega) | skip
        refine wdrawC (H := fun y : Int => [(10, .blk 25 [.lst 7 (S.tasks.map eTask), .lst 8 (fk.map eObject)]), (11, .blk 36 (eObject (setSl o y)))]) (ok := fun _ => True) (tn := [8]) (ln := [1]) o.slots leh (by kernel_rfl) (by kernel_rfl) (by kernel_rfl) trivial ?_
        repeat' (first | refine sA ?_ | ((first | apply kM | apply kN); (iterate 3 (· exact rfl)); (· first | exact ya | exact q_c (c4) rfl)) | (show C _ _ _ _ _ _ _ _ _ _ _; first | refine cnil ?_ | (apply c_any; (· exact rfl); (· exact rfl); (· intro y' hy'; first | exact ya | exact q_c (c4) rfl)) | (apply c_ld; (· exact rfl); (· exact rfl); (· exact rfl); (· first | exact ya | exact q_c (c4) rfl)) | refine c_grdN rfl rfl rfl ?_) | refine sG ?_ | ((first | refine kQ rfl rfl ?_ ?_ | refine kR rfl rfl rfl rfl rfl ?_ ?_ | refine kS rfl rfl rfl ?_ ?_ | refine c_grd rfl rfl rfl ?_ ?_) <;> intro hc <;> (try simp only [KL, sL, reduceCtorEq] at hc) <;> (try (exfalso; omega))))
        refine c_tu (x' := max o.slots sl) rfl rfl trivial (TuO.post (tu_st (sto_B rfl rfl rfl rfl rfl rfl (Nat.le_of_ble_eq_true rfl)) rfl) leh) ?_
        repeat' (first | refine sB ?_ | ((first | apply kM | apply kN); (iterate 3 (· exact rfl)); (· first | exact ya)) | (show C _ _ _ _ _ _ _ _ _ _ _; first | refine cnil ?_ | (apply c_any; (· exact rfl); (· exact rfl); (· intro y' hy'; first | exact ya)) | (apply c_ld; (· exact rfl); (· exact rfl); (· exact rfl); (· first | exact ya)) | refine c_grdN rfl rfl rfl ?_) | refine sG ?_ | ((first | refine kQ rfl rfl ?_ ?_ | refine kR rfl rfl rfl rfl rfl ?_ ?_ | refine kS rfl rfl rfl ?_ ?_ | refine c_grd rfl rfl rfl ?_ ?_) <;> intro hc <;> (try simp only [KL, sL, reduceCtorEq] at hc) <;> (try (exfalso; omega))))
        all_goals first | (exfalso; omega) | skip
        refine wdrawC (H := fun y : Int => [(10, .blk 25 [.lst 7 (S.tasks.map eTask), .lst 8 (fk.map eObject)]), (11, .blk 36 (eObject (setCp (setSl o (max o.slots sl)) y)))]) (ok := fun _ => True) (tn := [8]) (ln := [1]) o.cap leh (by kernel_rfl) (by kernel_rfl) (by kernel_rfl) trivial ?_
        repeat' (first | refine sA ?_ | ((first | apply kM | apply kN); (iterate 3 (· exact rfl)); (· first | exact ya | exact q_c (c5) rfl)) | (show C _ _ _ _ _ _ _ _ _ _ _; first | refine cnil ?_ | (apply c_any; (· exact rfl); (· exact rfl); (· intro y' hy'; first | exact ya | exact q_c (c5) rfl)) | (apply c_ld; (· exact rfl); (· exact rfl); (· exact rfl); (· first | exact ya | exact q_c (c5) rfl)) | refine c_grdN rfl rfl rfl ?_) | refine sG ?_ | ((first | refine kQ rfl rfl ?_ ?_ | refine kR rfl rfl rfl rfl rfl ?_ ?_ | refine kS rfl rfl rfl ?_ ?_ | refine c_grd rfl rfl rfl ?_ ?_) <;> intro hc <;> (try simp only [KL, sL, reduceCtorEq] at hc) <;> (try (exfalso; omega))))
        refine c_tu (x' := max o.cap cp) rfl rfl trivial (TuO.post (tu_st (sto_B rfl rfl rfl rfl rfl rfl (Nat.le_of_ble_eq_true rfl)) rfl) leh) ?_
        repeat' (first | refine sA ?_ | ((first | apply kM | apply kN); (iterate 3 (· exact rfl)); (· first | (show Y _ ⟨_, .indexAddr _ _ _, _, _, _, _⟩ _ _ _; first | exact Y.mk (ok_indexE (ho) rfl rfl rfl rfl rfl (by omega)) | exact Y.mk (ok_indexE (hat) rfl rfl rfl rfl rfl (by omega))) | exact ya | exact q_c (c6) rfl | exact q_c (c7) rfl | exact q_c (c8) rfl)) | (show C _ _ _ _ _ _ _ _ _ _ _; first | refine cnil ?_ | (apply c_any; (· exact rfl); (· exact rfl); (· intro y' hy'; first | (show Y _ ⟨_, .indexAddr _ _ _, _, _, _, _⟩ _ _ _; first | exact Y.mk (ok_indexE (ho) rfl rfl rfl rfl rfl (by omega)) | exact Y.mk (ok_indexE (hat) rfl rfl rfl rfl rfl (by omega))) | exact ya | exact q_c (c6) rfl | exact q_c (c7) rfl | exact q_c (c8) rfl)) | (apply c_ld; (· exact rfl); (· exact rfl); (· exact rfl); (· first | (show Y _ ⟨_, .indexAddr _ _ _, _, _, _, _⟩ _ _ _; first | exact Y.mk (ok_indexE (ho) rfl rfl rfl rfl rfl (by omega)) | exact Y.mk (ok_indexE (hat) rfl rfl rfl rfl rfl (by omega))) | exact ya | exact q_c (c6) rfl | exact q_c (c7) rfl | exact q_c (c8) rfl)) | refine c_grdN rfl rfl rfl ?_) | refine sG ?_ | ((first | refine kQ rfl rfl ?_ ?_ | refine kR rfl rfl rfl rfl rfl ?_ ?_ | refine kS rfl rfl rfl ?_ ?_ | refine c_grd rfl rfl rfl ?_ ?_) <;> intro hc <;> (try simp only [KL, sL, reduceCtorEq] at hc) <;> (try (exfalso; omega))))
        all_goals first | (exfalso; omega) | exact ⟨k + 1, by omega, by omega, by dsimp only; rw [honx]; exact les, leh⟩
    by_cases k3 : 3 ≤ o.kind ∧ o.kind ≤ 5
    · rw [if_neg k4, if_pos k3] at hfo
      have hfo : fitO S R k o = setCp o (max o.cap cp) := hfo
      rw [hfo] at honx hat c7 c8
      generalize hr1 : rightO (setCp o (max o.cap cp)) = r1 at *
      generalize rightO o = r2 at *
      rcases bk with _ | _
      rotate_left
      rcases r1 with _ | _
      rcases r2 with _ | _
      all_goals
        repeat' (first | refine sB ?_ | (show O _ _ _ _ _ _ _; first | refine ao_alloc (id := 11) rfl rfl rfl rfl rfl rfl rfl ?_) | ((first | apply kM | apply kN); (iterate 3 (· exact rfl)); (· first | (show Y _ ⟨_, .indexAddr _ _ _, _, _, _, _⟩ _ _ _; first | exact Y.mk (ok_indexE (ho) rfl rfl rfl rfl rfl (by omega))) | exact ya)) | refine sG ?_ | (refine sK ?_ ?_ <;> intro hc <;> (try simp only [KL, sL, reduceCtorEq] at hc) <;> (try (exfalso; omega))))
        all_goals first | (exfalso; omega) | skip
        all_goals refine wdrawC (H := fun y : Int => [(10, .blk 25 [.lst 7 (S.tasks.map eTask), .lst 8 (fk.map eObject)]), (11, .blk 36 (eObject (setCp o y)))]) (ok := fun _ => True) (tn := [8]) (ln := [1]) o.cap leh (by kernel_rfl) (by kernel_rfl) (by kernel_rfl) trivial ?_
        all_goals repeat' (first | refine sA ?_ | ((first | apply kM | apply kN); (iterate 3 (· exact rfl)); (· first | exact ya | exact q_c (c5) rfl)) | (show C _ _ _ _ _ _ _ _ _ _ _; first | refine cnil ?_ | (apply c_any; (· exact rfl); (· exact rfl); (· intro y' hy'; first | exact ya | exact q_c (c5) rfl)) | (apply c_ld; (· exact rfl); (· exact rfl); (· exact rfl); (· first | exact ya | exact q_c (c5) rfl)) | refine c_grdN rfl rfl rfl ?_) | refine sG ?_ | ((first | refine kQ rfl rfl ?_ ?_ | refine kR rfl rfl rfl rfl rfl ?_ ?_ | refine kS rfl rfl rfl ?_ ?_ | refine c_grd rfl rfl rfl ?_ ?_) <;> intro hc <;> (try simp only [KL, sL, reduceCtorEq] at hc) <;> (try (exfalso; omega))))
        all_goals refine c_tu (x' := max o.cap cp) rfl rfl trivial (TuO.post (tu_st (sto_B rfl rfl rfl rfl rfl rfl (Nat.le_of_ble_eq_true rfl)) rfl) leh) ?_
        all_goals repeat' (first | refine sA ?_ | ((first | apply kM | apply kN); (iterate 3 (· exact rfl)); (· first | (show Y _ ⟨_, .indexAddr _ _ _, _, _, _, _⟩ _ _ _; first | exact Y.mk (ok_indexE (ho) rfl rfl rfl rfl rfl (by omega)) | exact Y.mk (ok_indexE (hat) rfl rfl rfl rfl rfl (by omega))) | exact ya | exact q_c (c6) rfl | exact q_c (c7) rfl | exact q_c (c8) rfl)) | (show C _ _ _ _ _ _ _ _ _ _ _; first | refine cnil ?_ | (apply c_any; (· exact rfl); (· exact rfl); (· intro y' hy'; first | (show Y _ ⟨_, .indexAddr _ _ _, _, _, _, _⟩ _ _ _; first | exact Y.mk (ok_indexE (ho) rfl rfl rfl rfl rfl (by omega)) | exact Y.mk (ok_indexE (hat) rfl rfl rfl rfl rfl (by omega))) | exact ya | exact q_c (c6) rfl | exact q_c (c7) rfl | exact q_c (c8) rfl)) | (apply c_ld; (· exact rfl); (· exact rfl); (· exact rfl); (· first | (show Y _ ⟨_, .indexAddr _ _ _, _, _, _, _⟩ _ _ _; first | exact Y.mk (ok_indexE (ho) rfl rfl rfl rfl rfl (by omega)) | exact Y.mk (ok_indexE (hat) rfl rfl rfl rfl rfl (by omega))) | exact ya | exact q_c (c6) rfl | exact q_c (c7) rfl | exact q_c (c8) rfl)) | refine c_grdN rfl rfl rfl ?_) | refine sG ?_ | ((first | refine kQ rfl rfl ?_ ?_ | refine kR rfl rfl rfl rfl rfl ?_ ?_ | refine kS rfl rfl rfl ?_ ?_ | refine c_grd rfl rfl rfl ?_ ?_) <;> intro hc <;> (try simp only [KL, sL, reduceCtorEq] at hc) <;> (try (exfalso; omega))))
        all_goals first | (exfalso; omega) | exact ⟨k + 1, by omega, by omega, by dsimp only; rw [honx]; exact les, leh⟩
    · rw [if_neg k4, if_neg k3] at hfo
      have hfo : fitO S R k o = o := hfo
      rw [hfo] at honx hat c7 c8
      generalize rightO o = r2 at *
      cases bk <;> cases r2
      all_goals
        repeat' (first | refine sA ?_ | (show O _ _ _ _ _ _ _; first | refine ao_alloc (id := 11) rfl rfl rfl rfl rfl rfl rfl ?_) | ((first | apply kM | apply kN); (iterate 3 (· exact rfl)); (· first | (show Y _ ⟨_, .indexAddr _ _ _, _, _, _, _⟩ _ _ _; first | exact Y.mk (ok_indexE (ho) rfl rfl rfl rfl rfl (by omega)) | exact Y.mk (ok_indexE (hat) rfl rfl rfl rfl rfl (by omega))) | exact ya | exact q_c (c6) rfl | exact q_c (c8) rfl)) | refine sG ?_ | (refine sK ?_ ?_ <;> intro hc <;> (try simp only [KL, sL, reduceCtorEq] at hc) <;> (try (exfalso; omega))))
        all_goals first | (exfalso; omega) | exact ⟨k + 1, by omega, by omega, by dsimp only; rw [honx]; exact les, leh⟩
  subst hkl
  rw [hb]
  repeat' (first | refine sA ?_ | ((first | apply kM | apply kN); (iterate 3 (· exact rfl)); (· first | exact ya)) | refine sG ?_ | (refine sK ?_ ?_ <;> intro hc <;> (try simp only [KL, sL, reduceCtorEq] at hc) <;> (try (exfalso; omega))))
  all_goals first | (exfalso; omega) | skip
  refine wloop (fun m : Nat => ([(1, .ref (eSystem S)), (5, .ptr 10 0), (6, .bool b), (11, .bool b), (136, .lst 7 (S.tasks.map eTask)), (137, .int .i64 S.tasks.length), (138, .int .i64 m)], [(10, .blk 25 [.lst 7 (S.tasks.map eTask), .lst 8 (fk.map eObject)])])) (fun m => m ≤ S.tasks.length) (fun m => S.tasks.length - m) 0 (Nat.zero_le _) les leh (fun m hm => ?_)
  rcases Nat.lt_or_eq_of_le hm with hml | hml
  · obtain ⟨t, ht⟩ : ∃ t, S.tasks.getD m default = t := ⟨_, rfl⟩
    repeat' (first | refine sA ?_ | (show O _ _ _ _ _ _ _; first | refine ao_alloc (id := 11) rfl rfl rfl rfl rfl rfl rfl ?_) | ((first | apply kM | apply kN); (iterate 3 (· exact rfl)); (· first | (show Y _ ⟨_, .indexAddr _ _ _, _, _, _, _⟩ _ _ _; first | exact Y.mk (ok_indexE (ht) rfl rfl rfl rfl rfl (by omega))) | exact ya | exact q_c (plTask_fn t) rfl)) | refine sG ?_ | (refine sK ?_ ?_ <;> intro hc <;> (try simp only [KL, sL, reduceCtorEq] at hc) <;> (try (exfalso; omega))))
    all_goals first | (exfalso; omega) | exact ⟨m + 1, by omega, by omega, les, leh⟩
  · subst hml
    cases b
    all_goals
      repeat' (first | refine sA ?_ | ((first | apply kM | apply kN); (iterate 3 (· exact rfl)); (· first | exact ya | exact q_c (c0) rfl)) | refine sG ?_ | (refine sK ?_ ?_ <;> intro hc <;> (try simp only [KL, sL, reduceCtorEq] at hc) <;> (try (exfalso; omega))))
      all_goals first | (exfalso; omega) | exact retq rfl rfl | (exfalso; revert hc; simp; done)
end Go.Proofs.YtkkmageogkkchaaGreat
