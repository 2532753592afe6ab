/- A system's copy; whether systems are the same, of two that are. No condition. -/
import Derived.Test.YtkkmageogkkchaaGreatUDX
set_option linter.unusedSimpArgs false
set_option linter.unusedVariables false
set_option maxHeartbeats 1000000
namespace Go.Proofs.YtkkmageogkkchaaGreat
set_option maxRecDepth 100000
set_option maxRecDepth 100000
open Go.RowKit
theorem clV_U (l : List Int) (hn : l.length ≤ 1000000) : Fn Tryz.prog 109 [.lst 1 (l.map eU)] (.lst 1 (l.map eU)) := by
  refine fnb Tryz.func109 (entered_of (by kernel_rfl)) rfl rfl rfl ?_
  repeat' (first | refine sA ?_ | ((first | apply kM | apply kN); (iterate 3 (· exact rfl)); (· first | exact ya)) | refine sG ?_ | (refine sK ?_ ?_ <;> intro hc <;> (try simp only [KL, sL, reduceCtorEq] at hc) <;> (try (exfalso; omega))))
  refine ao_nilq rfl rfl rfl rfl rfl rfl rfl (fun b hb => ?_)
  cases b
  · repeat' (first | refine sA ?_ | ((first | apply kM | apply kN); (iterate 3 (· exact rfl)); (· first | exact yag)) | refine sG ?_ | (refine sK ?_ ?_ <;> intro hc <;> (try simp only [KL, sL, reduceCtorEq] at hc) <;> (try (exfalso; omega))))
    refine o_blit (f := eU) (l := []) (id := 10) (sz := 1) rfl rfl rfl rfl rfl rfl rfl rfl rfl rfl rfl rfl rfl rfl ?_
    repeat' (first | refine sA ?_ | ((first | apply kM | apply kN); (iterate 3 (· exact rfl)); (· first | exact ya)) | refine sG ?_ | (refine sK ?_ ?_ <;> intro hc <;> (try simp only [KL, sL, reduceCtorEq] at hc) <;> (try (exfalso; omega))))
    (refine ao_ap (id := 10) (ys := l) (by_ := 4) rfl rfl rfl rfl rfl rfl rfl rfl rfl rfl (fun _ _ => rfl) ?_ ?_ rfl rfl rfl rfl rfl ?_; (· (first | omega | ((try simp only [List.length_cons, List.length_nil, List.length_append, List.length_map]) <;> omega))); (· (first | omega | ((try simp only [List.length_cons, List.length_nil, List.length_append, List.length_map]) <;> omega))))
    repeat' (first | refine sA ?_ | ((first | apply kM | apply kN); (iterate 3 (· exact rfl)); (· first | exact ya)) | refine sG ?_ | (refine sK ?_ ?_ <;> intro hc <;> (try simp only [KL, sL, reduceCtorEq] at hc) <;> (try (exfalso; omega))))
    refine retT (fun _ => turn_freeze (t := 2) rfl rfl rfl) ?_
    exact retq rfl rfl
  · have h0 : l = [] := by simpa using hb rfl
    subst h0
    repeat' (first | refine sA ?_ | ((first | apply kM | apply kN); (iterate 3 (· exact rfl)); (· first | exact ya)) | refine sG ?_ | (refine sK ?_ ?_ <;> intro hc <;> (try simp only [KL, sL, reduceCtorEq] at hc) <;> (try (exfalso; omega))))
    refine retT (fun _ => turn_nil 1 (t := 2) rfl) ?_
    exact retq rfl rfl
theorem clV_I (l : List Int) (hn : l.length ≤ 1000000) : Fn Tryz.prog 110 [.lst 1 (l.map eI)] (.lst 1 (l.map eI)) := by
  refine fnb Tryz.func110 (entered_of (by kernel_rfl)) rfl rfl rfl ?_
  repeat' (first | refine sA ?_ | ((first | apply kM | apply kN); (iterate 3 (· exact rfl)); (· first | exact ya)) | refine sG ?_ | (refine sK ?_ ?_ <;> intro hc <;> (try simp only [KL, sL, reduceCtorEq] at hc) <;> (try (exfalso; omega))))
  refine ao_nilq rfl rfl rfl rfl rfl rfl rfl (fun b hb => ?_)
  cases b
  · repeat' (first | refine sA ?_ | ((first | apply kM | apply kN); (iterate 3 (· exact rfl)); (· first | exact yag)) | refine sG ?_ | (refine sK ?_ ?_ <;> intro hc <;> (try simp only [KL, sL, reduceCtorEq] at hc) <;> (try (exfalso; omega))))
    refine o_blit (f := eI) (l := []) (id := 10) (sz := 1) rfl rfl rfl rfl rfl rfl rfl rfl rfl rfl rfl rfl rfl rfl ?_
    repeat' (first | refine sA ?_ | ((first | apply kM | apply kN); (iterate 3 (· exact rfl)); (· first | exact ya)) | refine sG ?_ | (refine sK ?_ ?_ <;> intro hc <;> (try simp only [KL, sL, reduceCtorEq] at hc) <;> (try (exfalso; omega))))
    (refine ao_ap (id := 10) (ys := l) (by_ := 8) rfl rfl rfl rfl rfl rfl rfl rfl rfl rfl (fun _ _ => rfl) ?_ ?_ rfl rfl rfl rfl rfl ?_; (· (first | omega | ((try simp only [List.length_cons, List.length_nil, List.length_append, List.length_map]) <;> omega))); (· (first | omega | ((try simp only [List.length_cons, List.length_nil, List.length_append, List.length_map]) <;> omega))))
    repeat' (first | refine sA ?_ | ((first | apply kM | apply kN); (iterate 3 (· exact rfl)); (· first | exact ya)) | refine sG ?_ | (refine sK ?_ ?_ <;> intro hc <;> (try simp only [KL, sL, reduceCtorEq] at hc) <;> (try (exfalso; omega))))
    refine retT (fun _ => turn_freeze (t := 2) rfl rfl rfl) ?_
    exact retq rfl rfl
  · have h0 : l = [] := by simpa using hb rfl
    subst h0
    repeat' (first | refine sA ?_ | ((first | apply kM | apply kN); (iterate 3 (· exact rfl)); (· first | exact ya)) | refine sG ?_ | (refine sK ?_ ?_ <;> intro hc <;> (try simp only [KL, sL, reduceCtorEq] at hc) <;> (try (exfalso; omega))))
    refine retT (fun _ => turn_nil 1 (t := 2) rfl) ?_
    exact retq rfl rfl
theorem clV_In (l : List Instr) (hn : l.length ≤ 1000000) : Fn Tryz.prog 148 [.lst 5 (l.map eInstr)] (.lst 5 (l.map eInstr)) := by
  refine fnb Tryz.func148 (entered_of (by kernel_rfl)) rfl rfl rfl ?_
  repeat' (first | refine sA ?_ | ((first | apply kM | apply kN); (iterate 3 (· exact rfl)); (· first | exact ya)) | refine sG ?_ | (refine sK ?_ ?_ <;> intro hc <;> (try simp only [KL, sL, reduceCtorEq] at hc) <;> (try (exfalso; omega))))
  refine ao_nilq rfl rfl rfl rfl rfl rfl rfl (fun b hb => ?_)
  cases b
  · repeat' (first | refine sA ?_ | ((first | apply kM | apply kN); (iterate 3 (· exact rfl)); (· first | exact yag)) | refine sG ?_ | (refine sK ?_ ?_ <;> intro hc <;> (try simp only [KL, sL, reduceCtorEq] at hc) <;> (try (exfalso; omega))))
    refine o_blit (f := eInstr) (l := []) (id := 10) (sz := 5) rfl rfl rfl rfl rfl rfl rfl rfl rfl rfl rfl rfl rfl rfl ?_
    repeat' (first | refine sA ?_ | ((first | apply kM | apply kN); (iterate 3 (· exact rfl)); (· first | exact ya)) | refine sG ?_ | (refine sK ?_ ?_ <;> intro hc <;> (try simp only [KL, sL, reduceCtorEq] at hc) <;> (try (exfalso; omega))))
    (refine ao_ap (id := 10) (ys := l) (by_ := 40) rfl rfl rfl rfl rfl rfl rfl rfl rfl rfl (fun _ _ => rfl) ?_ ?_ rfl rfl rfl rfl rfl ?_; (· (first | omega | ((try simp only [List.length_cons, List.length_nil, List.length_append, List.length_map]) <;> omega))); (· (first | omega | ((try simp only [List.length_cons, List.length_nil, List.length_append, List.length_map]) <;> omega))))
    repeat' (first | refine sA ?_ | ((first | apply kM | apply kN); (iterate 3 (· exact rfl)); (· first | exact ya)) | refine sG ?_ | (refine sK ?_ ?_ <;> intro hc <;> (try simp only [KL, sL, reduceCtorEq] at hc) <;> (try (exfalso; omega))))
    refine retT (fun _ => turn_freeze (t := 2) rfl rfl rfl) ?_
    exact retq rfl rfl
  · have h0 : l = [] := by simpa using hb rfl
    subst h0
    repeat' (first | refine sA ?_ | ((first | apply kM | apply kN); (iterate 3 (· exact rfl)); (· first | exact ya)) | refine sG ?_ | (refine sK ?_ ?_ <;> intro hc <;> (try simp only [KL, sL, reduceCtorEq] at hc) <;> (try (exfalso; omega))))
    refine retT (fun _ => turn_nil 5 (t := 2) rfl) ?_
    exact retq rfl rfl
theorem tcopy_fn (t : Task) (hn : t.code.length ≤ 1000) : Fn Tryz.prog 108 [.agg (eTask t)] (.agg (eTask t)) := by
  have c1 := clV_In t.code (by omega)
  refine fnb Tryz.func108 (entered_of (by kernel_rfl)) rfl rfl rfl ?_
  repeat' (first | refine sA ?_ | (show O _ _ _ _ _ _ _; first | (show O _ _ _ _ (⟨_, .box _ _, _, _, _, _⟩ :: _) _ _; first | refine ao_box (id := 10) rfl rfl rfl rfl rfl rfl rfl rfl ?_) | refine ao_alloc (id := 11) rfl rfl rfl rfl rfl rfl rfl ?_) | ((first | apply kM | apply kN); (iterate 3 (· exact rfl)); (· first | exact yab | exact q_c (c1) rfl)) | refine sG ?_ | (refine sK ?_ ?_ <;> intro hc <;> (try simp only [KL, sL, reduceCtorEq] at hc) <;> (try (exfalso; omega))))
  exact retq rfl rfl
theorem take_snocA {α : Type} [Inhabited α] {l : List α} {k : Nat} (hk : k < l.length) : l.take (k + 1) = l.take k ++ [l.getD k default] := by
  rw [List.take_succ_eq_append_getElem hk]; simp [hk]
set_option maxHeartbeats 2000000 in
theorem scopy_fn (S : System) (h : OkS S) : FnH Tryz.prog 80 [.agg (eSystem S)] [(5, .row 36 8 (([] : List Object).map eObject))] (fun r h' => r = .agg [.lst 7 (S.tasks.map eTask), .own 5] ∧ h' = [(5, .row 36 8 (S.objects.map eObject))]) := by
  have h1 := h.tl
  have h2 := h.ol
  have hcl := h.cl
  have hil := h.il
  have hrl := h.rl
  obtain ⟨ts, os⟩ := S
  dsimp only at h1 h2 hcl hil hrl
  refine FnH.drop' (fnhb Tryz.func80 (entered_of (by kernel_rfl)) rfl rfl ?_)
  refine wle (s' := [(0, .agg (eSystem ⟨ts, os⟩))]) (h' := []) les leh ?_
  repeat' (first | refine sA ?_ | (show O _ _ _ _ _ _ _; first | refine ao_alloc (id := 10) rfl rfl rfl rfl rfl rfl rfl ?_ | refine ao_alloc (id := 11) rfl rfl rfl rfl rfl rfl rfl ?_) | ((first | apply kM | apply kN); (iterate 3 (· exact rfl)); (· first | exact ya)) | refine sG ?_ | (refine sK ?_ ?_ <;> intro hc <;> (try simp only [KL, sL, reduceCtorEq] at hc) <;> (try (exfalso; omega))))
  refine wturn (turn_ownJ eTask (b := 11) 0 rfl rfl 12 44 7 (by omega) rfl) ?_
  refine wturn (turn_ownJ eObject (b := 11) 1 rfl rfl 5 36 8 (by omega) rfl) ?_
  refine wloop (fun k : Nat => ([(1, .ref (eSystem ⟨ts, os⟩)), (2, .ptr 10 0), (3, .ptr 11 0), (9, .lst 7 (ts.map eTask)), (10, .int .i64 ts.length), (11, .int .i64 k)], [(10, .blk 25 [.nils, .nils]), (11, .blk 25 [.own 12, .own 5]), (12, .row 44 7 ((ts.take k).map eTask)), (5, .row 36 8 (([] : List Object).map eObject))])) (fun k => k ≤ ts.length) (fun k => ts.length - k) 0 (Nat.zero_le _) les leh (fun k hk => ?_)
  rcases Nat.lt_or_eq_of_le hk with hkl | hkl
  · have e2 := take_snocA hkl
    have hlen : (ts.take k).length = k := by simp; omega
    have h3 := hcl k
    obtain ⟨t, ht⟩ : ∃ t, ts.getD k default = t := ⟨_, rfl⟩
    rw [ht] at e2 h3
    have c1 := tcopy_fn t (by omega)
    generalize ts.take k = tk at *
    repeat' (first | refine sB ?_ | (show O _ _ _ _ _ _ _; first | refine ao_alloc (id := 13) rfl rfl rfl rfl rfl rfl rfl ?_) | ((first | apply kM | apply kN); (iterate 3 (· exact rfl)); (· first | (show Y _ ⟨_, .indexAddr _ _ _, _, _, _, _⟩ _ _ _; first | exact Y.mk (ok_indexE (ht) rfl rfl rfl rfl rfl (by omega))) | exact ya)) | refine sG ?_ | (refine sK ?_ ?_ <;> intro hc <;> (try simp only [KL, sL, reduceCtorEq] at hc) <;> (try (exfalso; omega))))
    all_goals first | (exfalso; omega) | skip
    refine wdrawK (H := fun y : List Task × AV => [(12, .row 44 7 (y.1.map eTask)), (11, .blk 25 [y.2, .own 5]), (10, .blk 25 [.nils, .nils]), (5, .row 36 8 (([] : List Object).map eObject)), (13, .blk 44 (eTask t))]) (ok := fun _ => True) (tn := [5, 7]) (ln := [1]) (c := 5) (R := 12) (tk, .own 12) leh (by kernel_rfl) (by kernel_rfl) (by kernel_rfl) trivial ?_
    repeat' (first | refine sA ?_ | ((first | apply kM | apply kN); (iterate 3 (· exact rfl)); (· first | exact ya | exact q_c (c1) rfl)) | (show KW _ _ _ _ _ _ _ _ _ _ _ _ _; first | refine knil rfl ?_ | (apply k_any; (· exact rfl); (· exact rfl); (· exact rfl); (· intro y' hy'; first | exact ya | exact q_c (c1) rfl); (· first | exact rfl | kernel_rfl)) | (apply k_ld; (· exact rfl); (· exact rfl); (· exact rfl); (· exact rfl); (· first | exact ya | exact q_c (c1) rfl); (· first | exact rfl | kernel_rfl))) | refine sG ?_ | (refine sK ?_ ?_ <;> intro hc <;> (try simp only [KL, sL, reduceCtorEq] at hc) <;> (try (exfalso; omega))))
    refine k_mv (x' := (tk ++ [t], .undef)) rfl rfl rfl trivial
      (TuK.post (TuK.pre (pre_mask (h2 := [(12, .row 44 7 (tk.map eTask)), (11, .blk 25 [.undef, .own 5]), (10, .blk 25 [.nils, .nils]), (5, .row 36 8 (([] : List Object).map eObject)), (13, .blk 44 (eTask t))]) [true, false] (id := 11) rfl leh)
        (tk_append (ys := [t]) (by_ := 72) rfl rfl rfl rfl rfl rfl rfl rfl rfl rfl (fun _ _ => rfl) (by simp only [List.length_cons, List.length_nil]; omega) (by simp only [List.length_cons, List.length_nil]; omega) rfl rfl)) leh) ?_
    repeat' (first | refine sA ?_ | ((first | apply kM | apply kN); (iterate 3 (· exact rfl)); (· first | exact ya)) | (show KW _ _ _ _ _ _ _ _ _ _ _ _ _; first | refine knil rfl ?_ | (apply k_any; (· exact rfl); (· exact rfl); (· exact rfl); (· intro y' hy'; first | exact ya); (· first | exact rfl | kernel_rfl)) | (apply k_ld; (· exact rfl); (· exact rfl); (· exact rfl); (· exact rfl); (· first | exact ya); (· first | exact rfl | kernel_rfl))) | refine sG ?_ | (refine sK ?_ ?_ <;> intro hc <;> (try simp only [KL, sL, reduceCtorEq] at hc) <;> (try (exfalso; omega))))
    refine k_tu (x' := (tk ++ [t], .own 12)) rfl rfl rfl trivial ((tu_st (sto_B rfl rfl rfl rfl rfl rfl (Nat.le_of_ble_eq_true rfl)) rfl).post leh) (by kernel_rfl) ?_
    repeat' (first | refine sA ?_ | ((first | apply kM | apply kN); (iterate 3 (· exact rfl)); (· first | exact ya)) | (show KW _ _ _ _ _ _ _ _ _ _ _ _ _; first | refine knil rfl ?_ | (apply k_any; (· exact rfl); (· exact rfl); (· exact rfl); (· intro y' hy'; first | exact ya); (· first | exact rfl | kernel_rfl)) | (apply k_ld; (· exact rfl); (· exact rfl); (· exact rfl); (· exact rfl); (· first | exact ya); (· first | exact rfl | kernel_rfl))) | refine sG ?_ | (refine sK ?_ ?_ <;> intro hc <;> (try simp only [KL, sL, reduceCtorEq] at hc) <;> (try (exfalso; omega))))
    exact ⟨k + 1, by omega, by omega, les, by dsimp only; rw [e2]; exact leh⟩
  subst hkl
  rw [List.take_length]
  refine wturn (turn_frzJ (b := 11) 0 rfl rfl rfl rfl) ?_
  repeat' (first | refine sA ?_ | ((first | apply kM | apply kN); (iterate 3 (· exact rfl)); (· first | exact ya)) | refine sG ?_ | (refine sK ?_ ?_ <;> intro hc <;> (try simp only [KL, sL, reduceCtorEq] at hc) <;> (try (exfalso; omega))))
  all_goals first | (exfalso; omega) | skip
  refine wloop (fun k : Nat => ([(1, .ref (eSystem ⟨ts, os⟩)), (2, .ptr 10 0), (3, .ptr 11 0), (24, .lst 8 (os.map eObject)), (25, .int .i64 os.length), (26, .int .i64 k)], [(10, .blk 25 [.nils, .nils]), (11, .blk 25 [.lst 7 (ts.map eTask), .own 5]), (5, .row 36 8 ((os.take k).map eObject))])) (fun k => k ≤ os.length) (fun k => os.length - k) 0 (Nat.zero_le _) les leh (fun k hk => ?_)
  rcases Nat.lt_or_eq_of_le hk with hkl | hkl
  · have e2 := take_snocA hkl
    have hlen : (os.take k).length = k := by simp; omega
    have h3 := hil k
    have h4 := hrl k
    obtain ⟨o, ho⟩ : ∃ o, os.getD k default = o := ⟨_, rfl⟩
    rw [ho] at e2 h3 h4
    have c1 := clV_U o.init (by omega)
    have c2 := clV_I o.readers (by omega)
    generalize os.take k = ok at *
    repeat' (first | refine sB ?_ | (show O _ _ _ _ _ _ _; first | refine ao_alloc (id := 13) rfl rfl rfl rfl rfl rfl rfl ?_) | ((first | apply kM | apply kN); (iterate 3 (· exact rfl)); (· first | (show Y _ ⟨_, .indexAddr _ _ _, _, _, _, _⟩ _ _ _; first | exact Y.mk (ok_indexE (ho) rfl rfl rfl rfl rfl (by omega))) | exact ya)) | refine sG ?_ | (refine sK ?_ ?_ <;> intro hc <;> (try simp only [KL, sL, reduceCtorEq] at hc) <;> (try (exfalso; omega))))
    all_goals first | (exfalso; omega) | skip
    refine wdrawC (H := fun _ : Unit => [(11, .blk 25 [.lst 7 (ts.map eTask), .own 5]), (10, .blk 25 [.nils, .nils]), (5, .row 36 8 (ok.map eObject)), (13, .blk 36 (eObject o))]) (ok := fun _ => True) (tn := [7, 9]) (ln := []) () leh (by kernel_rfl) (by kernel_rfl) (by kernel_rfl) trivial ?_
    repeat' (first | refine sA ?_ | ((first | apply kM | apply kN); (iterate 3 (· exact rfl)); (· first | exact ya | exact q_c (c1) rfl | exact q_c (c2) rfl)) | (show C _ _ _ _ _ _ _ _ _ _ _; first | refine cnil ?_ | (apply c_any; (· exact rfl); (· exact rfl); (· intro y' hy'; first | exact ya | exact q_c (c1) rfl | exact q_c (c2) rfl)) | (apply c_ld; (· exact rfl); (· exact rfl); (· exact rfl); (· first | exact ya | exact q_c (c1) rfl | exact q_c (c2) rfl)) | refine c_grdN rfl rfl rfl ?_) | refine sG ?_ | ((first | refine kQ rfl rfl ?_ ?_ | refine kR rfl rfl rfl rfl rfl ?_ ?_ | refine kS rfl rfl rfl ?_ ?_ | refine c_grd rfl rfl rfl ?_ ?_) <;> intro hc <;> (try simp only [KL, sL, reduceCtorEq] at hc) <;> (try (exfalso; omega))))
    refine c_tu (x' := ()) rfl rfl trivial (TuO.post (tu_st (sto_B rfl rfl rfl rfl rfl rfl (Nat.le_of_ble_eq_true rfl)) rfl) leh) ?_
    repeat' (first | refine sA ?_ | ((first | apply kM | apply kN); (iterate 3 (· exact rfl)); (· first | exact ya)) | (show C _ _ _ _ _ _ _ _ _ _ _; first | refine cnil ?_ | (apply c_any; (· exact rfl); (· exact rfl); (· intro y' hy'; first | exact ya)) | (apply c_ld; (· exact rfl); (· exact rfl); (· exact rfl); (· first | exact ya)) | refine c_grdN rfl rfl rfl ?_) | refine sG ?_ | ((first | refine kQ rfl rfl ?_ ?_ | refine kR rfl rfl rfl rfl rfl ?_ ?_ | refine kS rfl rfl rfl ?_ ?_ | refine c_grd rfl rfl rfl ?_ ?_) <;> intro hc <;> (try simp only [KL, sL, reduceCtorEq] at hc) <;> (try (exfalso; omega))))
    refine c_tu (x' := ()) rfl rfl trivial (TuO.post (tu_st (sto_B rfl rfl rfl rfl rfl rfl (Nat.le_of_ble_eq_true rfl)) rfl) leh) ?_
    repeat' (first | refine sA ?_ | ((first | apply kM | apply kN); (iterate 3 (· exact rfl)); (· first | exact ya)) | (show C _ _ _ _ _ _ _ _ _ _ _; first | refine cnil ?_ | (apply c_any; (· exact rfl); (· exact rfl); (· intro y' hy'; first | exact ya)) | (apply c_ld; (· exact rfl); (· exact rfl); (· exact rfl); (· first | exact ya)) | refine c_grdN rfl rfl rfl ?_) | refine sG ?_ | ((first | refine kQ rfl rfl ?_ ?_ | refine kR rfl rfl rfl rfl rfl ?_ ?_ | refine kS rfl rfl rfl ?_ ?_ | refine c_grd rfl rfl rfl ?_ ?_) <;> intro hc <;> (try simp only [KL, sL, reduceCtorEq] at hc) <;> (try (exfalso; omega))))
    refine oturn (turn_mask [false, true] (id := 11) rfl) ?_
    refine ole (h' := [(5, .row 36 8 (ok.map eObject)), (11, .blk 25 [.lst 7 (ts.map eTask), .undef]), (10, .blk 25 [.nils, .nils]), (13, .blk 36 (eObject o))]) (LeS.refl _) leh ?_
    (refine ao_ap (id := 5) (ys := [o]) (by_ := 96) rfl rfl rfl rfl rfl rfl rfl rfl rfl rfl (fun _ _ => rfl) ?_ ?_ rfl rfl rfl rfl rfl ?_; (· (first | omega | ((try simp only [List.length_cons, List.length_nil, List.length_append, List.length_map]) <;> omega))); (· (first | omega | ((try simp only [List.length_cons, List.length_nil, List.length_append, List.length_map]) <;> omega))))
    repeat' (first | refine sA ?_ | ((first | apply kM | apply kN); (iterate 3 (· exact rfl)); (· first | exact ya)) | refine sG ?_ | (refine sK ?_ ?_ <;> intro hc <;> (try simp only [KL, sL, reduceCtorEq] at hc) <;> (try (exfalso; omega))))
    exact ⟨k + 1, by omega, by omega, les, by dsimp only; rw [e2]; exact leh⟩
  subst hkl
  rw [List.take_length]
  repeat' (first | refine sA ?_ | ((first | apply kM | apply kN); (iterate 3 (· exact rfl)); (· first | exact ya)) | refine sG ?_ | (refine sK ?_ ?_ <;> intro hc <;> (try simp only [KL, sL, reduceCtorEq] at hc) <;> (try (exfalso; omega))))
  all_goals first | (exfalso; omega) | skip
  exact retq rfl ⟨[(5, .row 36 8 (os.map eObject))], leh, rfl, rfl⟩
end Go.Proofs.YtkkmageogkkchaaGreat
