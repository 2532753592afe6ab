/- Where all stands, by the document. No condition. -/
import Derived.Test.YtkkmageogkkchaaGreatUAX
import Derived.Test.YtkkmageogkkchaaGreatUALy
set_option linter.unusedSimpArgs false
set_option linter.unusedVariables false
set_option maxHeartbeats 1000000
namespace Go.Proofs.YtkkmageogkkchaaGreat
set_option maxRecDepth 100000
set_option maxRecDepth 100000
open Go.RowKit
def headI (o : Object) : Int := if o.kind = 1 then 4 else if o.kind = 2 ∨ o.kind = 5 then 1 + (o.readers.length : Int) else if o.kind = 6 then 2 else 1
def recsI (o : Object) : Int := if o.kind = 1 then 4 else if o.kind = 2 then (o.readers.length : Int) + 2 else if o.kind = 3 then 1 else o.slots
theorem head14_fn (o : Object) (hr : o.readers.length ≤ 1000000) : Fn Tryz.prog 175 [.agg (eObject o)] (.int .i64 (headI o)) := by
  refine fnb Tryz.func175 (entered_of (by kernel_rfl)) rfl rfl rfl ?_
  repeat' (first | refine sA ?_ | ((first | apply kM | apply kN); (iterate 3 (· exact rfl)); (· first | exact ya)) | refine sG ?_ | (refine sK ?_ ?_ <;> intro hc <;> (try simp only [KL, sL, reduceCtorEq] at hc) <;> (try (exfalso; omega))))
  all_goals first | (exfalso; omega) | exact retq rfl (congrArg (AV.int .i64) (by unfold headI; (repeat' split) <;> omega))
theorem recs14_fn (o : Object) (hr : o.readers.length ≤ 1000000) : Fn Tryz.prog 176 [.agg (eObject o)] (.int .i64 (recsI o)) := by
  refine fnb Tryz.func176 (entered_of (by kernel_rfl)) rfl rfl rfl ?_
  repeat' (first | refine sA ?_ | ((first | apply kM | apply kN); (iterate 3 (· exact rfl)); (· first | exact ya)) | refine sG ?_ | (refine sK ?_ ?_ <;> intro hc <;> (try simp only [KL, sL, reduceCtorEq] at hc) <;> (try (exfalso; omega))))
  all_goals first | (exfalso; omega) | exact retq rfl (congrArg (AV.int .i64) (by unfold recsI; (repeat' split) <;> omega))
theorem size_hr {o : Object} (h : rightP o) : headI o + recsI o * o.width = sizeK o ∧ 0 ≤ recsI o * o.width ∧ recsI o * o.width ≤ 160 := by
  have hk := kindP h
  have h1 := szP h
  unfold headI recsI sizeK
  have h6 : o.kind = 1 ∨ o.kind = 2 ∨ o.kind = 3 ∨ o.kind = 4 ∨ o.kind = 5 ∨ o.kind = 6 := by omega
  rcases h6 with e | e | e | e | e | e <;> rw [e] <;> simp <;> omega
theorem size14_fn (o : Object) (hr : o.readers.length ≤ 1000000) : Fn Tryz.prog 154 [.agg (eObject o)] (.int .i64 (sizeO o)) := by
  have c1 := right14_fn o
  have c2 := head14_fn o hr
  have c3 := recs14_fn o hr
  have hb := size_B o
  by_cases h : rightP o
  · have hs := size_hr h
    have e : rightO o = true := decide_eq_true h
    rw [sizeO, if_pos h] at hb ⊢
    rw [e] at c1
    rw [← hs.1] at hb ⊢
    generalize headI o = a at *
    generalize recsI o = b at *
    refine fnb Tryz.func154 (entered_of (by kernel_rfl)) rfl rfl rfl ?_
    repeat' (first | refine sA ?_ | ((first | apply kM | apply kN); (iterate 3 (· exact rfl)); (· first | exact ya | exact q_c (c1) rfl | exact q_c (c2) rfl | exact q_c (c3) rfl)) | refine sG ?_ | (refine sK ?_ ?_ <;> intro hc <;> (try simp only [KL, sL, reduceCtorEq] at hc) <;> (try (exfalso; omega))))
    all_goals first | (exfalso; omega) | exact retq rfl rfl
  · have e : rightO o = false := decide_eq_false h
    rw [sizeO, if_neg h]
    rw [e] at c1
    refine fnb Tryz.func154 (entered_of (by kernel_rfl)) rfl rfl rfl ?_
    repeat' (first | refine sA ?_ | ((first | apply kM | apply kN); (iterate 3 (· exact rfl)); (· first | exact ya | exact q_c (c1) rfl)) | refine sG ?_ | (refine sK ?_ ?_ <;> intro hc <;> (try simp only [KL, sL, reduceCtorEq] at hc) <;> (try (exfalso; omega))))
    all_goals first | (exfalso; omega) | exact retq rfl rfl
theorem cut_take2 {α : Type} [Inhabited α] (f : α → Int) {l : List α} {k : Nat} (a : Int) (hk : k < l.length) : cutL a ((l.take (k + 1)).map f) = cutL a ((l.take k).map f) ++ [(a + sumL ((l.take k).map f), f (l.getD k default))] := by
  rw [map_take f hk, cutL_app]; rfl
theorem sum_take2 {α : Type} [Inhabited α] (f : α → Int) {l : List α} {k : Nat} (hk : k < l.length) : sumL ((l.take (k + 1)).map f) = sumL ((l.take k).map f) + f (l.getD k default) := by
  rw [map_take f hk, sumL_app]; simp [sumL]
theorem lay_take (S : System) : (layO S).take S.tasks.length = cutL 0 (S.tasks.map (·.own)) ∧ (layO S).drop S.tasks.length = cutL (sumL (S.tasks.map (·.own))) (S.objects.map sizeO) := by
  have hl : (cutL 0 (S.tasks.map (·.own))).length = S.tasks.length := by rw [cutL_len, List.length_map]
  rw [layO, lensL, cutL_app, Int.zero_add]
  constructor
  · rw [← hl, List.take_left]
  · rw [← hl, List.drop_left]
theorem lay_pure (S : System) : pureA (AV.tup [.agg (layC S), .int .i64 (layE S)]) = true := by
  rw [layC]; split <;> rfl
set_option maxHeartbeats 2000000 in
theorem rof31_fn (S : System) (h : OkS S) : Fn Tryz.prog 120 [.agg (eSystem S)] (.tup [.agg (layC S), .int .i64 (layE S)]) := by
  have h1 := h.tl
  have h2 := h.ol
  have hrl := h.rl
  have hlt := lay_take S
  have hno : lensB S = false → layE S = 1 ∧ layC S = [.nils, .nils, .int .i64 0] := fun hb => by
    have e : layE S = 1 := by rw [layE, hb, if_neg (by simp)]
    exact ⟨e, by rw [layC, e, if_neg (by omega)]⟩
  have hyes : lensB S = true → layE S = cutE (lensL S) ∧ layC S = if sumL (lensL S) ≤ 4096 then [.lst 2 (((layO S).take S.tasks.length).map eRg), .lst 2 (((layO S).drop S.tasks.length).map eRg), .int .i64 (sumL (lensL S))] else [.nils, .nils, .int .i64 0] := fun hb => by
    have e : layE S = cutE (lensL S) := by rw [layE, hb, if_pos rfl]
    refine ⟨e, ?_⟩
    rw [layC, e, cutE]
    by_cases hs : sumL (lensL S) ≤ 4096
    · rw [if_pos hs, if_pos rfl, if_pos hs]
    · rw [if_neg hs, if_neg (by omega), if_neg hs]
  have hsum : sumL (lensL S) = sumL (S.tasks.map (·.own)) + sumL (S.objects.map sizeO) := sumL_app _ _
  have hlb : lensB S = (S.tasks.all (fun t => decide (1 ≤ t.own ∧ t.own ≤ 64)) && S.objects.all rightO) := rfl
  rw [cutE] at hyes
  refine fnb Tryz.func120 (entered_of (by kernel_rfl)) rfl rfl (lay_pure S) ?_
  generalize layC S = LC at *
  generalize layE S = LE at *
  generalize lensB S = LB at *
  generalize sumL (lensL S) = LS at *
  rw [hlt.1, hlt.2] at hyes
  clear hlt
  obtain ⟨ts, os⟩ := S
  dsimp only at h1 h2 hrl hsum hyes hlb
  repeat' (first | refine sA ?_ | (show O _ _ _ _ _ _ _; first | refine ao_alloc (id := 10) rfl rfl rfl rfl rfl rfl rfl ?_ | refine ao_alloc (id := 11) rfl rfl rfl rfl rfl rfl rfl ?_) | ((first | apply kM | apply kN); (iterate 3 (· exact rfl)); (· first | exact ya)) | refine sG ?_ | (refine sK ?_ ?_ <;> intro hc <;> (try simp only [KL, sL, reduceCtorEq] at hc) <;> (try (exfalso; omega))))
  refine wturn (turn_ownJ eRg (b := 11) 0 rfl rfl 12 135 2 (by omega) rfl) ?_
  refine wturn (turn_ownJ eRg (b := 11) 1 rfl rfl 13 135 2 (by omega) rfl) ?_
  refine wloop (fun k : Nat => ([(1, .ref (eSystem ⟨ts, os⟩)), (2, .ptr 10 0), (4, .ptr 11 0), (5, .int .i64 (sumL ((ts.take k).map (·.own)))), (12, .lst 7 (ts.map eTask)), (13, .int .i64 ts.length), (14, .int .i64 k)], [(10, .blk 109 [.nils, .nils, .int .i64 0]), (11, .blk 109 [.own 12, .own 13, .int .i64 0]), (12, .row 135 2 ((cutL 0 ((ts.take k).map (·.own))).map eRg)), (13, .row 135 2 (([] : List (Int × Int)).map eRg))])) (fun k => k ≤ ts.length ∧ (0 ≤ sumL ((ts.take k).map (·.own)) ∧ sumL ((ts.take k).map (·.own)) ≤ 64 * k) ∧ ∀ j, j < k → decide (1 ≤ (ts.getD j default).own ∧ (ts.getD j default).own ≤ 64) = true) (fun k => ts.length - k) 0 ⟨Nat.zero_le _, by simp [sumL], fun j hj => by omega⟩ les leh (fun k hk => ?_)
  obtain ⟨hk, hsb, ha⟩ := hk
  rcases Nat.lt_or_eq_of_le hk with hkl | hkl
  · have e2 := cut_take2 (fun t : Task => t.own) 0 hkl
    have e3 := sum_take2 (fun t : Task => t.own) hkl
    have hlen : (cutL 0 ((ts.take k).map (fun t : Task => t.own))).length = k := by rw [cutL_len, List.length_map, List.length_take]; omega
    have hn1 := all_not (q := fun t : Task => decide (1 ≤ t.own ∧ t.own ≤ 64)) hkl
    obtain ⟨t, ht⟩ : ∃ t, ts.getD k default = t := ⟨_, rfl⟩
    rw [ht] at e2 e3 hn1
    rw [Int.zero_add] at e2
    by_cases hw : 1 ≤ t.own ∧ t.own ≤ 64
    · generalize sumL ((ts.take k).map (fun t : Task => t.own)) = sm at *
      generalize cutL 0 ((ts.take k).map (fun t : Task => t.own)) = cm at *
      repeat' (first | refine sA ?_ | (show O _ _ _ _ _ _ _; first | refine ao_alloc (id := 14) rfl rfl rfl rfl rfl rfl rfl ?_) | ((first | apply kM | apply kN); (iterate 3 (· exact rfl)); (· first | (show Y _ ⟨_, .indexAddr _ _ _, _, _, _, _⟩ _ _ _; first | exact Y.mk (ok_indexE (ht) rfl rfl rfl rfl rfl (by omega))) | exact ya)) | refine sG ?_ | (refine sK ?_ ?_ <;> intro hc <;> (try simp only [KL, sL, reduceCtorEq] at hc) <;> (try (exfalso; omega))))
      all_goals first | (exfalso; omega) | skip
      refine oturn (turn_mask [true, false, false] (id := 11) rfl) ?_
      refine ole (h' := [(12, .row 135 2 (cm.map eRg)), (10, .blk 109 [.nils, .nils, .int .i64 0]), (11, .blk 109 [.undef, .own 13, .int .i64 0]), (13, .row 135 2 (([] : List (Int × Int)).map eRg)), (14, .blk 44 (eTask t))]) (LeS.refl _) leh ?_
      (refine ao_ap (id := 12) (ys := [(sm, t.own)]) (by_ := 16) rfl rfl rfl rfl rfl rfl rfl rfl rfl rfl (fun _ _ => rfl) ?_ ?_ rfl rfl rfl rfl rfl ?_; (· (first | omega | ((try simp only [List.length_cons, List.length_nil, List.length_append, List.length_map]) <;> omega))); (· (first | omega | ((try simp only [List.length_cons, List.length_nil, List.length_append, List.length_map]) <;> omega))))
      repeat' (first | refine sA ?_ | ((first | apply kM | apply kN); (iterate 3 (· exact rfl)); (· first | exact ya)) | refine sG ?_ | (refine sK ?_ ?_ <;> intro hc <;> (try simp only [KL, sL, reduceCtorEq] at hc) <;> (try (exfalso; omega))))
      refine ⟨k + 1, ⟨by omega, by omega, fun j hj => ?_⟩, by omega, by dsimp only; rw [e3]; exact les, by dsimp only; rw [e2]; exact leh⟩
      by_cases e : j = k
      · subst e; rw [ht]; exact decide_eq_true hw
      · exact ha j (by omega)
    · obtain ⟨q1, q2⟩ := hno (by rw [hlb, hn1 (decide_eq_false hw), Bool.false_and])
      rw [q1, q2]
      repeat' (first | refine sA ?_ | (show O _ _ _ _ _ _ _; first | refine ao_alloc (id := 14) rfl rfl rfl rfl rfl rfl rfl ?_) | ((first | apply kM | apply kN); (iterate 3 (· exact rfl)); (· first | (show Y _ ⟨_, .indexAddr _ _ _, _, _, _, _⟩ _ _ _; first | exact Y.mk (ok_indexE (ht) rfl rfl rfl rfl rfl (by omega))) | exact ya)) | refine sG ?_ | (refine sK ?_ ?_ <;> intro hc <;> (try simp only [KL, sL, reduceCtorEq] at hc) <;> (try (exfalso; omega))))
      all_goals first | (exfalso; omega) | exact retq rfl rfl
  subst hkl
  have hT := all_of (q := fun t : Task => decide (1 ≤ t.own ∧ t.own ≤ 64)) ha
  rw [hT, Bool.true_and] at hlb
  rw [List.take_length] at hsb ⊢
  generalize sumL (ts.map (fun t : Task => t.own)) = sm at *
  generalize cutL 0 (ts.map (fun t : Task => t.own)) = cm at *
  repeat' (first | refine sA ?_ | ((first | apply kM | apply kN); (iterate 3 (· exact rfl)); (· first | exact ya)) | refine sG ?_ | (refine sK ?_ ?_ <;> intro hc <;> (try simp only [KL, sL, reduceCtorEq] at hc) <;> (try (exfalso; omega))))
  all_goals first | (exfalso; omega) | skip
  refine wloop (fun k : Nat => ([(1, .ref (eSystem ⟨ts, os⟩)), (2, .ptr 10 0), (4, .ptr 11 0), (5, .int .i64 (sm + sumL ((os.take k).map sizeO))), (42, .lst 8 (os.map eObject)), (43, .int .i64 os.length), (44, .int .i64 k)], [(10, .blk 109 [.nils, .nils, .int .i64 0]), (11, .blk 109 [.own 12, .own 13, .int .i64 0]), (12, .row 135 2 (cm.map eRg)), (13, .row 135 2 ((cutL sm ((os.take k).map sizeO)).map eRg))])) (fun k => k ≤ os.length ∧ (0 ≤ sumL ((os.take k).map sizeO) ∧ sumL ((os.take k).map sizeO) ≤ 200 * k) ∧ ∀ j, j < k → rightO (os.getD j default) = true) (fun k => os.length - k) 0 ⟨Nat.zero_le _, by simp [sumL], fun j hj => by omega⟩ (by simp only [List.take_zero, List.map_nil, sumL, Int.add_zero]; exact les) leh (fun k hk => ?_)
  obtain ⟨hk, hsb2, ha⟩ := hk
  rcases Nat.lt_or_eq_of_le hk with hkl | hkl
  · have e2 := cut_take2 sizeO sm hkl
    have e3 := sum_take2 sizeO hkl
    have hlen : (cutL sm ((os.take k).map sizeO)).length = k := by rw [cutL_len, List.length_map, List.length_take]; omega
    have hn1 := all_not (q := rightO) hkl
    have hrk := hrl k
    obtain ⟨o, ho⟩ : ∃ o, os.getD k default = o := ⟨_, rfl⟩
    rw [ho] at e2 e3 hn1 hrk
    have c1 := right14_fn o
    have c2 := size14_fn o (by omega)
    have hsz := size_B o
    cases hr : rightO o
    · obtain ⟨q1, q2⟩ := hno (by rw [hlb, hn1 hr])
      rw [q1, q2]
      rw [hr] at c1
      repeat' (first | refine sA ?_ | (show O _ _ _ _ _ _ _; first | refine ao_alloc (id := 14) rfl rfl rfl rfl rfl rfl rfl ?_) | ((first | apply kM | apply kN); (iterate 3 (· exact rfl)); (· first | (show Y _ ⟨_, .indexAddr _ _ _, _, _, _, _⟩ _ _ _; first | exact Y.mk (ok_indexE (ho) rfl rfl rfl rfl rfl (by omega))) | exact ya | exact q_c (c1) rfl)) | refine sG ?_ | (refine sK ?_ ?_ <;> intro hc <;> (try simp only [KL, sL, reduceCtorEq] at hc) <;> (try (exfalso; omega))))
      all_goals first | (exfalso; omega) | exact retq rfl rfl
    · rw [hr] at c1
      generalize sumL ((os.take k).map sizeO) = sq at *
      generalize cutL sm ((os.take k).map sizeO) = cq at *
      generalize hszz : sizeO o = n at *
      repeat' (first | refine sB ?_ | (show O _ _ _ _ _ _ _; first | refine ao_alloc (id := 14) rfl rfl rfl rfl rfl rfl rfl ?_) | ((first | apply kM | apply kN); (iterate 3 (· exact rfl)); (· first | (show Y _ ⟨_, .indexAddr _ _ _, _, _, _, _⟩ _ _ _; first | exact Y.mk (ok_indexE (ho) rfl rfl rfl rfl rfl (by omega))) | exact ya | exact q_c (c1) rfl)) | refine sG ?_ | (refine sK ?_ ?_ <;> intro hc <;> (try simp only [KL, sL, reduceCtorEq] at hc) <;> (try (exfalso; omega))))
      all_goals first | (exfalso; omega) | skip
      refine wdrawK (H := fun y : List (Int × Int) × AV => [(13, .row 135 2 (y.1.map eRg)), (11, .blk 109 [.own 12, y.2, .int .i64 0]), (10, .blk 109 [.nils, .nils, .int .i64 0]), (12, .row 135 2 (cm.map eRg)), (14, .blk 36 (eObject o))]) (ok := fun _ => True) (tn := [7, 9]) (ln := [1]) (c := 7) (R := 13) (cq, .own 13) leh (by kernel_rfl) (by kernel_rfl) (by kernel_rfl) trivial ?_
      repeat' (first | refine sA ?_ | ((first | apply kM | apply kN); (iterate 3 (· exact rfl)); (· first | exact ya | exact q_c (c2) rfl)) | (show KW _ _ _ _ _ _ _ _ _ _ _ _ _; first | refine knil rfl ?_ | (apply k_any; (· exact rfl); (· exact rfl); (· exact rfl); (· intro y' hy'; first | exact ya | exact q_c (c2) rfl); (· first | exact rfl | kernel_rfl)) | (apply k_ld; (· exact rfl); (· exact rfl); (· exact rfl); (· exact rfl); (· first | exact ya | exact q_c (c2) rfl); (· first | exact rfl | kernel_rfl))) | refine sG ?_ | (refine sK ?_ ?_ <;> intro hc <;> (try simp only [KL, sL, reduceCtorEq] at hc) <;> (try (exfalso; omega))))
      refine k_mv (x' := (cq ++ [(sm + sq, n)], .undef)) rfl rfl rfl trivial
        (TuK.post (TuK.pre (pre_mask (h2 := [(13, .row 135 2 (cq.map eRg)), (11, .blk 109 [.own 12, .undef, .int .i64 0]), (10, .blk 109 [.nils, .nils, .int .i64 0]), (12, .row 135 2 (cm.map eRg)), (14, .blk 36 (eObject o))]) [false, true, false] (id := 11) rfl leh)
          (tk_append (ys := [(sm + sq, n)]) (by_ := 16) rfl rfl rfl rfl rfl rfl rfl rfl rfl rfl (fun _ _ => rfl) (by simp only [List.length_cons, List.length_nil]; omega) (by simp only [List.length_cons, List.length_nil]; omega) rfl rfl)) leh) ?_
      repeat' (first | refine sA ?_ | ((first | apply kM | apply kN); (iterate 3 (· exact rfl)); (· first | exact ya)) | (show KW _ _ _ _ _ _ _ _ _ _ _ _ _; first | refine knil rfl ?_ | (apply k_any; (· exact rfl); (· exact rfl); (· exact rfl); (· intro y' hy'; first | exact ya); (· first | exact rfl | kernel_rfl)) | (apply k_ld; (· exact rfl); (· exact rfl); (· exact rfl); (· exact rfl); (· first | exact ya); (· first | exact rfl | kernel_rfl))) | refine sG ?_ | (refine sK ?_ ?_ <;> intro hc <;> (try simp only [KL, sL, reduceCtorEq] at hc) <;> (try (exfalso; omega))))
      refine k_tu (x' := (cq ++ [(sm + sq, n)], .own 13)) rfl rfl rfl trivial ((tu_st (sto_B rfl rfl rfl rfl rfl rfl (Nat.le_of_ble_eq_true rfl)) rfl).post leh) (by kernel_rfl) ?_
      repeat' (first | refine sA ?_ | ((first | apply kM | apply kN); (iterate 3 (· exact rfl)); (· first | exact ya | exact q_c (c2) rfl)) | (show KW _ _ _ _ _ _ _ _ _ _ _ _ _; first | refine knil rfl ?_ | (apply k_any; (· exact rfl); (· exact rfl); (· exact rfl); (· intro y' hy'; first | exact ya | exact q_c (c2) rfl); (· first | exact rfl | kernel_rfl)) | (apply k_ld; (· exact rfl); (· exact rfl); (· exact rfl); (· exact rfl); (· first | exact ya | exact q_c (c2) rfl); (· first | exact rfl | kernel_rfl))) | refine sG ?_ | (refine sK ?_ ?_ <;> intro hc <;> (try simp only [KL, sL, reduceCtorEq] at hc) <;> (try (exfalso; omega))))
      refine ⟨k + 1, ⟨by omega, by omega, fun j hj => ?_⟩, by omega, by dsimp only; rw [e3, ← Int.add_assoc]; exact les, by dsimp only; rw [e2]; exact leh⟩
      by_cases e : j = k
      · subst e; rw [ho]; exact hr
      · exact ha j (by omega)
  · subst hkl
    rw [all_of ha] at hlb
    obtain ⟨q1, q2⟩ := hyes hlb
    rw [List.take_length] at hsb2 ⊢
    generalize sumL (os.map sizeO) = sq at *
    generalize cutL sm (os.map sizeO) = cq at *
    refine wturn (turn_frzJ (b := 11) 0 rfl rfl rfl rfl) ?_
    refine wturn (turn_frzJ (b := 11) 1 rfl rfl rfl rfl) ?_
    by_cases hs : LS ≤ 4096
    · rw [if_pos hs] at q1 q2
      rw [q1, q2, hsum]
      repeat' (first | refine sA ?_ | ((first | apply kM | apply kN); (iterate 3 (· exact rfl)); (· first | exact ya)) | refine sG ?_ | (refine sK ?_ ?_ <;> intro hc <;> (try simp only [KL, sL, reduceCtorEq] at hc) <;> (try (exfalso; omega))))
      all_goals first | (exfalso; omega) | exact retq rfl rfl
    · rw [if_neg hs] at q1 q2
      rw [q1, q2]
      repeat' (first | refine sA ?_ | ((first | apply kM | apply kN); (iterate 3 (· exact rfl)); (· first | exact ya)) | refine sG ?_ | (refine sK ?_ ?_ <;> intro hc <;> (try simp only [KL, sL, reduceCtorEq] at hc) <;> (try (exfalso; omega))))
      all_goals first | (exfalso; omega) | exact retq rfl rfl
end Go.Proofs.YtkkmageogkkchaaGreat
