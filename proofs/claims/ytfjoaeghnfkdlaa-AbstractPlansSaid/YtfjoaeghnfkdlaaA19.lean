/- The reference's sort of dues. No condition. -/
import Derived.Test.YtfjoaeghnfkdlaaA18
import Derived.Test.YtfjoaeghnfkdlaaA14
import Derived.Test.YtfjoaeghnfkdlaaA9
import Derived.Test.YtfjoaeghnfkdlaaA13
import Derived.Test.YtfjoaeghnfkdlaaA17
import Derived.Test.YtfjoaeghnfkdlaaA10
import Derived.Test.YtfjoaeghnfkdlaaA15
import Derived.Test.YtfjoaeghnfkdlaaA7
import Derived.Test.YtfjoaeghnfkdlaaA8
import Derived.Test.YtfjoaeghnfkdlaaA11
set_option linter.unusedSimpArgs false
set_option linter.unusedVariables false
set_option maxHeartbeats 1000000
namespace Go.Proofs.Ytfjoaeghnfkdlaa
set_option maxRecDepth 100000
set_option maxRecDepth 100000
open Go.RowKit
theorem rsort_fn (l : List Due) (hn : l.length ≤ 1000000) : Fn Try.prog 24 [.lst 2 (l.map eDue)] (.lst 2 ((sortD l).map eDue)) := by
  refine fnb Try.func24 (entered_of (by kernel_rfl)) rfl rfl rfl ?_
  repeat' (first | refine sA ?_ | ((first | apply kM | apply kN); (iterate 3 (· exact rfl)); (· first | exact ya)) | refine sG ?_ | (refine sK ?_ ?_ <;> intro hc <;> (try simp only [KL, sL, reduceCtorEq] at hc) <;> (try (have hT : True := hc; clear hT hc)) <;> (try (exfalso; omega))))
  refine wloop (fun k : Nat => ([(3, .lst 2 ((sortD (l.take k)).map eDue)), (6, .lst 2 (l.map eDue)), (7, .int .i64 l.length), (8, .int .i64 k)], [])) (fun k => k ≤ l.length) (fun k => l.length - k) 0 (by omega) les leh (fun k hk => ?_)
  have hl : (sortD (l.take k)).length ≤ 1000000 := by rw [sortD_len, List.length_take]; omega
  repeat' (first | refine sA ?_ | (show O _ _ _ _ _ _ _; first | refine ao_alloc (id := 12) rfl rfl rfl rfl rfl rfl rfl ?_) | ((first | apply kM | apply kN); (iterate 3 (· exact rfl)); (· first | exact ya | exact q_c (rput_fn _ _ hl) rfl)) | refine sG ?_ | (refine sK ?_ ?_ <;> intro hc <;> (try simp only [KL, sL, reduceCtorEq] at hc) <;> (try (have hT : True := hc; clear hT hc)) <;> (try (exfalso; omega))))
  · exact ⟨k + 1, by omega, by omega, by rw [sortD_next l k (by omega)]; exact les, leh⟩
  · obtain rfl : k = l.length := by omega
    rw [List.take_length]
    exact retq rfl rfl
end Go.Proofs.Ytfjoaeghnfkdlaa
namespace Go.Proofs.Ytfjoaeghnfkdlaa
set_option maxRecDepth 100000
set_option maxRecDepth 100000
open Go.RowKit
structure PS where
  no : Int
  free : Int
  T : List Int
  m1 : List (Int × Job)
  m2 : List (Int × Due)
def newJ (l : List Task) (i no : Int) (d : Due) : Job := ⟨i, no, d.at_, addT d.at_ (l.getD i.toNat default).deadline, -1, -1, 0, false⟩
def placeS (l : List Task) (dm : List (List Int)) (i : Int) (s : PS) (k : Nat) (d : Due) : PS :=
  if d.task ≠ i then s else if s.free < 0 ∨ d.at_ < s.free then { s with m2 := setM s.m2 k d }
  else { s with no := s.no + 1, free := (giveF dm s.T (newJ l i s.no d)).2.fin, T := (giveF dm s.T (newJ l i s.no d)).1, m1 := setM s.m1 k (giveF dm s.T (newJ l i s.no d)).2 }
def placeTo (l : List Task) (dm : List (List Int)) (i : Int) (lt : List Due) (s : PS) : Nat → PS
  | 0 => s
  | k + 1 => placeS l dm i (placeTo l dm i lt s k) k (lt.getD k default)
theorem placeS_len (l : List Task) (dm : List (List Int)) (i : Int) (s : PS) (k : Nat) (d : Due) : (placeS l dm i s k d).T.length = s.T.length := by
  unfold placeS
  split
  · rfl
  · split
    · rfl
    · simp only [giveF]; exact giveL_len _ _ _ _ _
theorem placeTo_len (l : List Task) (dm : List (List Int)) (i : Int) (lt : List Due) (s : PS) : ∀ k, (placeTo l dm i lt s k).T.length = s.T.length
  | 0 => rfl
  | k + 1 => by rw [placeTo, placeS_len, placeTo_len]
theorem placeTo_no (l : List Task) (dm : List (List Int)) (i : Int) (lt : List Due) (s : PS) (h0 : 0 ≤ s.no) : ∀ k, 0 ≤ (placeTo l dm i lt s k).no ∧ (placeTo l dm i lt s k).no ≤ s.no + k
  | 0 => ⟨h0, by simp [placeTo]⟩
  | k + 1 => by
    have ih := placeTo_no l dm i lt s h0 k
    rw [placeTo, placeS]
    split
    · omega
    · split
      · simp only; omega
      · simp only; omega
set_option maxHeartbeats 4000000 in
theorem place30_fn (l : List Task) (dm : List (List Int)) (i : Int) (lt : List Due) (T : List Int) (m1 : List (Int × Job)) (m2 : List (Int × Due)) (hi : 0 ≤ i ∧ i < l.length) (hl : l.length ≤ 100000) (hT : T.length ≤ 100000) (hlt : lt.length ≤ 100000) (hd : ∀ d ∈ lt, 0 ≤ d.at_ ∧ d.at_ ≤ T.length) :
    FnH Try.prog 82 [.ptr 0 0, .int .i64 i, .lst 2 (lt.map eDue)] (bdH l dm T m1 m2) (fun r h' => r = .tup [] ∧ h' = bdH l dm (placeTo l dm i lt ⟨0, 0, T, m1, m2⟩ lt.length).T (placeTo l dm i lt ⟨0, 0, T, m1, m2⟩ lt.length).m1 (placeTo l dm i lt ⟨0, 0, T, m1, m2⟩ lt.length).m2) := by
  refine fnhb Try.func82 (entered_of (by kernel_rfl)) rfl rfl ?_
  repeat' (first | refine sA ?_ | ((first | apply kM | apply kN); (iterate 3 (· exact rfl)); (· first | exact ya)) | refine sG ?_ | (refine sK ?_ ?_ <;> intro hc <;> (try simp only [KL, sL, reduceCtorEq] at hc) <;> (try (have hT : True := hc; clear hT hc)) <;> (try (exfalso; omega))))
  refine wloop (fun k : Nat => ([(0, .ptr 0 0), (1, .int .i64 i), (6, .int .i64 (placeTo l dm i lt ⟨0, 0, T, m1, m2⟩ k).no), (7, .int .i64 (placeTo l dm i lt ⟨0, 0, T, m1, m2⟩ k).free), (11, .lst 2 (lt.map eDue)), (12, .int .i64 lt.length), (13, .int .i64 k)],
      bdH l dm (placeTo l dm i lt ⟨0, 0, T, m1, m2⟩ k).T (placeTo l dm i lt ⟨0, 0, T, m1, m2⟩ k).m1 (placeTo l dm i lt ⟨0, 0, T, m1, m2⟩ k).m2))
    (fun k => k ≤ lt.length) (fun k => lt.length - k) 0 (Nat.zero_le _) les leh (fun k hk => ?_)
  rcases Nat.lt_or_eq_of_le hk with hkl | hkl
  · have hlen := placeTo_len l dm i lt ⟨0, 0, T, m1, m2⟩ k
    have hno := placeTo_no l dm i lt ⟨0, 0, T, m1, m2⟩ (Int.le_refl 0) k
    have hnx : placeTo l dm i lt ⟨0, 0, T, m1, m2⟩ (k + 1) = placeS l dm i (placeTo l dm i lt ⟨0, 0, T, m1, m2⟩ k) k (lt.getD k default) := rfl
    have hdk := hd (lt.getD k default) (by simp [hkl])
    generalize placeTo l dm i lt ⟨0, 0, T, m1, m2⟩ k = s at *
    obtain ⟨d, hdd⟩ : ∃ d, lt.getD k default = d := ⟨_, rfl⟩
    rw [hdd] at hnx hdk
    obtain ⟨no, free, T', m1', m2'⟩ := s
    simp only at hlen hno ⊢
    by_cases h1 : d.task = i
    case neg =>
      rw [placeS, if_pos h1] at hnx
      repeat' (first | refine sA ?_ | (show O _ _ _ _ _ _ _; first | refine ao_alloc (id := 9) rfl rfl rfl rfl rfl rfl rfl ?_) | ((first | apply kM | apply kN); (iterate 3 (· exact rfl)); (· first | (show Y _ ⟨_, .indexAddr _ _ _, _, _, _, _⟩ _ _ _; first | exact Y.mk (ok_indexE (hdd) rfl rfl rfl rfl rfl (by omega))) | exact ya)) | refine sG ?_ | (refine sK ?_ ?_ <;> intro hc <;> (try simp only [KL, sL, reduceCtorEq] at hc) <;> (try (have hT : True := hc; clear hT hc)) <;> (try (exfalso; omega))))
      all_goals first | (exfalso; omega) | skip
      all_goals exact ⟨k + 1, by omega, by omega, by simp only [hnx]; exact les, by simp only [hnx]; exact leh⟩
    rw [placeS, if_neg (not_not_intro h1)] at hnx
    by_cases h2 : free < 0 ∨ d.at_ < free
    · rw [if_pos h2] at hnx
      repeat' (first | refine sB ?_ | (show O _ _ _ _ _ _ _; first | refine ao_alloc (id := 9) rfl rfl rfl rfl rfl rfl rfl ?_) | ((first | apply kM | apply kN); (iterate 3 (· exact rfl)); (· first | (show Y _ ⟨_, .indexAddr _ _ _, _, _, _, _⟩ _ _ _; first | exact Y.mk (ok_indexE (hdd) rfl rfl rfl rfl rfl (by omega))) | exact ya)) | refine sG ?_ | (refine sK ?_ ?_ <;> intro hc <;> (try simp only [KL, sL, reduceCtorEq] at hc) <;> (try (have hT : True := hc; clear hT hc)) <;> (try (exfalso; omega))))
      all_goals first | (exfalso; omega) | skip
      all_goals refine wdrawC (H := fun y : List (Int × Due) => bdH l dm T' m1' y ++ [(9, .blk 41 (eDue d))]) (ok := fun _ => True) (tn := [6]) (ln := []) m2' leh (by kernel_rfl) (by kernel_rfl) (by kernel_rfl) trivial ?_
      all_goals repeat' (first | refine sA ?_ | ((first | apply kM | apply kN); (iterate 3 (· exact rfl)); (· first | exact ya)) | (show C _ _ _ _ _ _ _ _ _ _ _; first | refine cnil ?_ | (apply c_any; (· exact rfl); (· exact rfl); (· intro y' hy'; first | exact ya)) | (apply c_ld; (· exact rfl); (· exact rfl); (· exact rfl); (· first | exact ya)) | refine c_grdN rfl rfl rfl ?_) | refine sG ?_ | ((first | refine kQ rfl rfl ?_ ?_ | refine kR rfl rfl rfl rfl rfl ?_ ?_ | refine kS rfl rfl rfl ?_ ?_ | refine c_grd rfl rfl rfl ?_ ?_) <;> intro hc <;> (try simp only [KL, sL, reduceCtorEq] at hc) <;> (try (have hT : True := hc; clear hT hc)) <;> (try (exfalso; omega))))
      all_goals refine c_tu (x' := setM m2' k d) rfl rfl trivial (TuO.post (tu_st (sto_mapK d rfl rfl rfl rfl rfl rfl rfl) rfl) leh) ?_
      all_goals repeat' (first | refine sA ?_ | ((first | apply kM | apply kN); (iterate 3 (· exact rfl)); (· first | exact ya)) | (show C _ _ _ _ _ _ _ _ _ _ _; first | refine cnil ?_ | (apply c_any; (· exact rfl); (· exact rfl); (· intro y' hy'; first | exact ya)) | (apply c_ld; (· exact rfl); (· exact rfl); (· exact rfl); (· first | exact ya)) | refine c_grdN rfl rfl rfl ?_) | refine sG ?_ | ((first | refine kQ rfl rfl ?_ ?_ | refine kR rfl rfl rfl rfl rfl ?_ ?_ | refine kS rfl rfl rfl ?_ ?_ | refine c_grd rfl rfl rfl ?_ ?_) <;> intro hc <;> (try simp only [KL, sL, reduceCtorEq] at hc) <;> (try (have hT : True := hc; clear hT hc)) <;> (try (exfalso; omega))))
      all_goals exact ⟨k + 1, by omega, by omega, by simp only [hnx]; exact les, by simp only [hnx]; exact leh⟩
    · rw [if_neg h2] at hnx
      have hg := give30_fn l dm T' m1' m2' (newJ l i no d) hi.1 hno.1 ⟨hdk.1, by simp only [newJ]; omega⟩ (by omega) rfl rfl
      repeat' (first | refine sB ?_ | (show O _ _ _ _ _ _ _; first | refine ao_alloc (id := 9) rfl rfl rfl rfl rfl rfl rfl ?_) | ((first | apply kM | apply kN); (iterate 3 (· exact rfl)); (· first | (show Y _ ⟨_, .indexAddr _ _ _, _, _, _, _⟩ _ _ _; first | exact Y.mk (ok_indexE (hdd) rfl rfl rfl rfl rfl (by omega))) | exact ya)) | refine sG ?_ | (refine sK ?_ ?_ <;> intro hc <;> (try simp only [KL, sL, reduceCtorEq] at hc) <;> (try (have hT : True := hc; clear hT hc)) <;> (try (exfalso; omega))))
      all_goals first | (exfalso; omega) | skip
      obtain ⟨g, hgg⟩ : ∃ g, g = giveF dm T' (newJ l i no d) := ⟨_, rfl⟩
      rw [← hgg] at hg hnx
      clear hgg
      obtain ⟨T2, j2⟩ := g
      simp only at hg hnx
      refine wdrawN (H := fun (y : List Int × List AV) (f : Bool) => bdH l dm y.1 m1' m2' ++ [(9, .blk 41 (eDue d))] ++ (bif f then [(10, .blk 74 y.2)] else [])) (ok := fun _ => True) (ok1 := fun y => y.2 = eJob ⟨0, 0, 0, 0, 0, 0, 0, false⟩) (tn := [17, 19]) (ln := []) (c := 18) (N := 10) (T', eJob ⟨0, 0, 0, 0, 0, 0, 0, false⟩) leh (by kernel_rfl) (by kernel_rfl) (by kernel_rfl) trivial rfl rfl rfl rfl ?_
      repeat' (first | refine sA ?_ | ((first | apply kM | apply kN); (iterate 3 (· exact rfl)); (· first | exact ya | exact q_c (wadd_fn _ _) rfl)) | (show NW _ _ _ _ _ _ _ _ _ _ _ _ _ _; first | refine nnil ?_ | (apply n_any; (· exact rfl); (· exact rfl); (· exact rfl); (· intro y' f' hy'; first | exact ya | exact q_c (wadd_fn _ _) rfl); (· first | exact rfl | kernel_rfl))) | refine sG ?_ | (refine sK ?_ ?_ <;> intro hc <;> (try simp only [KL, sL, reduceCtorEq] at hc) <;> (try (have hT : True := hc; clear hT hc)) <;> (try (exfalso; omega))))
      (refine n_tu (x' := (T2, eJob ⟨0, 0, 0, 0, 0, 0, 0, false⟩)) (v := .agg (eJob j2)) rfl rfl rfl trivial rfl (fun f _ => ?_) (by first | exact rfl | kernel_rfl) ?_; (· cases f <;> exact tu_call (fun i => i) (hg) rfl leh rfl rfl rfl rfl rfl rfl leh))
      refine n_new (v := .ptr 10 0) rfl rfl (fun y hy1 => ?_) ?_
      · obtain ⟨y1, y2⟩ := y
        simp only at hy1
        subst hy1
        exact TuN.post (tn_alloc rfl rfl rfl rfl rfl) leh
      repeat' (first | refine sA ?_ | ((first | apply kM | apply kN); (iterate 3 (· exact rfl)); (· first | exact ya)) | (show NW _ _ _ _ _ _ _ _ _ _ _ _ _ _; first | refine nnil ?_ | (apply n_any; (· exact rfl); (· exact rfl); (· exact rfl); (· intro y' f' hy'; first | exact ya); (· first | exact rfl | kernel_rfl))) | refine sG ?_ | (refine sK ?_ ?_ <;> intro hc <;> (try simp only [KL, sL, reduceCtorEq] at hc) <;> (try (have hT : True := hc; clear hT hc)) <;> (try (exfalso; omega))))
      refine n_tu1 (x' := (T2, eJob j2)) rfl rfl rfl trivial (by first | exact rfl | kernel_rfl) (TuO.post (tu_st (sto_B rfl rfl rfl rfl rfl rfl (Nat.le_of_ble_eq_true rfl)) rfl) leh) (by first | exact rfl | kernel_rfl) ?_
      repeat' (first | refine sB ?_ | ((first | apply kM | apply kN); (iterate 3 (· exact rfl)); (· first | exact ya)) | (show NW _ _ _ _ _ _ _ _ _ _ _ _ _ _; first | refine nnil ?_ | (apply n_any; (· exact rfl); (· exact rfl); (· exact rfl); (· intro y' f' hy'; first | exact ya); (· first | exact rfl | kernel_rfl))) | refine sG ?_ | (refine sK ?_ ?_ <;> intro hc <;> (try simp only [KL, sL, reduceCtorEq] at hc) <;> (try (have hT : True := hc; clear hT hc)) <;> (try (exfalso; omega))))
      refine wdrawC (H := fun y : List (Int × Job) => bdH l dm T2 y m2' ++ [(9, .blk 41 (eDue d)), (10, .blk 74 (eJob j2))]) (ok := fun _ => True) (tn := [6]) (ln := []) m1' leh (by kernel_rfl) (by kernel_rfl) (by kernel_rfl) trivial ?_
      repeat' (first | refine sA ?_ | ((first | apply kM | apply kN); (iterate 3 (· exact rfl)); (· first | exact ya)) | (show C _ _ _ _ _ _ _ _ _ _ _; first | refine cnil ?_ | (apply c_any; (· exact rfl); (· exact rfl); (· intro y' hy'; first | exact ya)) | (apply c_ld; (· exact rfl); (· exact rfl); (· exact rfl); (· first | exact ya)) | refine c_grdN rfl rfl rfl ?_) | refine sG ?_ | ((first | refine kQ rfl rfl ?_ ?_ | refine kR rfl rfl rfl rfl rfl ?_ ?_ | refine kS rfl rfl rfl ?_ ?_ | refine c_grd rfl rfl rfl ?_ ?_) <;> intro hc <;> (try simp only [KL, sL, reduceCtorEq] at hc) <;> (try (have hT : True := hc; clear hT hc)) <;> (try (exfalso; omega))))
      refine c_tu (x' := setM m1' k j2) rfl rfl trivial (TuO.post (tu_st (sto_mapK j2 rfl rfl rfl rfl rfl rfl rfl) rfl) leh) ?_
      repeat' (first | refine sA ?_ | ((first | apply kM | apply kN); (iterate 3 (· exact rfl)); (· first | exact ya)) | (show C _ _ _ _ _ _ _ _ _ _ _; first | refine cnil ?_ | (apply c_any; (· exact rfl); (· exact rfl); (· intro y' hy'; first | exact ya)) | (apply c_ld; (· exact rfl); (· exact rfl); (· exact rfl); (· first | exact ya)) | refine c_grdN rfl rfl rfl ?_) | refine sG ?_ | ((first | refine kQ rfl rfl ?_ ?_ | refine kR rfl rfl rfl rfl rfl ?_ ?_ | refine kS rfl rfl rfl ?_ ?_ | refine c_grd rfl rfl rfl ?_ ?_) <;> intro hc <;> (try simp only [KL, sL, reduceCtorEq] at hc) <;> (try (have hT : True := hc; clear hT hc)) <;> (try (exfalso; omega))))
      exact ⟨k + 1, by omega, by omega, by simp only [hnx]; exact les, by simp only [hnx]; exact leh⟩
  · subst hkl
    repeat' (first | refine sA ?_ | ((first | apply kM | apply kN); (iterate 3 (· exact rfl)); (· first | exact ya)) | refine sG ?_ | (refine sK ?_ ?_ <;> intro hc <;> (try simp only [KL, sL, reduceCtorEq] at hc) <;> (try (have hT : True := hc; clear hT hc)) <;> (try (exfalso; omega))))
    all_goals first | (exfalso; omega) | skip
    exact retn rfl ⟨rfl, rfl⟩
end Go.Proofs.Ytfjoaeghnfkdlaa
namespace Go.Proofs.Ytfjoaeghnfkdlaa
set_option maxRecDepth 100000
set_option maxRecDepth 100000
open Go.RowKit
def priosL (l : List Task) : List Int := l.map (·.prio)
theorem prios_fn (l : List Task) (hn : l.length ≤ 1000000) : Fn Try.prog 104 [.lst 7 (l.map eTask)] (.lst 1 ((priosL l).map eI)) := by
  refine fnb Try.func104 (entered_of (by kernel_rfl)) rfl rfl rfl ?_
  repeat' (first | refine sA ?_ | ((first | apply kM | apply kN); (iterate 3 (· exact rfl)); (· first | exact ya)) | refine sG ?_ | (refine sK ?_ ?_ <;> intro hc <;> (try simp only [KL, sL, reduceCtorEq] at hc) <;> (try (have hT : True := hc; clear hT hc)) <;> (try (exfalso; omega))))
  refine wturn (turn_own eI (t := 3) rfl 10 3 1 (by omega) rfl) ?_
  refine wloop (fun k : Nat => ([(3, .own 10), (6, .lst 7 (l.map eTask)), (7, .int .i64 l.length), (8, .int .i64 k)], [(10, .row 3 1 ((priosL (l.take k)).map eI))])) (fun k => k ≤ l.length) (fun k => l.length - k) 0 (Nat.zero_le _) les leh (fun k hk => ?_)
  have hl : (priosL (l.take k)).length = k := by simp [priosL]; omega
  repeat' (first | refine sA ?_ | (show O _ _ _ _ _ _ _; first | refine ao_alloc (id := 12) rfl rfl rfl rfl rfl rfl rfl ?_) | ((first | apply kM | apply kN); (iterate 3 (· exact rfl)); (· first | exact ya)) | refine sG ?_ | (refine sK ?_ ?_ <;> intro hc <;> (try simp only [KL, sL, reduceCtorEq] at hc) <;> (try (have hT : True := hc; clear hT hc)) <;> (try (exfalso; omega))))
  · (refine ao_ap (id := 10) (ys := [(l.getD k default).prio]) (by_ := 8) rfl rfl rfl rfl rfl rfl rfl rfl rfl rfl (fun _ _ => rfl) ?_ ?_ rfl rfl rfl rfl rfl ?_; (· (first | omega | ((try simp only [List.length_cons, List.length_nil, List.length_append, List.length_map]) <;> omega))); (· (first | omega | ((try simp only [List.length_cons, List.length_nil, List.length_append, List.length_map]) <;> omega))))
    repeat' (first | refine sA ?_ | ((first | apply kM | apply kN); (iterate 3 (· exact rfl)); (· first | exact ya)) | refine sG ?_ | (refine sK ?_ ?_ <;> intro hc <;> (try simp only [KL, sL, reduceCtorEq] at hc) <;> (try (have hT : True := hc; clear hT hc)) <;> (try (exfalso; omega))))
    have e : priosL (l.take (k + 1)) = priosL (l.take k) ++ [(l.getD k default).prio] := by
      have hkl : k < l.length := by omega
      rw [priosL, priosL, List.take_succ_eq_append_getElem hkl, List.map_append]
      simp [hkl]
    exact ⟨k + 1, by omega, by omega, les, by simp only [e]; exact leh⟩
  · obtain rfl : k = l.length := by omega
    rw [List.take_length]
    refine retT (fun _ => turn_freeze (t := 2) rfl rfl rfl) ?_
    exact retq rfl rfl
theorem tranks_fn (l : List Task) (hn : l.length ≤ 1000000) : Fn Try.prog 81 [.lst 7 (l.map eTask)] (.lst 1 ((rkL (priosL l) l.length).map eI)) := by
  have c1 := prios_fn l hn
  have hl : (priosL l).length = l.length := by simp [priosL]
  have c2 := ranks_fn (priosL l) (by rw [hl]; exact hn)
  rw [hl] at c2
  refine fnb Try.func81 (entered_of (by kernel_rfl)) rfl rfl rfl ?_
  repeat' (first | refine sA ?_ | ((first | apply kM | apply kN); (iterate 3 (· exact rfl)); (· first | exact ya | exact q_c (c1) rfl | exact q_c (c2) rfl)) | refine sG ?_ | (refine sK ?_ ?_ <;> intro hc <;> (try simp only [KL, sL, reduceCtorEq] at hc) <;> (try (have hT : True := hc; clear hT hc)) <;> (try (exfalso; omega))))
  exact retq rfl rfl
end Go.Proofs.Ytfjoaeghnfkdlaa
namespace Go.Proofs.Ytfjoaeghnfkdlaa
set_option maxRecDepth 100000
set_option maxRecDepth 100000
open Go.RowKit
def idxFrom : List Int → Int → Nat → Int
  | [], _, _ => -1
  | y :: r, x, k => if x = y then (k : Int) else idxFrom r x (k + 1)
theorem idx_range : ∀ (l : List Int) (x : Int) (k : Nat), x ∈ l → (k : Int) ≤ idxFrom l x k ∧ idxFrom l x k < k + l.length
  | [], x, k, h => by cases h
  | y :: r, x, k, h => by
    rw [idxFrom]
    split
    · simp only [List.length_cons]; omega
    · rename_i hne
      rcases List.mem_cons.1 h with h | h
      · exact absurd h hne
      · have := idx_range r x (k + 1) h
        simp only [List.length_cons]; omega
theorem idx_drop {l : List Int} {x : Int} {k : Nat} (h : k < l.length) : idxFrom (l.drop k) x k = if x = l.getD k default then (k : Int) else idxFrom (l.drop (k + 1)) x (k + 1) := by
  have e : l.getD k default = l[k] := by simp [h]
  rw [e, ← List.getElem_cons_drop h, idxFrom]
theorem index_fn (l : List Int) (x : Int) (hn : l.length ≤ 1000000) : Fn Try.prog 83 [.lst 1 (l.map eI), .int .i64 x] (.int .i64 (idxFrom l x 0)) := by
  refine fnb Try.func83 (entered_of (by kernel_rfl)) rfl rfl rfl ?_
  repeat' (first | refine sA ?_ | ((first | apply kM | apply kN); (iterate 3 (· exact rfl)); (· first | exact ya)) | refine sG ?_ | (refine sK ?_ ?_ <;> intro hc <;> (try simp only [KL, sL, reduceCtorEq] at hc) <;> (try (have hT : True := hc; clear hT hc)) <;> (try (exfalso; omega))))
  refine wloop (fun k : Nat => ([(0, .lst 1 (l.map eI)), (1, .int .i64 x), (6, .lst 1 (l.map eI)), (7, .int .i64 l.length), (8, .int .i64 k)], [])) (fun k => k ≤ l.length ∧ idxFrom (l.drop k) x k = idxFrom l x 0) (fun k => l.length - k) 0 ⟨Nat.zero_le _, rfl⟩ les leh (fun k hk => ?_)
  obtain ⟨h1, h2⟩ := hk
  rcases Nat.lt_or_eq_of_le h1 with h3 | h3
  · rw [idx_drop h3] at h2
    by_cases hx : x = l.getD k default
    · rw [if_pos hx] at h2
      repeat' (first | refine sA ?_ | ((first | apply kM | apply kN); (iterate 3 (· exact rfl)); (· first | exact ya)) | refine sG ?_ | (refine sK ?_ ?_ <;> intro hc <;> (try simp only [KL, sL, reduceCtorEq] at hc) <;> (try (have hT : True := hc; clear hT hc)) <;> (try (exfalso; omega))))
      all_goals first | (exfalso; omega) | exact retq rfl (by rw [h2])
    · rw [if_neg hx] at h2
      repeat' (first | refine sA ?_ | ((first | apply kM | apply kN); (iterate 3 (· exact rfl)); (· first | exact ya)) | refine sG ?_ | (refine sK ?_ ?_ <;> intro hc <;> (try simp only [KL, sL, reduceCtorEq] at hc) <;> (try (have hT : True := hc; clear hT hc)) <;> (try (exfalso; omega))))
      all_goals first | (exfalso; omega) | exact ⟨k + 1, ⟨by omega, h2⟩, by omega, les, leh⟩
  · subst h3
    rw [List.drop_length] at h2
    repeat' (first | refine sA ?_ | ((first | apply kM | apply kN); (iterate 3 (· exact rfl)); (· first | exact ya)) | refine sG ?_ | (refine sK ?_ ?_ <;> intro hc <;> (try simp only [KL, sL, reduceCtorEq] at hc) <;> (try (have hT : True := hc; clear hT hc)) <;> (try (exfalso; omega))))
    all_goals first | (exfalso; omega) | exact retq rfl (by rw [← h2]; rfl)
def relB (n : Nat) (ticks : Int) (d : Due) : Bool := decide ((0 ≤ d.task ∧ d.task < n) ∧ 0 ≤ d.at_ ∧ d.at_ < ticks)
def relL (n : Nat) (lt : List Due) (ticks : Int) : List Due := lt.filter (relB n ticks)
theorem relL_next (n : Nat) (lt : List Due) (ticks : Int) (k : Nat) (h : k < lt.length) : relL n (lt.take (k + 1)) ticks = relL n (lt.take k) ticks ++ (if relB n ticks (lt.getD k default) then [lt.getD k default] else []) := by
  unfold relL
  rw [List.take_succ_eq_append_getElem h, List.filter_append]
  simp [h, List.filter_cons]
theorem relC_fn (x y : Due) : Fn Try.prog 102 ([.agg (eDue x), .agg (eDue y)] ++ []) (.int .i64 (cmpD x y)) := by
  refine fnb Try.func102 (entered_of (by kernel_rfl)) rfl rfl rfl ?_
  have c1 := cmp_fn x.at_ y.at_
  have c2 := cmp_fn x.task y.task
  have c3 := or_fn (cmpI x.at_ y.at_) (cmpI x.task y.task)
  repeat' (first | refine sA ?_ | ((first | apply kM | apply kN); (iterate 3 (· exact rfl)); (· first | exact ya | exact q_c (c1) rfl | exact q_c (c2) rfl | exact q_c (c3) rfl)) | refine sG ?_ | (refine sK ?_ ?_ <;> intro hc <;> (try simp only [KL, sL, reduceCtorEq] at hc) <;> (try (have hT : True := hc; clear hT hc)) <;> (try (exfalso; omega))))
  exact retq rfl rfl
theorem releases_fn (l : List Task) (lt : List Due) (ticks : Int) (hl : l.length ≤ 1000000) (hn : lt.length ≤ 1000000) : Fn Try.prog 80 [.lst 7 (l.map eTask), .lst 2 (lt.map eDue), .int .i64 ticks] (.lst 2 ((sortD (relL l.length lt ticks)).map eDue)) := by
  refine fnb Try.func80 (entered_of (by kernel_rfl)) rfl rfl rfl ?_
  repeat' (first | refine sA ?_ | ((first | apply kM | apply kN); (iterate 3 (· exact rfl)); (· first | exact ya)) | refine sG ?_ | (refine sK ?_ ?_ <;> intro hc <;> (try simp only [KL, sL, reduceCtorEq] at hc) <;> (try (have hT : True := hc; clear hT hc)) <;> (try (exfalso; omega))))
  refine wturn (turn_own eDue (t := 7) rfl 12 41 2 (by omega) rfl) ?_
  refine wloop (fun k : Nat => ([(0, .lst 7 (l.map eTask)), (2, .int .i64 ticks), (7, .own 12), (10, .lst 2 (lt.map eDue)), (11, .int .i64 lt.length), (12, .int .i64 k)], [(12, .row 41 2 ((relL l.length (lt.take k) ticks).map eDue))])) (fun k => k ≤ lt.length) (fun k => lt.length - k) 0 (Nat.zero_le _) les leh (fun k hk => ?_)
  have hlen : (relL l.length (lt.take k) ticks).length ≤ k := by
    refine Nat.le_trans (List.length_filter_le _ _) ?_
    rw [List.length_take]; omega
  rcases Nat.lt_or_eq_of_le hk with hkl | hkl
  · obtain ⟨d, hd⟩ : ∃ d, lt.getD k default = d := ⟨_, rfl⟩
    have hnx := relL_next l.length lt ticks k hkl
    rw [hd] at hnx
    by_cases hb : (0 ≤ d.task ∧ d.task < l.length) ∧ 0 ≤ d.at_ ∧ d.at_ < ticks
    · rw [relB, decide_eq_true hb, if_pos rfl] at hnx
      repeat' (first | refine sA ?_ | (show O _ _ _ _ _ _ _; first | refine ao_alloc (id := 13) rfl rfl rfl rfl rfl rfl rfl ?_) | ((first | apply kM | apply kN); (iterate 3 (· exact rfl)); (· first | (show Y _ ⟨_, .indexAddr _ _ _, _, _, _, _⟩ _ _ _; first | exact Y.mk (ok_indexE (hd) rfl rfl rfl rfl rfl (by omega))) | exact ya)) | refine sG ?_ | (refine sK ?_ ?_ <;> intro hc <;> (try simp only [KL, sL, reduceCtorEq] at hc) <;> (try (have hT : True := hc; clear hT hc)) <;> (try (exfalso; omega))))
      all_goals first | (exfalso; omega) | skip
      (refine ao_ap (id := 12) (ys := [d]) (by_ := 16) rfl rfl rfl rfl rfl rfl rfl rfl rfl rfl (fun _ _ => rfl) ?_ ?_ rfl rfl rfl rfl rfl ?_; (· (first | omega | ((try simp only [List.length_cons, List.length_nil, List.length_append, List.length_map]) <;> omega))); (· (first | omega | ((try simp only [List.length_cons, List.length_nil, List.length_append, List.length_map]) <;> omega))))
      repeat' (first | refine sA ?_ | ((first | apply kM | apply kN); (iterate 3 (· exact rfl)); (· first | exact ya)) | refine sG ?_ | (refine sK ?_ ?_ <;> intro hc <;> (try simp only [KL, sL, reduceCtorEq] at hc) <;> (try (have hT : True := hc; clear hT hc)) <;> (try (exfalso; omega))))
      exact ⟨k + 1, by omega, by omega, les, by simp only [hnx]; exact leh⟩
    · rw [relB, decide_eq_false hb, if_neg Bool.false_ne_true, List.append_nil] at hnx
      repeat' (first | refine sA ?_ | (show O _ _ _ _ _ _ _; first | refine ao_alloc (id := 13) rfl rfl rfl rfl rfl rfl rfl ?_) | ((first | apply kM | apply kN); (iterate 3 (· exact rfl)); (· first | (show Y _ ⟨_, .indexAddr _ _ _, _, _, _, _⟩ _ _ _; first | exact Y.mk (ok_indexE (hd) rfl rfl rfl rfl rfl (by omega))) | exact ya)) | refine sG ?_ | (refine sK ?_ ?_ <;> intro hc <;> (try simp only [KL, sL, reduceCtorEq] at hc) <;> (try (have hT : True := hc; clear hT hc)) <;> (try (exfalso; omega))))
      all_goals first | (exfalso; omega) | skip
      all_goals exact ⟨k + 1, by omega, by omega, les, by simp only [hnx]; exact leh⟩
  · subst hkl
    rw [List.take_length] at *
    repeat' (first | refine sA ?_ | ((first | apply kM | apply kN); (iterate 3 (· exact rfl)); (· first | exact ya)) | refine sG ?_ | (refine sK ?_ ?_ <;> intro hc <;> (try simp only [KL, sL, reduceCtorEq] at hc) <;> (try (have hT : True := hc; clear hT hc)) <;> (try (exfalso; omega))))
    all_goals first | (exfalso; omega) | skip
    refine zcall (fun i => i + 8) (sort_Due 102 cmpD (fun x => True) swoD (fun x y hx hy => relC_fn x y) (relL l.length lt ticks) (fun x hx => trivial) (by omega)) rfl rfl leh rfl rfl rfl rfl rfl rfl (fun r h' hR => ?_)
    obtain ⟨rfl, o, ho, rfl⟩ := hR
    refine ⟨rfl, rfl, ?_⟩
    have h1 := sortD_of ho
    subst h1
    repeat' (first | refine sA ?_ | ((first | apply kM | apply kN); (iterate 3 (· exact rfl)); (· first | exact ya)) | refine sG ?_ | (refine sK ?_ ?_ <;> intro hc <;> (try simp only [KL, sL, reduceCtorEq] at hc) <;> (try (have hT : True := hc; clear hT hc)) <;> (try (exfalso; omega))))
    refine retT (fun _ => turn_freeze (t := 6) rfl rfl rfl) ?_
    exact retq rfl rfl
structure LS where
  T : List Int
  m1 : List (Int × Job)
  m2 : List (Int × Due)
def layTo (l : List Task) (dm : List (List Int)) (lt : List Due) (rk : List Int) (s : LS) : Nat → LS
  | 0 => s
  | r + 1 =>
    let s' := layTo l dm lt rk s r
    let p := placeTo l dm (idxFrom rk r 0) lt ⟨0, 0, s'.T, s'.m1, s'.m2⟩ lt.length
    ⟨p.T, p.m1, p.m2⟩
theorem layTo_len (l : List Task) (dm : List (List Int)) (lt : List Due) (rk : List Int) (s : LS) : ∀ r, (layTo l dm lt rk s r).T.length = s.T.length
  | 0 => rfl
  | r + 1 => by simp only [layTo]; rw [placeTo_len]; exact layTo_len l dm lt rk s r
def ticksN (ticks : Int) : Nat := (max 0 (min ticks 65536)).toNat
def layF (l : List Task) (lt : List Due) (dm : List (List Int)) (ticks : Int) : LS := layTo l dm (sortD (relL l.length lt (ticksN ticks))) (rkL (priosL l) l.length) ⟨List.replicate (ticksN ticks) (-1), [], []⟩ l.length
theorem rk_mem (l : List Task) {r : Nat} (h : r < l.length) : (r : Int) ∈ rkL (priosL l) l.length := by
  obtain ⟨o, ho⟩ := ord_ex (priosL l) l.length
  have h1 := ho.rank h
  have h2 := ho.at h
  have h3 := rkL_at (priosL l) (n := l.length) (k := (o.getD r default).toNat) (by omega)
  rw [show (((o.getD r default).toNat : Nat) : Int) = o.getD r default by omega, h1] at h3
  rw [← h3]
  exact getD_mem (by rw [rkL_len]; omega)
def ρL (i : Nat) : Nat := [5, 1, 7, 8, 6].getD i i
set_option maxHeartbeats 4000000 in
theorem lay30_fn (l : List Task) (lt : List Due) (dm : List (List Int)) (ticks : Int) (hl : l.length ≤ 100000) (hlt : lt.length ≤ 100000) : FnH Try.prog 60 [.lst 7 (l.map eTask), .lst 2 (lt.map eDue), .lst 1 (dm.map eLI), .int .i64 ticks]
    [(5, .row 3 1 (([] : List Int).map eI)), (6, .row 3 1 (([] : List Int).map eI)), (7, .row 3 1 (([] : List Int).map eI)), (8, .row 3 1 (([] : List Int).map eI))]
    (fun r h' => r = .ptr 5 0 ∧ h' = [(6, .row 3 1 ((layF l lt dm ticks).T.map eI)), (5, .blk 115 [.lst 7 (l.map eTask), .lst 1 (dm.map eLI), .own 6, .own 7, .own 8]), (7, mJ (layF l lt dm ticks).m1), (8, mD (layF l lt dm ticks).m2)]) := by
  refine fnhb Try.func60 (entered_of (by kernel_rfl)) rfl rfl ?_
  refine wle (s' := [(0, .lst 7 (l.map eTask)), (1, .lst 2 (lt.map eDue)), (2, .lst 1 (dm.map eLI)), (3, .int .i64 ticks)]) (h' := []) les (LeH.nil _) ?_
  repeat' (first | refine sA ?_ | ((first | apply kM | apply kN); (iterate 3 (· exact rfl)); (· first | exact ya)) | refine sG ?_ | (refine sK ?_ ?_ <;> intro hc <;> (try simp only [KL, sL, reduceCtorEq] at hc) <;> (try (have hT : True := hc; clear hT hc)) <;> (try (exfalso; omega))))
  refine ao_mmK 7 (fun j : Job => AV.agg (eJob j)) rfl rfl rfl rfl ?_
  repeat' (first | refine sA ?_ | ((first | apply kM | apply kN); (iterate 3 (· exact rfl)); (· first | exact ya)) | refine sG ?_ | (refine sK ?_ ?_ <;> intro hc <;> (try simp only [KL, sL, reduceCtorEq] at hc) <;> (try (have hT : True := hc; clear hT hc)) <;> (try (exfalso; omega))))
  refine ao_mmK 8 (fun d : Due => AV.agg (eDue d)) rfl rfl rfl rfl ?_
  repeat' (first | refine sA ?_ | (show O _ _ _ _ _ _ _; first | (show O _ _ _ _ (⟨_, .box _ _, _, _, _, _⟩ :: _) _ _; first | refine ao_box (id := 5) rfl rfl rfl rfl rfl rfl rfl rfl ?_)) | ((first | apply kM | apply kN); (iterate 3 (· exact rfl)); (· first | exact yab)) | refine sG ?_ | (refine sK ?_ ?_ <;> intro hc <;> (try simp only [KL, sL, reduceCtorEq] at hc) <;> (try (have hT : True := hc; clear hT hc)) <;> (try (exfalso; omega))))
  refine wle (s' := [(0, .lst 7 (l.map eTask)), (1, .lst 2 (lt.map eDue)), (2, .lst 1 (dm.map eLI)), (3, .int .i64 (ticksN ticks)), (9, .ptr 5 0), (22, .int .i64 (ticksN ticks)), (23, .int .i64 0)]) (h' := [(5, .blk 115 [.lst 7 (l.map eTask), .lst 1 (dm.map eLI), .nils, .own 7, .own 8]), (7, mJ []), (8, mD [])]) (by unfold ticksN; exact les) leh ?_
  obtain ⟨N, hN⟩ : ∃ N, N = ticksN ticks := ⟨_, rfl⟩
  have hN2 : N ≤ 65536 := by rw [hN]; unfold ticksN; omega
  rw [layF, ← hN]
  refine wturn (turn_ownJ eI (b := 5) 2 rfl rfl 6 3 1 (by omega) rfl) ?_
  refine wloop (fun k : Nat => ([(0, .lst 7 (l.map eTask)), (1, .lst 2 (lt.map eDue)), (2, .lst 1 (dm.map eLI)), (3, .int .i64 N), (9, .ptr 5 0), (22, .int .i64 N), (23, .int .i64 k)], [(6, .row 3 1 ((List.replicate k (-1 : Int)).map eI)), (5, .blk 115 [.lst 7 (l.map eTask), .lst 1 (dm.map eLI), .own 6, .own 7, .own 8]), (7, mJ []), (8, mD [])]))
    (fun k => k ≤ N) (fun k => N - k) 0 (Nat.zero_le _) les leh (fun k hk => ?_)
  have hrl : (List.replicate k (-1 : Int)).length = k := List.length_replicate ..
  rcases Nat.lt_or_eq_of_le hk with hkl | hkl
  · repeat' (first | refine sA ?_ | ((first | apply kM | apply kN); (iterate 3 (· exact rfl)); (· first | exact ya)) | refine sG ?_ | (refine sK ?_ ?_ <;> intro hc <;> (try simp only [KL, sL, reduceCtorEq] at hc) <;> (try (have hT : True := hc; clear hT hc)) <;> (try (exfalso; omega))))
    all_goals first | (exfalso; omega) | skip
    refine oturn (turn_mask [false, false, true] (id := 5) rfl) ?_
    refine ole (h' := [(6, .row 3 1 ((List.replicate k (-1 : Int)).map eI)), (5, .blk 115 [.lst 7 (l.map eTask), .lst 1 (dm.map eLI), .undef, .own 7, .own 8]), (7, mJ []), (8, mD [])]) (LeS.refl _) leh ?_
    (refine ao_ap (id := 6) (ys := [(-1 : Int)]) (by_ := 8) rfl rfl rfl rfl rfl rfl rfl rfl rfl rfl (fun _ _ => rfl) ?_ ?_ rfl rfl rfl rfl rfl ?_; (· (first | omega | ((try simp only [List.length_cons, List.length_nil, List.length_append, List.length_map]) <;> omega))); (· (first | omega | ((try simp only [List.length_cons, List.length_nil, List.length_append, List.length_map]) <;> omega))))
    repeat' (first | refine sA ?_ | ((first | apply kM | apply kN); (iterate 3 (· exact rfl)); (· first | exact ya)) | refine sG ?_ | (refine sK ?_ ?_ <;> intro hc <;> (try simp only [KL, sL, reduceCtorEq] at hc) <;> (try (have hT : True := hc; clear hT hc)) <;> (try (exfalso; omega))))
    have e : List.replicate k (-1 : Int) ++ [-1] = List.replicate (k + 1) (-1) := by rw [List.replicate_succ']
    exact ⟨k + 1, by omega, by omega, les, by simp only [← e]; exact leh⟩
  · subst hkl
    have c1 := releases_fn l lt k (by omega) (by omega)
    have c2 := tranks_fn l (by omega)
    obtain ⟨S, hS⟩ : ∃ S, S = sortD (relL l.length lt k) := ⟨_, rfl⟩
    have hSl : S.length ≤ 100000 := by
      rw [hS, sortD_len]
      exact Nat.le_trans (List.length_filter_le _ _) (by omega)
    have hSd : ∀ d ∈ S, 0 ≤ d.at_ ∧ d.at_ ≤ k := fun d hd => by
      rw [hS] at hd
      have := List.mem_filter.1 ((sortD_perm _).mem_iff.1 hd)
      have h2 := this.2
      simp only [relB, decide_eq_true_eq] at h2
      omega
    rw [← hS] at c1 ⊢
    clear hS
    repeat' (first | refine sA ?_ | ((first | apply kM | apply kN); (iterate 3 (· exact rfl)); (· first | exact ya | exact q_c (c1) rfl | exact q_c (c2) rfl)) | refine sG ?_ | (refine sK ?_ ?_ <;> intro hc <;> (try simp only [KL, sL, reduceCtorEq] at hc) <;> (try (have hT : True := hc; clear hT hc)) <;> (try (exfalso; omega))))
    all_goals first | (exfalso; omega) | skip
    refine wloop (fun r : Nat => ([(0, .lst 7 (l.map eTask)), (9, .ptr 5 0), (10, .lst 2 (S.map eDue)), (11, .lst 1 ((rkL (priosL l) l.length).map eI)), (42, .int .i64 l.length), (43, .int .i64 r)],
        [(6, .row 3 1 ((layTo l dm S (rkL (priosL l) l.length) ⟨List.replicate k (-1), [], []⟩ r).T.map eI)), (5, .blk 115 [.lst 7 (l.map eTask), .lst 1 (dm.map eLI), .own 6, .own 7, .own 8]), (7, mJ (layTo l dm S (rkL (priosL l) l.length) ⟨List.replicate k (-1), [], []⟩ r).m1), (8, mD (layTo l dm S (rkL (priosL l) l.length) ⟨List.replicate k (-1), [], []⟩ r).m2)]))
      (fun r => r ≤ l.length) (fun r => l.length - r) 0 (Nat.zero_le _) les leh (fun r hr => ?_)
    rcases Nat.lt_or_eq_of_le hr with hrl2 | hrl2
    · have hmem := idx_range (rkL (priosL l) l.length) r 0 (rk_mem l hrl2)
      rw [rkL_len] at hmem
      have c3 := index_fn (rkL (priosL l) l.length) r (by rw [rkL_len]; omega)
      have hTl := layTo_len l dm S (rkL (priosL l) l.length) ⟨List.replicate k (-1), [], []⟩ r
      rw [hrl] at hTl
      have hnx : layTo l dm S (rkL (priosL l) l.length) ⟨List.replicate k (-1), [], []⟩ (r + 1) = ⟨(placeTo l dm (idxFrom (rkL (priosL l) l.length) r 0) S ⟨0, 0, (layTo l dm S (rkL (priosL l) l.length) ⟨List.replicate k (-1), [], []⟩ r).T, (layTo l dm S (rkL (priosL l) l.length) ⟨List.replicate k (-1), [], []⟩ r).m1, (layTo l dm S (rkL (priosL l) l.length) ⟨List.replicate k (-1), [], []⟩ r).m2⟩ S.length).T, (placeTo l dm (idxFrom (rkL (priosL l) l.length) r 0) S ⟨0, 0, (layTo l dm S (rkL (priosL l) l.length) ⟨List.replicate k (-1), [], []⟩ r).T, (layTo l dm S (rkL (priosL l) l.length) ⟨List.replicate k (-1), [], []⟩ r).m1, (layTo l dm S (rkL (priosL l) l.length) ⟨List.replicate k (-1), [], []⟩ r).m2⟩ S.length).m1, (placeTo l dm (idxFrom (rkL (priosL l) l.length) r 0) S ⟨0, 0, (layTo l dm S (rkL (priosL l) l.length) ⟨List.replicate k (-1), [], []⟩ r).T, (layTo l dm S (rkL (priosL l) l.length) ⟨List.replicate k (-1), [], []⟩ r).m1, (layTo l dm S (rkL (priosL l) l.length) ⟨List.replicate k (-1), [], []⟩ r).m2⟩ S.length).m2⟩ := rfl
      generalize layTo l dm S (rkL (priosL l) l.length) ⟨List.replicate k (-1), [], []⟩ r = s' at *
      repeat' (first | refine sA ?_ | ((first | apply kM | apply kN); (iterate 3 (· exact rfl)); (· first | exact ya | exact q_c (c3) rfl)) | refine sG ?_ | (refine sK ?_ ?_ <;> intro hc <;> (try simp only [KL, sL, reduceCtorEq] at hc) <;> (try (have hT : True := hc; clear hT hc)) <;> (try (exfalso; omega))))
      all_goals first | (exfalso; omega) | skip
      refine zcall (fun i => ρL i) (place30_fn l dm (idxFrom (rkL (priosL l) l.length) r 0) S s'.T s'.m1 s'.m2 (by omega) (by omega) (by omega) (by omega) (fun d hd => by have := hSd d hd; omega)) rfl rfl leh rfl rfl rfl rfl rfl rfl (fun r h' hR => ?_)
      obtain ⟨rfl, rfl⟩ := hR
      refine ⟨rfl, rfl, ?_⟩
      repeat' (first | refine sA ?_ | ((first | apply kM | apply kN); (iterate 3 (· exact rfl)); (· first | exact ya)) | refine sG ?_ | (refine sK ?_ ?_ <;> intro hc <;> (try simp only [KL, sL, reduceCtorEq] at hc) <;> (try (have hT : True := hc; clear hT hc)) <;> (try (exfalso; omega))))
      exact ⟨r + 1, by omega, by omega, les, by simp only [hnx]; exact leh⟩
    · subst hrl2
      repeat' (first | refine sA ?_ | ((first | apply kM | apply kN); (iterate 3 (· exact rfl)); (· first | exact ya)) | refine sG ?_ | (refine sK ?_ ?_ <;> intro hc <;> (try simp only [KL, sL, reduceCtorEq] at hc) <;> (try (have hT : True := hc; clear hT hc)) <;> (try (exfalso; omega))))
      all_goals first | (exfalso; omega) | skip
      exact reth rfl leh ⟨rfl, rfl⟩
theorem timeline_fn (l : List Task) (lt : List Due) (dm : List (List Int)) (ticks : Int) (hl : l.length ≤ 100000) (hlt : lt.length ≤ 100000) : Fn Try.prog 35 [.lst 7 (l.map eTask), .lst 2 (lt.map eDue), .lst 1 (dm.map eLI), .int .i64 ticks] (.lst 1 ((layF l lt dm ticks).T.map eI)) := by
  refine fnb Try.func35 (entered_of (by kernel_rfl)) rfl rfl rfl ?_
  repeat' (first | refine sA ?_ | ((first | apply kM | apply kN); (iterate 3 (· exact rfl)); (· first | exact ya)) | refine sG ?_ | (refine sK ?_ ?_ <;> intro hc <;> (try simp only [KL, sL, reduceCtorEq] at hc) <;> (try (have hT : True := hc; clear hT hc)) <;> (try (exfalso; omega))))
  refine oturn (turn_dummy eI 10 3 1 (by omega) rfl) ?_
  refine oturn (turn_dummy eI 11 3 1 (by omega) rfl) ?_
  refine oturn (turn_dummy eI 12 3 1 (by omega) rfl) ?_
  refine oturn (turn_dummy eI 13 3 1 (by omega) rfl) ?_
  refine zcall (fun i => i + 5) (lay30_fn l lt dm ticks hl hlt) rfl rfl leh rfl rfl rfl rfl rfl rfl (fun r h' hR => ?_)
  obtain ⟨rfl, rfl⟩ := hR
  refine ⟨rfl, rfl, ?_⟩
  repeat' (first | refine sA ?_ | ((first | apply kM | apply kN); (iterate 3 (· exact rfl)); (· first | exact ya)) | refine sG ?_ | (refine sK ?_ ?_ <;> intro hc <;> (try simp only [KL, sL, reduceCtorEq] at hc) <;> (try (have hT : True := hc; clear hT hc)) <;> (try (exfalso; omega))))
  refine retT (fun _ => turn_mask [false, false, true] (id := 10) rfl) ?_
  refine retT (fun _ => turn_freeze (t := 8) rfl rfl rfl) ?_
  exact retq rfl rfl
def busyL (tl : List Int) (i : Int) : Int := ((tl.filter fun k => decide (k = i)).length : Int)
def difW (a b : Int) : Int := IntKind.i64.wrap (a - b)
def respS (i : Int) (s : Int × Bool) (j : Job) : Int × Bool := if j.task = i ∧ 0 ≤ j.fin then (if s.2 = false ∨ s.1 < difW j.fin j.release then difW j.fin j.release else s.1, true) else s
def respTo (js : List Job) (i : Int) (k : Nat) : Int × Bool := (js.take k).foldl (respS i) (0, false)
end Go.Proofs.Ytfjoaeghnfkdlaa
namespace Go.Proofs.Ytfjoaeghnfkdlaa
set_option maxRecDepth 100000
set_option maxRecDepth 100000
open Go.RowKit
theorem awake30_fn : Fn Try.prog 33 [] (.bool true) := by
  have f1 := timeline_fn [⟨0, 0, 0, 0, 4, 0, []⟩, ⟨0, 1, 0, 0, 4, 0, []⟩] [⟨0, 0⟩, ⟨0, 1⟩] [[2], [2]] 4 (by decide) (by decide)
  rw [show (layF [⟨0, 0, 0, 0, 4, 0, []⟩, ⟨0, 1, 0, 0, 4, 0, []⟩] [⟨0, 0⟩, ⟨0, 1⟩] [[2], [2]] 4).T = [1, 1, 0, 0] by decide] at f1
  have f2 := pl_Ints [1, 1, 0, 0] [1, 1, 0, 0]
  rw [show decide (([1, 1, 0, 0] : List Int) = [1, 1, 0, 0]) = true by decide] at f2
  have f3 : Fn Try.prog 35 [.lst 7 [[.int .i64 0, .int .i64 0, .int .i64 0, .int .i64 0, .int .i64 4, .int .i64 0, .nils], [.int .i64 0, .int .i64 1, .int .i64 0, .int .i64 0, .int .i64 4, .int .i64 0, .nils]], .lst 2 [[.int .i64 0, .int .i64 0], [.int .i64 0, .int .i64 1]], .lst 1 [[.lst 1 [[.int .i64 2]]], [.lst 1 [[.int .i64 2]]]], .int .i64 4] (.lst 1 (([1, 1, 0, 0] : List Int).map eI)) := by
    refine f1.le ?_
    refine L2.cons (lelst rfl ?_) (L2.cons (LeV.of_eq rfl) (L2.cons (LeV.of_eq rfl) (L2.cons (LeV.of_eq rfl) (L2.nil _))))
    simp only [List.flatten, List.map, eTask, List.cons_append, List.nil_append]
    repeat' (first | exact L2.nil _ | refine L2.cons ?_ ?_ | exact LeV0.refl _ | exact LeV0.nils _)
  refine fnb Try.func33 (entered_of (by kernel_rfl)) rfl rfl rfl ?_
  repeat' (first | refine sA ?_ | ((first | apply kM | apply kN); (iterate 3 (· exact rfl)); (· first | exact ya | exact q_c (f3) rfl | exact q_c (f2) rfl)) | refine sG ?_ | (refine sK ?_ ?_ <;> intro hc <;> (try simp only [KL, sL, reduceCtorEq] at hc) <;> (try (have hT : True := hc; clear hT hc)) <;> (try (exfalso; omega))))
  exact retq rfl rfl
def respB (i : Int) (j : Job) : Bool := decide (j.task = i ∧ 0 ≤ j.fin)
def metB (i r : Int) (j : Job) : Bool := respB i j && decide (difW j.fin j.release = r)
end Go.Proofs.Ytfjoaeghnfkdlaa
namespace Go.Proofs.Ytfjoaeghnfkdlaa
set_option maxRecDepth 100000
open Go.RowKit
def fstN (q : Nat → Bool) (n : Nat) : Option Nat := (List.range n).find? q
def idxV (o : Option Nat) : Int := match o with | some k => (k : Int) | none => -1
end Go.Proofs.Ytfjoaeghnfkdlaa
namespace Go.Proofs.Ytfjoaeghnfkdlaa
set_option maxRecDepth 100000
set_option maxRecDepth 100000
open Go.RowKit
def lightB (l : List Task) (asks : List Due) (dm : List (List Int)) (ticks : Int) : Bool :=
  fewQ l 20 && decide (asks.length ≤ 200 ∧ dm.length ≤ 20 ∧ ¬ (1000 < ticks ∧ ticks ≤ 65536)) && dm.all fun x => decide (x.length ≤ 1000)
theorem all_takeL (p : List Int → Bool) (l : List (List Int)) (k : Nat) (h : k < l.length) (h1 : (l.take k).all p = true) (h2 : p (l.getD k default) = true) : (l.take (k + 1)).all p = true := by
  rw [List.take_succ_eq_append_getElem h, List.all_append, h1]
  have e : l.getD k default = l[k] := by simp [h]
  rw [e] at h2
  simp [h2]
theorem light29_fn (l : List Task) (asks : List Due) (dm : List (List Int)) (ticks : Int) : Fn Try.prog 59 [.agg [.lst 7 (l.map eTask), .lst 2 (asks.map eDue), .lst 1 (dm.map eLI), .int .i64 ticks]] (.bool (lightB l asks dm ticks)) := by
  refine fnb Try.func59 (entered_of (by kernel_rfl)) rfl rfl rfl ?_
  have c1 := few_fn l 20 (by omega)
  rw [lightB]
  generalize fewQ l 20 = few at *
  by_cases h0 : few = true ∧ asks.length ≤ 200 ∧ dm.length ≤ 20 ∧ ¬ (1000 < ticks ∧ ticks ≤ 65536)
  case neg =>
    have e : (few && decide (asks.length ≤ 200 ∧ dm.length ≤ 20 ∧ ¬ (1000 < ticks ∧ ticks ≤ 65536))) = false := by
      cases few
      · rfl
      · rw [decide_eq_false (fun h => h0 ⟨rfl, h⟩)]; rfl
    cases few
    · repeat' (first | refine sA ?_ | ((first | apply kM | apply kN); (iterate 3 (· exact rfl)); (· first | exact ya | exact q_c (c1) rfl)) | refine sG ?_ | (refine sK ?_ ?_ <;> intro hc <;> (try simp only [KL, sL, reduceCtorEq] at hc) <;> (try (have hT : True := hc; clear hT hc)) <;> (try (exfalso; omega))))
      all_goals first | (exfalso; omega) | exact retq rfl (by rw [e, Bool.false_and])
    · have h0 : ¬ (asks.length ≤ 200 ∧ dm.length ≤ 20 ∧ ¬ (1000 < ticks ∧ ticks ≤ 65536)) := fun h => h0 ⟨rfl, h⟩
      repeat' (first | refine sA ?_ | ((first | apply kM | apply kN); (iterate 3 (· exact rfl)); (· first | exact ya | exact q_c (c1) rfl)) | refine sG ?_ | (refine sK ?_ ?_ <;> intro hc <;> (try simp only [KL, sL, reduceCtorEq] at hc) <;> (try (have hT : True := hc; clear hT hc)) <;> (try (exfalso; omega))))
      all_goals first | (exfalso; omega) | exact retq rfl (by rw [e, Bool.false_and])
  obtain ⟨rfl, h1, h2, h3⟩ := h0
  rw [decide_eq_true ⟨h1, h2, h3⟩]
  repeat' (first | refine sA ?_ | ((first | apply kM | apply kN); (iterate 3 (· exact rfl)); (· first | exact ya | exact q_c (c1) rfl)) | refine sG ?_ | (refine sK ?_ ?_ <;> intro hc <;> (try simp only [KL, sL, reduceCtorEq] at hc) <;> (try (have hT : True := hc; clear hT hc)) <;> (try (exfalso; omega))))
  all_goals first | (exfalso; omega) | skip
  all_goals
  refine wloop (fun k : Nat => ([(32, .lst 1 (dm.map eLI)), (33, .int .i64 dm.length), (34, .int .i64 k)], [])) (fun k => k ≤ dm.length ∧ (dm.take k).all (fun x => decide (x.length ≤ 1000)) = true) (fun k => dm.length - k) 0 ⟨Nat.zero_le _, rfl⟩ les leh (fun k hk => ?_)
  all_goals
  obtain ⟨hk1, hk2⟩ := hk
  rcases Nat.lt_or_eq_of_le hk1 with hkl | hkl
  · obtain ⟨d, hd⟩ : ∃ d, dm.getD k default = d := ⟨_, rfl⟩
    by_cases hc0 : d.length ≤ 1000
    · have := all_takeL _ dm k hkl hk2 (by rw [hd]; exact decide_eq_true hc0)
      repeat' (first | refine sA ?_ | ((first | apply kM | apply kN); (iterate 3 (· exact rfl)); (· first | (show Y _ ⟨_, .indexAddr _ _ _, _, _, _, _⟩ _ _ _; first | exact Y.mk (ok_indexE (hd) rfl rfl rfl rfl rfl (by omega))) | exact ya)) | refine sG ?_ | (refine sK ?_ ?_ <;> intro hc <;> (try simp only [KL, sL, reduceCtorEq] at hc) <;> (try (have hT : True := hc; clear hT hc)) <;> (try (exfalso; omega))))
      all_goals first | (exfalso; omega) | exact ⟨k + 1, ⟨by omega, this⟩, by omega, les, leh⟩
    · have hf : dm.all (fun t => decide (t.length ≤ 1000)) = false := by
        rw [List.all_eq_false]
        refine ⟨d, by rw [← hd]; exact getD_mem hkl, by simpa using hc0⟩
      repeat' (first | refine sA ?_ | ((first | apply kM | apply kN); (iterate 3 (· exact rfl)); (· first | (show Y _ ⟨_, .indexAddr _ _ _, _, _, _, _⟩ _ _ _; first | exact Y.mk (ok_indexE (hd) rfl rfl rfl rfl rfl (by omega))) | exact ya)) | refine sG ?_ | (refine sK ?_ ?_ <;> intro hc <;> (try simp only [KL, sL, reduceCtorEq] at hc) <;> (try (have hT : True := hc; clear hT hc)) <;> (try (exfalso; omega))))
      all_goals first | (exfalso; omega) | exact retq rfl (by rw [hf]; rfl)
  · subst hkl
    rw [List.take_length] at *
    repeat' (first | refine sA ?_ | ((first | apply kM | apply kN); (iterate 3 (· exact rfl)); (· first | exact ya)) | refine sG ?_ | (refine sK ?_ ?_ <;> intro hc <;> (try simp only [KL, sL, reduceCtorEq] at hc) <;> (try (have hT : True := hc; clear hT hc)) <;> (try (exfalso; omega))))
    all_goals first | (exfalso; omega) | exact retq rfl (by rw [hk2]; rfl)
end Go.Proofs.Ytfjoaeghnfkdlaa
namespace Go.Proofs.Ytfjoaeghnfkdlaa
set_option maxRecDepth 100000
set_option maxRecDepth 100000
open Go.RowKit
def stT (l : List Task) (dm : List (List Int)) (i : Int) (s : Int × Int × List Int) (d : Due) : Int × Int × List Int :=
  if s.2.1 < 0 ∨ d.at_ < s.2.1 then s else (s.1 + 1, (giveF dm s.2.2 (newJ l i s.1 d)).2.fin, (giveF dm s.2.2 (newJ l i s.1 d)).1)
def prT (s : PS) : Int × Int × List Int := (s.no, s.free, s.T)
def layT (l : List Task) (dm : List (List Int)) (S : List Due) (rk : List Int) (T0 : List Int) : Nat → List Int
  | 0 => T0
  | r + 1 => ((S.filter fun d => decide (d.task = idxFrom rk r 0)).foldl (stT l dm (idxFrom rk r 0)) (0, 0, layT l dm S rk T0 r)).2.2
theorem Ord.lt {prio : List Int} {n : Nat} {o : List Int} (h : Ord prio n o) {a b : Int} (ha : 0 ≤ a ∧ a < n) (hb : 0 ≤ b ∧ b < n) (hr : rk prio n a < rk prio n b) : befB prio a b = true := by
  obtain ⟨h1, h2⟩ := h.back ha
  obtain ⟨h3, h4⟩ := h.back hb
  have hs := List.pairwise_iff_getElem.1 h.srt (rk prio n a) (rk prio n b) (by rw [h.len]; exact h1) (by rw [h.len]; exact h3) hr
  have e1 : o.getD (rk prio n a) default = o[rk prio n a]'(by rw [h.len]; exact h1) := by simp [h.len, h1]
  have e2 : o.getD (rk prio n b) default = o[rk prio n b]'(by rw [h.len]; exact h3) := by simp [h.len, h3]
  rw [← e1, ← e2, h2, h4] at hs
  exact hs
def ahB (l : List Task) (a b : Int) : Bool := decide (0 ≤ a ∧ a < l.length ∧ 0 ≤ b ∧ b < l.length) && befB (priosL l) a b
theorem pr_at {l : List Task} {a : Int} (h : 0 ≤ a ∧ a < l.length) : pr (priosL l) a = (l.getD a.toNat default).prio := by
  have : a.toNat < l.length := by omega
  simp [pr, priosL, this]
theorem ahB_eq (l : List Task) (a b : Int) : ahB l a b = decide (0 ≤ a ∧ a < l.length ∧ 0 ≤ b ∧ b < l.length ∧ ((l.getD b.toNat default).prio < (l.getD a.toNat default).prio ∨ (l.getD a.toNat default).prio = (l.getD b.toNat default).prio ∧ a < b)) := by
  by_cases h : 0 ≤ a ∧ a < l.length ∧ 0 ≤ b ∧ b < l.length
  · rw [ahB, decide_eq_true h, Bool.true_and, befB, pr_at (by omega), pr_at (by omega)]
    rw [Bool.eq_iff_iff, decide_eq_true_eq, decide_eq_true_eq]
    omega
  · rw [ahB, decide_eq_false h, Bool.false_and]
    symm
    rw [decide_eq_false_iff_not]
    omega
theorem rahead30_fn (l : List Task) (a b : Int) (hn : l.length ≤ 1000000) : Fn Try.prog 34 [.lst 7 (l.map eTask), .int .i64 a, .int .i64 b] (.bool (ahB l a b)) := by
  refine fnb Try.func34 (entered_of (by kernel_rfl)) rfl rfl rfl ?_
  rw [ahB_eq]
  repeat' (first | refine sA ?_ | ((first | apply kM | apply kN); (iterate 3 (· exact rfl)); (· first | exact ya)) | refine sG ?_ | (refine sK ?_ ?_ <;> intro hc <;> (try simp only [KL, sL, reduceCtorEq] at hc) <;> (try (have hT : True := hc; clear hT hc)) <;> (try (exfalso; omega))))
  all_goals exact retq rfl (congrArg AV.bool (by rw [Bool.eq_iff_iff]; (try simp only [cond_true, cond_false, decide_eq_true_eq, Bool.not_eq_true', decide_eq_false_iff_not, Bool.and_eq_true, Bool.or_eq_true, true_iff, false_iff, iff_true, iff_false, Bool.false_eq_true, Bool.not_true, Bool.not_false, reduceCtorEq]); (first | done | omega | (constructor <;> intros <;> omega))))
theorem light30_fn (l : List Task) (lt : List Due) (dm : List (List Int)) (ticks : Int) : Fn Try.prog 32 [.agg [.lst 7 (l.map eTask), .lst 2 (lt.map eDue), .lst 1 (dm.map eLI), .int .i64 ticks]] (.bool (lightB l lt dm 0 && decide (ticks ≤ 500))) := by
  refine fnb Try.func32 (entered_of (by kernel_rfl)) rfl rfl rfl ?_
  have c1 := light29_fn l lt dm 0
  generalize lightB l lt dm 0 = b at *
  cases b
  · repeat' (first | refine sA ?_ | ((first | apply kM | apply kN); (iterate 3 (· exact rfl)); (· first | exact ya | exact q_c (c1) rfl)) | refine sG ?_ | (refine sK ?_ ?_ <;> intro hc <;> (try simp only [KL, sL, reduceCtorEq] at hc) <;> (try (have hT : True := hc; clear hT hc)) <;> (try (exfalso; omega))))
    all_goals first | (exfalso; omega) | exact retq rfl rfl
  · repeat' (first | refine sA ?_ | ((first | apply kM | apply kN); (iterate 3 (· exact rfl)); (· first | exact ya | exact q_c (c1) rfl)) | refine sG ?_ | (refine sK ?_ ?_ <;> intro hc <;> (try simp only [KL, sL, reduceCtorEq] at hc) <;> (try (have hT : True := hc; clear hT hc)) <;> (try (exfalso; omega))))
    all_goals first | (exfalso; omega) | exact retq rfl rfl
def exL (l : List Task) (k : Int) (more : List Due) : List Due := more.filter fun d => decide (d.task = k) || ahB l k d.task
end Go.Proofs.Ytfjoaeghnfkdlaa
