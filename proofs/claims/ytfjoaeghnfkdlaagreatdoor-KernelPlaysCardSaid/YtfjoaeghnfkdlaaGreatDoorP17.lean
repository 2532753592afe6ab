/- The document's book of jobs: a step, an end, who is late. No condition. -/
import Derived.Test.YtfjoaeghnfkdlaaGreatDoorP16
import Derived.Test.YtfjoaeghnfkdlaaGreatDoorP10
set_option linter.unusedSimpArgs false
set_option linter.unusedVariables false
set_option maxHeartbeats 1000000
namespace Go.Proofs.YtfjoaeghnfkdlaaGreatDoor
set_option maxRecDepth 100000
set_option maxRecDepth 100000
open Go.RowKit
abbrev rbA (B : Bk) : Nat × Chunk := (5, .row 71 8 (B.all.map eJob))
abbrev rbY (l : List Task) (js : List Job) (os : List Due) : Heap :=
  [(5, .row 71 8 (js.map eJob)), (0, .blk 53 [.lst 7 (l.map eTask), .own 5, .own 6]), (6, .row 60 2 (os.map eDue))]
set_option maxHeartbeats 4000000 in
theorem rstepJ_fn (l l' : List Task) (B : Bk) (n : Nat) (h : GoodB l' n B) (hn : n ≤ 100000) (i t : Int) : FnH Tryz.prog 59 [.ptr 0 0, .int .i64 i, .int .i64 t] (rbH l B.all B.overs)
    (fun r h' => r = .bool (hasN B.act i) ∧ h' = rbH l (stepBk B i t).all (stepBk B i t).overs) := by
  refine FnH.drop' (fnhb Tryz.func59 (entered_of (by kernel_rfl)) rfl rfl ?_)
  have halen := h.alen
  have c1 := rinT_fn t
  have c2 := ractive_fn l B.all B.overs (by omega) i
  rw [actI_good h i] at c2
  cases hh : hasN B.act i
  case false =>
    have e2 : stepBk B i t = B := by rw [stepBk, if_neg (by rw [hh]; exact Bool.false_ne_true)]
    rw [e2]
    rw [hh, if_neg (by decide)] at c2
    repeat' (first | refine sA ?_ | ((first | apply kM | apply kN); (iterate 3 (· exact rfl)); (· first | exact ya)) | refine sG ?_ | (refine sK ?_ ?_ <;> intro hc <;> (try simp only [KL, sL, reduceCtorEq] at hc) <;> (try (have hT : True := hc; clear hT hc)) <;> (try (exfalso; omega))))
    refine zcall (fun i => ρr i) (c2) rfl rfl leh rfl rfl rfl rfl rfl rfl (fun r h' hR => ?_)
    obtain ⟨rfl, rfl⟩ := hR
    refine ⟨rfl, rfl, ?_⟩
    repeat' (first | refine sA ?_ | ((first | apply kM | apply kN); (iterate 3 (· exact rfl)); (· first | exact ya)) | refine sG ?_ | (refine sK ?_ ?_ <;> intro hc <;> (try simp only [KL, sL, reduceCtorEq] at hc) <;> (try (have hT : True := hc; clear hT hc)) <;> (try (exfalso; omega))))
    all_goals first | (exfalso; omega) | exact retq rfl ⟨rbH l B.all B.overs, leh, rfl, rfl⟩
  obtain ⟨p1, p2, p3, p4⟩ := h.pos hh
  have hst := h.st _ p2
  have e2 : stepBk B i t = { B with all := B.all.set (posB B i) (stepJb t (B.all.getD (posB B i) default)) } := by rw [stepBk, if_pos hh]; rfl
  rw [e2]
  rw [hh, if_pos rfl] at c2
  simp only
  generalize posB B i = p at *
  repeat' (first | refine sA ?_ | ((first | apply kM | apply kN); (iterate 3 (· exact rfl)); (· first | exact ya)) | refine sG ?_ | (refine sK ?_ ?_ <;> intro hc <;> (try simp only [KL, sL, reduceCtorEq] at hc) <;> (try (have hT : True := hc; clear hT hc)) <;> (try (exfalso; omega))))
  refine zcall (fun i => ρr i) (c2) rfl rfl leh rfl rfl rfl rfl rfl rfl (fun r h' hR => ?_)
  obtain ⟨rfl, rfl⟩ := hR
  refine ⟨rfl, rfl, ?_⟩
  refine ole (s' := [(0, .ptr 0 0), (2, .int .i64 t), (10, .int .i64 p)]) (h' := rbY l B.all B.overs) les leh ?_
  by_cases hz : (B.all.getD p default).steps = 0
  · have hs1 : (B.all.set p { B.all.getD p default with start := inT t }).getD p default = { B.all.getD p default with start := inT t } := by rw [getD_set p p2, if_pos rfl]
    have hln : (B.all.set p { B.all.getD p default with start := inT t }).length = B.all.length := List.length_set
    have e3 : ((B.all.set p { B.all.getD p default with start := inT t }).set p { (B.all.set p { B.all.getD p default with start := inT t }).getD p default with steps := (B.all.getD p default).steps + 1 }) = B.all.set p (stepJb t (B.all.getD p default)) := by rw [List.set_set, hs1, stepJb, if_pos hz]
    repeat' (first | refine sB ?_ | ((first | apply kM | apply kN); (iterate 3 (· exact rfl)); (· first | (show Y _ ⟨_, .indexAddr _ _ _, _, _, _, _⟩ _ _ _; first | exact q_ioE (p) rfl rfl rfl rfl rfl rfl (by omega) (by omega)) | exact ya | exact q_c (c1) rfl)) | refine sG ?_ | (refine sK ?_ ?_ <;> intro hc <;> (try simp only [KL, sL, reduceCtorEq] at hc) <;> (try (have hT : True := hc; clear hT hc)) <;> (try (exfalso; omega))))
    all_goals first | (exfalso; omega) | skip
    refine wle (s' := [(0, .ptr 0 0), (2, .int .i64 t), (7, .int .i64 p)]) (h' := rbY l B.all B.overs) les leh ?_
    repeat' (first | (show W _ _ _ _ _ _; first | refine wdrawS rfl (by kernel_rfl) (by kernel_rfl) (by kernel_rfl) ?_ | apply kA | refine kB rfl ?_ | refine kC rfl rfl ?_ | refine kD rfl rfl ?_ | apply kE | apply kF | apply kG | apply kH | refine kI (by kernel_rfl) (by kernel_rfl) ?_) | (show O _ _ _ _ _ _ _; first | (show O _ _ _ _ (⟨_, .store _ _ _, _, _, _, _⟩ :: _) _ _; refine kJ rfl rfl rfl rfl rfl rfl rfl rfl rfl rfl rfl ?_) | apply kK) | apply kL | ((first | apply kM | apply kN); (iterate 3 (· exact rfl)); (· first | (show Y _ ⟨_, .indexAddr _ _ _, _, _, _, _⟩ _ _ _; first | exact q_ioE (p) rfl rfl rfl rfl rfl rfl (by omega) (by omega)) | (show Y _ ⟨_, .load _ _, _, _, _, _⟩ _ _ _; first | exact q_pE' hs1) | (show Y _ ⟨_, .call ⟨.value _, _, _⟩, _, _, _, _⟩ _ _ _; first | exact q_c (c1) rfl) | exact ya)) | (show F _ _ _ _ _ _ _ _ _ _ _; first | refine fnil ?_ | (apply f_ld; (· exact rfl); (· exact rfl); (· first | exact q_pE' hs1 | exact yp)) | refine f_se (x' := { B.all.getD p default with start := inT t }) rfl rfl rfl rfl rfl rfl rfl rfl rfl (by (first | rfl | omega | (simp only [List.length_set]; omega) | simp only [List.length_set])) (by (first | rfl | omega | (simp only [List.length_set]; omega) | simp only [List.length_set])) ?_ | (apply f_k; (· exact rfl); (· intro y' hy'; first | (show Y _ ⟨_, .indexAddr _ _ _, _, _, _, _⟩ _ _ _; first | exact q_ioE (p) rfl rfl rfl rfl rfl rfl (by omega) (by omega)) | (show Y _ ⟨_, .load _ _, _, _, _, _⟩ _ _ _; first | exact q_pE' hs1) | (show Y _ ⟨_, .call ⟨.value _, _, _⟩, _, _, _, _⟩ _ _ _; first | exact q_c (c1) rfl) | exact ya))) | refine kO rfl rfl rfl rfl rfl ?_ | refine kP rfl rfl rfl ?_ | ((first | refine kQ rfl rfl ?_ ?_ | refine kR rfl rfl rfl rfl rfl ?_ ?_ | refine kS rfl rfl rfl ?_ ?_) <;> intro hc <;> (try simp only [KL, cond_true, cond_false, beq_iff_eq, bne_iff_ne, ne_eq, reduceCtorEq] at hc) <;> (try (have hT : True := hc; clear hT hc)) <;> (try (exfalso; omega))) | apply kT | apply kU | apply kV | apply kW | refine kX rfl ?_ | apply kY | apply kZ)
    (refine ao_se (x' := { (B.all.set p { B.all.getD p default with start := inT t }).getD p default with steps := (B.all.getD p default).steps + 1 }) rfl rfl rfl rfl rfl rfl rfl rfl rfl ?_ rfl rfl rfl ?_; (· (first | omega | ((try simp only [List.length_set, List.length_cons, List.length_nil, List.length_append, List.length_map]) <;> omega))))
    repeat' (first | refine sA ?_ | ((first | apply kM | apply kN); (iterate 3 (· exact rfl)); (· first | exact ya)) | refine sG ?_ | (refine sK ?_ ?_ <;> intro hc <;> (try simp only [KL, sL, reduceCtorEq] at hc) <;> (try (have hT : True := hc; clear hT hc)) <;> (try (exfalso; omega))))
    rw [e3]
    exact retq rfl ⟨rbH l (B.all.set p (stepJb t (B.all.getD p default))) B.overs, leh, rfl, rfl⟩
  · have e3 : B.all.set p { B.all.getD p default with steps := (B.all.getD p default).steps + 1 } = B.all.set p (stepJb t (B.all.getD p default)) := by rw [stepJb, if_neg hz]
    repeat' (first | refine sA ?_ | ((first | apply kM | apply kN); (iterate 3 (· exact rfl)); (· first | (show Y _ ⟨_, .indexAddr _ _ _, _, _, _, _⟩ _ _ _; first | exact q_ioE (p) rfl rfl rfl rfl rfl rfl (by omega) (by omega)) | exact ya)) | refine sG ?_ | (refine sK ?_ ?_ <;> intro hc <;> (try simp only [KL, sL, reduceCtorEq] at hc) <;> (try (have hT : True := hc; clear hT hc)) <;> (try (exfalso; omega))))
    all_goals first | (exfalso; omega) | skip
    (refine ao_se (x' := { B.all.getD p default with steps := (B.all.getD p default).steps + 1 }) rfl rfl rfl rfl rfl rfl rfl rfl rfl ?_ rfl rfl rfl ?_; (· (first | omega | ((try simp only [List.length_set, List.length_cons, List.length_nil, List.length_append, List.length_map]) <;> omega))))
    repeat' (first | refine sA ?_ | ((first | apply kM | apply kN); (iterate 3 (· exact rfl)); (· first | exact ya)) | refine sG ?_ | (refine sK ?_ ?_ <;> intro hc <;> (try simp only [KL, sL, reduceCtorEq] at hc) <;> (try (have hT : True := hc; clear hT hc)) <;> (try (exfalso; omega))))
    rw [e3]
    exact retq rfl ⟨rbH l (B.all.set p (stepJb t (B.all.getD p default))) B.overs, leh, rfl, rfl⟩
set_option maxHeartbeats 4000000 in
theorem rendJ_fn (l l' : List Task) (B : Bk) (n : Nat) (h : GoodB l' n B) (hn : n ≤ 100000) (i t : Int) : FnH Tryz.prog 60 [.ptr 0 0, .int .i64 i, .int .i64 t] (rbH l B.all B.overs)
    (fun r h' => r = .tup [.agg (eJob (if hasN B.act i then endJb t (jobAt B i) else default)), .bool (hasN B.act i)] ∧ h' = rbH l (endBk B i t).all (endBk B i t).overs) := by
  refine FnH.drop' (fnhb Tryz.func60 (entered_of (by kernel_rfl)) rfl rfl ?_)
  have halen := h.alen
  have c1 := rinT_fn t
  have hi := inT_le t
  have c2 := ractive_fn l B.all B.overs (by omega) i
  rw [actI_good h i] at c2
  cases hh : hasN B.act i
  case false =>
    have e2 : endBk B i t = B := by rw [endBk, if_neg (by rw [hh]; exact Bool.false_ne_true)]
    rw [e2]
    rw [hh, if_neg (by decide)] at c2
    repeat' (first | refine sA ?_ | (show O _ _ _ _ _ _ _; first | refine ao_alloc (id := 12) rfl rfl rfl rfl rfl rfl rfl ?_) | ((first | apply kM | apply kN); (iterate 3 (· exact rfl)); (· first | exact ya)) | refine sG ?_ | (refine sK ?_ ?_ <;> intro hc <;> (try simp only [KL, sL, reduceCtorEq] at hc) <;> (try (have hT : True := hc; clear hT hc)) <;> (try (exfalso; omega))))
    refine zcall (fun i => ρr i) (c2) rfl rfl leh rfl rfl rfl rfl rfl rfl (fun r h' hR => ?_)
    obtain ⟨rfl, rfl⟩ := hR
    refine ⟨rfl, rfl, ?_⟩
    repeat' (first | refine sA ?_ | ((first | apply kM | apply kN); (iterate 3 (· exact rfl)); (· first | exact ya)) | refine sG ?_ | (refine sK ?_ ?_ <;> intro hc <;> (try simp only [KL, sL, reduceCtorEq] at hc) <;> (try (have hT : True := hc; clear hT hc)) <;> (try (exfalso; omega))))
    all_goals first | (exfalso; omega) | exact retq rfl ⟨rbH l B.all B.overs, leh, rfl, rfl⟩
  obtain ⟨p1, p2, p3, p4⟩ := h.pos hh
  have e2 : endBk B i t = { setJ B i (endJb t (jobAt B i)) with act := dropN B.act i, now := delM B.now i } := by rw [endBk, if_pos hh]
  rw [e2]
  rw [hh, if_pos rfl] at c2
  simp only [setJ, jobAt, if_pos]
  generalize posB B i = p at *
  have hs1 : (B.all.set p (endJb t (B.all.getD p default))).getD p default = endJb t (B.all.getD p default) := by rw [getD_set p p2, if_pos rfl]
  have hln : (B.all.set p (endJb t (B.all.getD p default))).length = B.all.length := List.length_set
  repeat' (first | refine sA ?_ | (show O _ _ _ _ _ _ _; first | refine ao_alloc (id := 12) rfl rfl rfl rfl rfl rfl rfl ?_) | ((first | apply kM | apply kN); (iterate 3 (· exact rfl)); (· first | exact ya)) | refine sG ?_ | (refine sK ?_ ?_ <;> intro hc <;> (try simp only [KL, sL, reduceCtorEq] at hc) <;> (try (have hT : True := hc; clear hT hc)) <;> (try (exfalso; omega))))
  refine zcall (fun i => ρr i) (c2) rfl rfl leh rfl rfl rfl rfl rfl rfl (fun r h' hR => ?_)
  obtain ⟨rfl, rfl⟩ := hR
  refine ⟨rfl, rfl, ?_⟩
  refine ole (s' := [(0, .ptr 0 0), (2, .int .i64 t), (6, .ptr 12 0), (11, .int .i64 p)]) (h' := (5, .row 71 8 (B.all.map eJob)) :: (12, .blk 71 (eJob default)) :: rbY l B.all B.overs) les leh ?_
  repeat' (first | refine sB ?_ | ((first | apply kM | apply kN); (iterate 3 (· exact rfl)); (· first | (show Y _ ⟨_, .indexAddr _ _ _, _, _, _, _⟩ _ _ _; first | exact q_ioE (p) rfl rfl rfl rfl rfl rfl (by omega) (by omega)) | exact ya | exact q_c (c1) rfl)) | refine sG ?_ | (refine sK ?_ ?_ <;> intro hc <;> (try simp only [KL, sL, reduceCtorEq] at hc) <;> (try (have hT : True := hc; clear hT hc)) <;> (try (exfalso; omega))))
  all_goals first | (exfalso; omega) | skip
  refine wle (h' := (5, .row 71 8 (B.all.map eJob)) :: (12, .blk 71 (eJob default)) :: rbY l B.all B.overs) (LeS.refl _) leh ?_
  repeat' (first | (show W _ _ _ _ _ _; first | refine wdrawS rfl (by kernel_rfl) (by kernel_rfl) (by kernel_rfl) ?_ | apply kA | refine kB rfl ?_ | refine kC rfl rfl ?_ | refine kD rfl rfl ?_ | apply kE | apply kF | apply kG | apply kH | refine kI (by kernel_rfl) (by kernel_rfl) ?_) | (show O _ _ _ _ _ _ _; first | (show O _ _ _ _ (⟨_, .store _ _ _, _, _, _, _⟩ :: _) _ _; refine kJ rfl rfl rfl rfl rfl rfl rfl rfl rfl rfl rfl ?_) | apply kK) | apply kL | ((first | apply kM | apply kN); (iterate 3 (· exact rfl)); (· first | (show Y _ ⟨_, .indexAddr _ _ _, _, _, _, _⟩ _ _ _; first | exact q_ioE (p) rfl rfl rfl rfl rfl rfl (by omega) (by omega)) | (show Y _ ⟨_, .load _ _, _, _, _, _⟩ _ _ _; first | exact q_pE' hs1) | (show Y _ ⟨_, .call ⟨.value _, _, _⟩, _, _, _, _⟩ _ _ _; first | exact q_c (c1) rfl) | exact ya)) | (show F _ _ _ _ _ _ _ _ _ _ _; first | refine fnil ?_ | (apply f_ld; (· exact rfl); (· exact rfl); (· first | exact q_pE' hs1 | exact yp)) | refine f_se (x' := endJb t (B.all.getD p default)) rfl rfl rfl rfl rfl rfl rfl rfl rfl (by (first | rfl | omega | (simp only [List.length_set]; omega) | simp only [List.length_set])) (by (first | rfl | omega | (simp only [List.length_set]; omega) | simp only [List.length_set])) ?_ | (apply f_k; (· exact rfl); (· intro y' hy'; first | (show Y _ ⟨_, .indexAddr _ _ _, _, _, _, _⟩ _ _ _; first | exact q_ioE (p) rfl rfl rfl rfl rfl rfl (by omega) (by omega)) | (show Y _ ⟨_, .load _ _, _, _, _, _⟩ _ _ _; first | exact q_pE' hs1) | (show Y _ ⟨_, .call ⟨.value _, _, _⟩, _, _, _, _⟩ _ _ _; first | exact q_c (c1) rfl) | exact ya))) | refine kO rfl rfl rfl rfl rfl ?_ | refine kP rfl rfl rfl ?_ | ((first | refine kQ rfl rfl ?_ ?_ | refine kR rfl rfl rfl rfl rfl ?_ ?_ | refine kS rfl rfl rfl ?_ ?_) <;> intro hc <;> (try simp only [KL, cond_true, cond_false, beq_iff_eq, bne_iff_ne, ne_eq, reduceCtorEq] at hc) <;> (try (have hT : True := hc; clear hT hc)) <;> (try (exfalso; omega))) | apply kT | apply kU | apply kV | apply kW | refine kX rfl ?_ | apply kY | apply kZ)
  all_goals exact retq rfl ⟨rbH l (B.all.set p (endJb t (B.all.getD p default))) B.overs, leh, rfl, rfl⟩
def lateS (t : Int) (p : List Int × Bk) (i : Int) : List Int × Bk := if lateQ t (jobAt p.2 i) then (p.1 ++ [i], setJ p.2 i (missJb (jobAt p.2 i))) else p
theorem late_fold (B : Bk) (t : Int) (ks : List Int) : ∀ k, k ≤ ks.length → lateBk B t ks k = (ks.take k).foldl (lateS t) ([], B)
  | 0, _ => by simp [lateBk]
  | k + 1, h => by
    have e : ks.getD k default = ks[k] := by simp [show k < ks.length by omega]
    rw [List.take_succ_eq_append_getElem (by omega), List.foldl_append, ← late_fold B t ks k (by omega), ← e]
    rfl
theorem bits_has (m k : Nat) (hk : k < 64) : bitsTo m (k + 1) = bitsTo m k ++ (if hasN m k then [(k : Int)] else []) := by
  rw [bitsTo_next]
  congr 1
  have : hasN m (k : Int) = decide (m / 2 ^ k % 2 = 1) := by
    rw [hasN_eq, ← Nat.testBit_eq_decide_div_mod_eq, Bool.eq_iff_iff, decide_eq_true_eq]
    unfold setL bitsL
    rw [List.mem_map]
    constructor
    · rintro ⟨j, hj, e⟩
      have e : j = k := by omega
      subst e
      exact (List.mem_filter.1 hj).2
    · intro hb
      exact ⟨k, List.mem_filter.2 ⟨List.mem_range.2 hk, hb⟩, rfl⟩
  rw [this]
  by_cases h : m / 2 ^ k % 2 = 1 <;> simp [h]
def lateT (B : Bk) (t : Int) (k : Nat) : List Int × Bk := (bitsTo B.act k).foldl (lateS t) ([], B)
theorem lateT_next (B : Bk) (t : Int) (k : Nat) (hk : k < 64) : lateT B t (k + 1) = if hasN B.act k then lateS t (lateT B t k) k else lateT B t k := by
  rw [lateT, bits_has _ _ hk, List.foldl_append]
  split
  · rfl
  · rfl
theorem lateT_all (B : Bk) (t : Int) : lateT B t 64 = lateBk B t (setL B.act) (setL B.act).length := by
  rw [late_fold _ _ _ _ (Nat.le_refl _), List.take_length]; rfl
structure LateI (l : List Task) (n : Nat) (B : Bk) (k : Nat) (p : List Int × Bk) : Prop where
  good : GoodB l n p.2
  act : p.2.act = B.act
  len : p.1.length ≤ k
  overs : p.2.overs = B.overs
theorem lateT_good {l : List Task} {n : Nat} {B : Bk} (h : GoodB l n B) (t : Int) : ∀ k, k ≤ 64 → LateI l n B k (lateT B t k)
  | 0, _ => ⟨h, rfl, Nat.zero_le _, rfl⟩
  | k + 1, hk => by
    have ih := lateT_good h t k (by omega)
    rw [lateT_next _ _ _ (by omega)]
    have i4 : (lateT B t k).1.length ≤ k + 1 := Nat.le_succ_of_le ih.len
    split
    · unfold lateS
      split
      · exact ⟨ih.good.set0 _, ih.act, by simp only [List.length_append, List.length_cons, List.length_nil]; have := ih.len; omega, ih.overs⟩
      · exact ⟨ih.good, ih.act, i4, ih.overs⟩
    · exact ⟨ih.good, ih.act, i4, ih.overs⟩
abbrev rbL (l : List Task) (js : List Job) (os : List Due) (ks : List Int) : Heap := (5, .row 71 8 (js.map eJob)) :: (20, .row 3 1 (ks.map eI)) :: rbY l js os
set_option maxHeartbeats 8000000 in
theorem rlateJ_fn (l l' : List Task) (B : Bk) (n : Nat) (h : GoodB l' n B) (hn : n ≤ 100000) (t : Int) : FnH Tryz.prog 55 [.ptr 0 0, .int .i64 t] (rbH l B.all B.overs)
    (fun r h' => r = .lst 1 ((lateBk B t (setL B.act) (setL B.act).length).1.map eI) ∧ h' = rbH l (lateBk B t (setL B.act) (setL B.act).length).2.all (lateBk B t (setL B.act) (setL B.act).length).2.overs) := by
  refine FnH.drop' (fnhb Tryz.func55 (entered_of (by kernel_rfl)) rfl rfl ?_)
  have c1 := rinT_fn t
  have hit := inT_le t
  rw [← lateT_all]
  repeat' (first | refine sA ?_ | ((first | apply kM | apply kN); (iterate 3 (· exact rfl)); (· first | exact ya)) | refine sG ?_ | (refine sK ?_ ?_ <;> intro hc <;> (try simp only [KL, sL, reduceCtorEq] at hc) <;> (try (have hT : True := hc; clear hT hc)) <;> (try (exfalso; omega))))
  refine wle (s' := [(0, .ptr 0 0), (1, .int .i64 t), (5, .nils), (6, .int .i64 0)]) (h' := rbY l B.all B.overs) les leh ?_
  refine wturn (turn_own eI (t := 5) rfl 20 3 1 (by omega) rfl) ?_
  refine wloop (fun k : Nat => ([(0, .ptr 0 0), (1, .int .i64 t), (5, .own 20), (6, .int .i64 k)], rbL l (lateT B t k).2.all (lateT B t k).2.overs (lateT B t k).1)) (fun k => k ≤ 64) (fun k => 64 - k) 0 (by omega) les (show LeH _ (rbL l B.all B.overs []) from leh) (fun k hk => ?_)
  have hI := lateT_good h t k hk
  rcases Nat.lt_or_eq_of_le hk with hkk | hkk
  · have hnx := lateT_next B t k hkk
    have hB := hI.good
    have hact := hI.act
    have hlen := hI.len
    rw [← hact] at hnx
    generalize lateT B t k = p at hnx hB hlen ⊢
    obtain ⟨ks, B1⟩ := p
    simp only at hnx hB hlen
    have halen := hB.alen
    have c2 := ractive_fn l B1.all B1.overs (by omega) k
    rw [actI_good hB k] at c2
    cases hh : hasN B1.act k
    case false =>
      rw [hh, if_neg (by decide)] at c2
      rw [hh, if_neg (by decide)] at hnx
      repeat' (first | refine sA ?_ | ((first | apply kM | apply kN); (iterate 3 (· exact rfl)); (· first | exact ya)) | refine sG ?_ | (refine sK ?_ ?_ <;> intro hc <;> (try simp only [KL, sL, reduceCtorEq] at hc) <;> (try (have hT : True := hc; clear hT hc)) <;> (try (exfalso; omega))))
      all_goals first | (exfalso; omega) | skip
      refine zcall (fun i => ρr i) (c2) rfl rfl leh rfl rfl rfl rfl rfl rfl (fun r h' hR => ?_)
      obtain ⟨rfl, rfl⟩ := hR
      refine ⟨rfl, rfl, ?_⟩
      refine ole (h' := rbL l B1.all B1.overs ks) (LeS.refl _) leh ?_
      repeat' (first | refine sA ?_ | ((first | apply kM | apply kN); (iterate 3 (· exact rfl)); (· first | exact ya | exact q_c (c1) rfl)) | refine sG ?_ | (refine sK ?_ ?_ <;> intro hc <;> (try simp only [KL, sL, reduceCtorEq] at hc) <;> (try (have hT : True := hc; clear hT hc)) <;> (try (exfalso; omega))))
      all_goals first | (exfalso; omega) | skip
      exact ⟨k + 1, by omega, by omega, les, by simp only [hnx]; exact leh⟩
    rw [hh, if_pos rfl] at c2
    rw [hh, if_pos rfl] at hnx
    obtain ⟨p1, p2, p3, p4⟩ := hB.pos hh
    obtain ⟨p, hp⟩ : ∃ p, p = posB B1 k := ⟨_, rfl⟩
    rw [← hp] at c2 p2
    have hja : jobAt B1 k = B1.all.getD p default := by rw [hp]; rfl
    repeat' (first | refine sA ?_ | ((first | apply kM | apply kN); (iterate 3 (· exact rfl)); (· first | exact ya)) | refine sG ?_ | (refine sK ?_ ?_ <;> intro hc <;> (try simp only [KL, sL, reduceCtorEq] at hc) <;> (try (have hT : True := hc; clear hT hc)) <;> (try (exfalso; omega))))
    all_goals first | (exfalso; omega) | skip
    refine zcall (fun i => ρr i) (c2) rfl rfl leh rfl rfl rfl rfl rfl rfl (fun r h' hR => ?_)
    obtain ⟨rfl, rfl⟩ := hR
    refine ⟨rfl, rfl, ?_⟩
    refine ole (h' := rbL l B1.all B1.overs ks) (LeS.refl _) leh ?_
    cases hm : (B1.all.getD p default).missed
    · by_cases hd : (B1.all.getD p default).deadline ≤ inT t
      · rw [lateS, if_pos (by simp only [hja]; rw [lateQ, hm, decide_eq_true hd]; rfl)] at hnx
        have hnx : lateT B t (k + 1) = (ks ++ [(k : Int)], { B1 with all := B1.all.set p (missJb (B1.all.getD p default)) }) := by rw [hnx, hp]; rfl
        repeat' (first | refine sA ?_ | ((first | apply kM | apply kN); (iterate 3 (· exact rfl)); (· first | (show Y _ ⟨_, .indexAddr _ _ _, _, _, _, _⟩ _ _ _; first | exact q_ioE (p) rfl rfl rfl rfl rfl rfl (by omega) (by omega)) | exact ya | exact q_c (c1) rfl)) | refine sG ?_ | (refine sK ?_ ?_ <;> intro hc <;> (try simp only [KL, sL, reduceCtorEq] at hc) <;> (try (have hT : True := hc; clear hT hc)) <;> (try (exfalso; omega))))
        all_goals first | (exfalso; omega) | (exfalso; revert hc; rw [hm]; decide) | skip
        (refine ao_se (x' := missJb (B1.all.getD p default)) rfl rfl rfl rfl rfl rfl rfl rfl rfl ?_ rfl rfl rfl ?_; (· (first | omega | ((try simp only [List.length_set, List.length_cons, List.length_nil, List.length_append, List.length_map]) <;> omega))))
        repeat' (first | refine sA ?_ | ((first | apply kM | apply kN); (iterate 3 (· exact rfl)); (· first | exact ya)) | refine sG ?_ | (refine sK ?_ ?_ <;> intro hc <;> (try simp only [KL, sL, reduceCtorEq] at hc) <;> (try (have hT : True := hc; clear hT hc)) <;> (try (exfalso; omega))))
        (refine ao_ap (id := 20) (ys := [(k : Int)]) (by_ := 8) rfl rfl rfl rfl rfl rfl rfl rfl rfl rfl (fun _ _ => rfl) ?_ ?_ rfl rfl rfl rfl rfl ?_; (· (first | omega | ((try simp only [List.length_cons, List.length_nil, List.length_append, List.length_map]) <;> omega))); (· (first | omega | ((try simp only [List.length_cons, List.length_nil, List.length_append, List.length_map]) <;> omega))))
        repeat' (first | refine sA ?_ | ((first | apply kM | apply kN); (iterate 3 (· exact rfl)); (· first | exact ya)) | refine sG ?_ | (refine sK ?_ ?_ <;> intro hc <;> (try simp only [KL, sL, reduceCtorEq] at hc) <;> (try (have hT : True := hc; clear hT hc)) <;> (try (exfalso; omega))))
        exact ⟨k + 1, by omega, by omega, les, by simp only [hnx]; exact leh⟩
      · rw [lateS, if_neg (by simp only [hja]; rw [lateQ, hm, decide_eq_false hd]; decide)] at hnx
        repeat' (first | refine sA ?_ | ((first | apply kM | apply kN); (iterate 3 (· exact rfl)); (· first | (show Y _ ⟨_, .indexAddr _ _ _, _, _, _, _⟩ _ _ _; first | exact q_ioE (p) rfl rfl rfl rfl rfl rfl (by omega) (by omega)) | exact ya | exact q_c (c1) rfl)) | refine sG ?_ | (refine sK ?_ ?_ <;> intro hc <;> (try simp only [KL, sL, reduceCtorEq] at hc) <;> (try (have hT : True := hc; clear hT hc)) <;> (try (exfalso; omega))))
        all_goals first | (exfalso; omega) | (exfalso; revert hc; rw [hm]; decide) | skip
        all_goals exact ⟨k + 1, by omega, by omega, les, by simp only [hnx]; exact leh⟩
    · rw [lateS, if_neg (by simp only [hja]; rw [lateQ, hm, Bool.not_true, Bool.false_and]; decide)] at hnx
      cases hjb : B1.all.getD p default with
      | mk q1 q2 q3 q4 q5 q6 q7 q8 =>
      rw [hjb] at hm
      simp only at hm
      subst hm
      repeat' (first | refine sA ?_ | ((first | apply kM | apply kN); (iterate 3 (· exact rfl)); (· first | (show Y _ ⟨_, .indexAddr _ _ _, _, _, _, _⟩ _ _ _; first | exact q_ioE (p) rfl rfl rfl rfl rfl rfl (by omega) (by omega)) | (show Y _ ⟨_, .load _ _, _, _, _, _⟩ _ _ _; first | exact q_pE' hjb) | exact ya | exact q_c (c1) rfl)) | refine sG ?_ | (refine sK ?_ ?_ <;> intro hc <;> (try simp only [KL, sL, reduceCtorEq] at hc) <;> (try (have hT : True := hc; clear hT hc)) <;> (try (exfalso; omega))))
      all_goals first | (exfalso; omega) | (exfalso; revert hc; decide) | skip
      all_goals exact ⟨k + 1, by omega, by omega, les, by simp only [hnx]; exact leh⟩
  · subst hkk
    repeat' (first | refine sA ?_ | ((first | apply kM | apply kN); (iterate 3 (· exact rfl)); (· first | exact ya)) | refine sG ?_ | (refine sK ?_ ?_ <;> intro hc <;> (try simp only [KL, sL, reduceCtorEq] at hc) <;> (try (have hT : True := hc; clear hT hc)) <;> (try (exfalso; omega))))
    all_goals first | (exfalso; omega) | skip
    refine retT (fun _ => turn_freeze (t := 4) rfl rfl rfl) ?_
    exact retq rfl ⟨rbH l (lateT B t 64).2.all (lateT B t 64).2.overs, leh, rfl, rfl⟩
end Go.Proofs.YtfjoaeghnfkdlaaGreatDoor
namespace Go.Proofs.YtfjoaeghnfkdlaaGreatDoor
set_option maxRecDepth 100000
open Go.RowKit
section
variable {P : Program} {n : Md} {Q : Exit → Slots → Heap → Prop} {s : Slots} {h : Heap}
theorem ownsRow_keep {w w' : World} {e : TypeId} {sz : Nat} {v : Value} {k : Nat} {vs : List Value} (h : w.ownsRow 0 e sz v k vs) (hw : ∀ g, Feet v g → w'.heap[g]? = w.heap[g]?) : w'.ownsRow 0 e sz v k vs := by
  obtain ⟨h2, h3⟩ := h
  refine ⟨h2, ?_⟩
  rcases h3 with h3 | ⟨g, cap, cur, hv, hb, hg, r⟩
  · exact .inl h3
  · exact .inr ⟨g, cap, cur, hv, hb, by rw [hw g (by rw [hv]; exact .inl rfl)]; exact hg, r⟩
def exC (e : TypeId) (sz : Nat) (Φ : List (List AV) → Prop) : SemC where
  rel := fun σ H v => ∃ xs, Φ xs ∧ 0 < sz ∧ (∀ c ∈ xs, c.length = sz) ∧ ∃ (w : World) (vs : List Value), w.heap = H ∧ w.ownsRow 0 e sz v xs.length vs ∧ L2 (VR0 σ) xs.flatten vs
  keep := fun σ σ' H H' v ⟨xs, h1, h2, h3, w, vs, h4, h5, h6⟩ hs hw => ⟨xs, h1, h2, h3, { w with heap := H' }, vs, rfl, ownsRow_keep h5 (fun g hg => by rw [h4]; exact hw g hg), h6.mono fun _ _ h => h.mono hs⟩
  lt := fun σ H v g ⟨xs, h1, h2, h3, w, vs, h4, h5, h6⟩ hg => by
    rcases h5.2 with ⟨hv, _⟩ | ⟨g', cap, cur, hv, hb, hc, r⟩
    · have hg := hg.one (fun vs e => by rw [hv] at e; cases e)
      rw [hv] at hg; cases hg
    · have hg := hg.one (fun vs e => by rw [hv] at e; cases e)
      rw [hv] at hg; simp only [footOf, Option.some.injEq] at hg; subst hg
      rw [← h4]; exact (Array.getElem?_eq_some_iff.1 hc).1
theorem Rel.say {E : Env} {σ : Sig} {ι : Nat → Value} {w : World} (hr : Rel E σ ι h w) {i : Nat} {c c' : Chunk} (hg : hget h i = some c) (hc : CR σ ι w i c') : Rel E σ ι ((i, c') :: h) w := by
  have key : ∀ j d, hget ((i, c') :: h) j = some d → ∃ d', hget h j = some d' := fun j d hd => by
    rw [hget_cons] at hd
    split at hd
    · rename_i e; exact ⟨c, e ▸ hg⟩
    · exact ⟨d, hd⟩
  refine ⟨hr.os, hr.tape, hr.output, hr.size, hr.old, hr.sigOld, hr.sub, fun j d hd => ?_, fun j d hd => ?_, fun j k d e hd he => ?_, hr.pin, hr.low, fun p hp => ⟨(hr.xo p hp).1, (hr.xo p hp).2.1, fun j d hd => ?_⟩⟩
  · rw [hget_cons] at hd
    split at hd
    · rename_i e; cases hd; exact e ▸ hc
    · exact hr.ch j d hd
  · obtain ⟨d', h'⟩ := key j d hd; exact hr.foot j d' h'
  · obtain ⟨d', h1⟩ := key j d hd; obtain ⟨e', h2⟩ := key k e he; exact hr.dj j k d' e' h1 h2
  · obtain ⟨d', h'⟩ := key j d hd; exact (hr.xo p hp).2.2 j d' h'
theorem Rel.pack {E : Env} {σ : Sig} {ι : Nat → Value} {w : World} (hr : Rel E σ ι h w) {i sz : Nat} {e : TypeId} {xs : List (List AV)} {Φ : List (List AV) → Prop} (hg : hget h i = some (.row e sz xs)) (hx : Φ xs) : Rel E σ ι ((i, .sem (exC e sz Φ)) :: h) w := by
  refine hr.say hg ?_
  obtain ⟨h0, h1, vs, h2, h3⟩ := hr.ch i _ hg
  exact ⟨xs, hx, h0, h1, w, vs, rfl, h2, h3⟩
theorem Rel.unpack {E : Env} {σ : Sig} {ι : Nat → Value} {w : World} (hr : Rel E σ ι h w) {i sz : Nat} {e : TypeId} {Φ : List (List AV) → Prop} (hg : hget h i = some (.sem (exC e sz Φ))) : ∃ xs, Φ xs ∧ Rel E σ ι ((i, .row e sz xs) :: h) w := by
  obtain ⟨xs, h1, h2, h3, w', vs, h4, h5, h6⟩ := hr.ch i _ hg
  exact ⟨xs, h1, hr.say hg ⟨h2, h3, vs, ownsRow_keep h5 (fun g _ => by rw [h4]), h6⟩⟩
theorem turn_pack (i : Nat) {sz : Nat} {e : TypeId} {xs : List (List AV)} (Φ : List (List AV) → Prop) (hg : hget h i = some (.row e sz xs)) (hx : Φ xs) : Turns n s h s ((i, .sem (exC e sz Φ)) :: h) :=
  fun E σ ι a w hr ht => ⟨σ, ι, hr.pack hg hx, ht⟩
theorem FnH.exOpen {f : FuncId} {args : List AV} {hin : Heap} {R : AV → Heap → Prop} (i : Nat) {sz : Nat} {e : TypeId} {Φ : List (List AV) → Prop} (hf : Entered P f) (h1 : ∀ xs, Φ xs → FnH P f args ((i, .row e sz xs) :: hin) R) (hg : hget hin i = some (.sem (exC e sz Φ))) : FnH P f args hin R :=
  ⟨hf, fun may pin σ ι w vs hr hv => let ⟨xs, h2, h3⟩ := hr.unpack hg; (h1 xs h2).2 may pin σ ι w vs h3 hv⟩
theorem FnH.exPack {f : FuncId} {args : List AV} {hin : Heap} {R : AV → Heap → Prop} (i : Nat) {sz : Nat} {e : TypeId} (hf : FnH P f args hin (fun r h' => ∃ xs Φ, hget h' i = some (.row e sz xs) ∧ Φ xs ∧ ∃ h2, LeH ((i, .sem (exC e sz Φ)) :: h') h2 ∧ R r h2)) : FnH P f args hin R :=
  ⟨hf.1, fun may pin σ ι w vs hr hv => (hf.2 may pin σ ι w vs hr hv).mono fun e w' ⟨u, r, h', σ', ι', h1, ⟨xs, Φ, h2, h3, h4, h5, h6⟩, h7, h8⟩ => ⟨u, r, h4, σ', ι', h1, h6, h7, (h8.pack h2 h3).le h5⟩⟩
theorem FnH.leIn {f : FuncId} {args : List AV} {hin hin' : Heap} {R : AV → Heap → Prop} (hf : FnH P f args hin R) (hl : LeH hin' hin) : FnH P f args hin' R :=
  ⟨hf.1, fun may pin σ ι w vs hr hv => hf.2 may pin σ ι w vs (hr.le hl) hv⟩
end
end Go.Proofs.YtfjoaeghnfkdlaaGreatDoor
