/- rta.All and the document's answer: how long jobs of all tasks may take. No condition. -/
import Derived.Test.YtkkmageogkkchaaGreatQ20
import Derived.Test.YtkkmageogkkchaaGreatQ22
import Derived.Test.YtkkmageogkkchaaGreatQ7
import Derived.Test.YtkkmageogkkchaaGreatQ18
namespace Go.Proofs.YtkkmageogkkchaaGreat
set_option linter.unusedSimpArgs false
set_option linter.unusedVariables false
set_option maxRecDepth 100000
set_option linter.unusedSimpArgs false
set_option linter.unusedVariables false
set_option maxRecDepth 100000
open Go.RowKit
/-- Who has a rank. -/
def pickI (S : System) (m : Nat) : Int := (ordL (priosL S.tasks) S.tasks.length).getD m default
structure AllR where
  R : List Int
  C : List Int
  at_ : Int
  e : Int
deriving DecidableEq
def zerosL (n : Nat) : List Int := List.replicate n 0
def allS (S : System) (p : Int) (a : AllR) : AllR :=
  if (respI S p a.C).2 ≠ 0 then ⟨[], [], p, (respI S p a.C).2⟩
  else ⟨a.R.set p.toNat (respI S p a.C).1, a.C.set p.toNat (jobI S p (respI S p a.C).1), -1, 0⟩
def allN (S : System) : Nat → AllR
  | 0 => ⟨zerosL S.tasks.length, zerosL S.tasks.length, -1, 0⟩
  | m + 1 => if (allN S m).e ≠ 0 then allN S m else allS S (pickI S m) (allN S m)
def allI (S : System) : AllR := allN S S.tasks.length
theorem allN_ok (S : System) : ∀ m, (allN S m).e = 0 → (allN S m).R.length = S.tasks.length ∧ (allN S m).C.length = S.tasks.length ∧ (allN S m).at_ = -1
  | 0, _ => by simp [allN, zerosL]
  | m + 1, h => by
    rw [allN] at h ⊢
    by_cases h1 : (allN S m).e ≠ 0
    · rw [if_pos h1] at h; exact absurd h h1
    rw [if_neg h1] at h ⊢
    have ih := allN_ok S m (by simpa using h1)
    rw [allS] at h ⊢
    by_cases h2 : (respI S (pickI S m) (allN S m).C).2 ≠ 0
    · rw [if_pos h2] at h; exact absurd h h2
    · rw [if_neg h2]
      exact ⟨by simp only [List.length_set]; exact ih.1, by simp only [List.length_set]; exact ih.2.1, rfl⟩
theorem allN_stop (S : System) {m : Nat} (h : (allN S m).e ≠ 0) : ∀ k, allN S (m + k) = allN S m
  | 0 => rfl
  | k + 1 => by
    have ih := allN_stop S h k
    rw [← Nat.add_assoc, allN, ih, if_pos h]
theorem allI_stop (S : System) {m : Nat} (hm : m ≤ S.tasks.length) (h : (allN S m).e ≠ 0) : allI S = allN S m := by
  have := allN_stop S h (S.tasks.length - m)
  rw [show m + (S.tasks.length - m) = S.tasks.length from by omega] at this
  exact this
theorem pick_ord (S : System) : Ord (priosL S.tasks) S.tasks.length (ordL (priosL S.tasks) S.tasks.length) := by
  obtain ⟨o, ho⟩ := ord_ex (priosL S.tasks) S.tasks.length
  rw [← ho.eq]; exact ho
theorem pick_B (S : System) {m : Nat} (hm : m < S.tasks.length) : 0 ≤ pickI S m ∧ pickI S m < S.tasks.length := (pick_ord S).at hm
theorem pick_rk (S : System) {m : Nat} (hm : m < S.tasks.length) : rk (priosL S.tasks) S.tasks.length (pickI S m) = m := (pick_ord S).rank hm
theorem pick_of (S : System) {m i : Nat} (hi : i < S.tasks.length) (h : rk (priosL S.tasks) S.tasks.length (i : Int) = m) : pickI S m = i := by
  have := (pick_ord S).back (i := (i : Int)) ⟨by omega, by omega⟩
  rw [h] at this
  exact this.2
theorem pick_idx (S : System) {m : Nat} (hm : m < S.tasks.length) : idxI (rkL (priosL S.tasks) S.tasks.length) (m : Int) = pickI S m := by
  obtain ⟨p, hp⟩ : ∃ p : Nat, pickI S m = p := ⟨(pickI S m).toNat, by have := pick_B S hm; omega⟩
  have hb := pick_B S hm
  have hr := pick_rk S hm
  rw [hp] at hb hr
  rw [idxI, rkL_len, fstN_some (k := p) (by omega), idxV, hp]
  · rw [rkL_at _ (by omega), hr]; simp
  · intro j hj
    rw [rkL_at _ (by omega)]
    refine decide_eq_false fun e => ?_
    have := pick_of S (m := m) (i := j) (by omega) (by omega)
    omega
theorem above_rk (l : List Task) {k : Nat} (hk : k < l.length) : rk (priosL l) l.length (k : Int) = (aboveL l k).length := by
  rw [rk, aboveL, aboveTo, List.length_map, ← List.countP_eq_length_filter, idx, List.countP_map]
  refine List.countP_congr fun j hj => ?_
  have hj := List.mem_range.1 hj
  have e : ∀ i : Nat, i < l.length → pr (priosL l) (i : Int) = prioAt l (i : Int) := fun i hi => by
    simp [pr, priosL, prioAt, hi]
  simp only [Function.comp, befB, decide_eq_true_eq, ahead_lt, e j hj, e k hk]
  omega
theorem pick_above (S : System) {m i : Nat} (hm : m < S.tasks.length) (hi : i < S.tasks.length) : ((aboveL S.tasks i).length : Int) = m ↔ pickI S m = i := by
  rw [← above_rk _ hi]
  constructor
  · intro h; exact pick_of S hi (by omega)
  · intro h
    have := pick_rk S hm
    rw [h] at this; omega
def h11 (n : Nat) (f : Nat → Bool) : Heap := (bif f 3 then [(10, .row 3 1 ((zerosL n).map eI))] else []) ++ (bif f 7 then [(11, .row 3 1 ((zerosL n).map eI))] else [])
set_option maxHeartbeats 2000000 in
theorem all_fn (S : System) (h : OkS S) : Fn Tryz.prog 34 [.agg (eSystem S)] (.tup [.lst 1 ((allI S).R.map eI), .lst 1 ((allI S).C.map eI), .int .i64 (allI S).at_, .int .i64 (allI S).e]) := by
  have h1 := h.tl
  have hrl : (rkL (priosL S.tasks) S.tasks.length).length = S.tasks.length := rkL_len _ _
  have c1 := tranks_fn S.tasks (by omega)
  have cidx : ∀ m : Nat, m < S.tasks.length → idxI (rkL (priosL S.tasks) S.tasks.length) (m : Int) = pickI S m := fun m hm => pick_idx S hm
  generalize rkL (priosL S.tasks) S.tasks.length = rks at *
  refine fnb4 Tryz.func34 (entered_of (by kernel_rfl)) rfl rfl rfl ?_
  repeat' (first | refine sB ?_ | ((first | apply kM | apply kN); (iterate 3 (· exact rfl)); (· first | exact ya)) | refine sG ?_ | ((first | refine kQ rfl rfl ?_ ?_ | refine kR rfl rfl rfl rfl rfl ?_ ?_ | refine kS rfl rfl rfl ?_ ?_) <;> intro hc <;> (try simp only [KL, cond_true, cond_false, beq_iff_eq, bne_iff_ne, ne_eq, reduceCtorEq] at hc) <;> (try (have hT : True := hc; clear hT hc)) <;> (try (exfalso; omega))))
  refine wdrawM (h11 S.tasks.length) [3, 7] (fun c => bif Nat.beq c 3 then 10 else 11) leh (by kernel_rfl) (by kernel_rfl) (fun f g e => by unfold h11; rw [e 3 (by decide), e 7 (by decide)]) rfl rfl ?_
  repeat' (first | refine sA ?_ | ((first | apply kM | apply kN); (iterate 3 (· exact rfl)); (· first | exact ya)) | (show MW _ _ _ _ _ _ _ _ _; first | refine mwnil ?_ | (apply mw_any; (· exact rfl); (· exact rfl); (· intro f'; first | exact ya); (· first | exact rfl | kernel_rfl))) | refine sG ?_ | ((first | refine kQ rfl rfl ?_ ?_ | refine kR rfl rfl rfl rfl rfl ?_ ?_ | refine kS rfl rfl rfl ?_ ?_) <;> intro hc <;> (try simp only [KL, cond_true, cond_false, beq_iff_eq, bne_iff_ne, ne_eq, reduceCtorEq] at hc) <;> (try (have hT : True := hc; clear hT hc)) <;> (try (exfalso; omega))))
  refine mw_new (v := .own 10) rfl rfl (fun f hf => ?_) (by first | exact rfl | kernel_rfl) ?_
  · have e1 : setB f 3 3 = true := rfl
    have e2 : setB f 3 7 = f 7 := rfl
    unfold h11
    rw [hf, e1, e2]
    cases f 7
    · exact TuN.post (tn_make (f := eI) (d := 0) (by_ := 8) rfl rfl rfl rfl rfl rfl rfl rfl rfl rfl (by omega) (by omega) rfl rfl) leh
    · exact TuN.post (tn_make (f := eI) (d := 0) (by_ := 8) rfl rfl rfl rfl rfl rfl rfl rfl rfl rfl (by omega) (by omega) rfl rfl) leh
  repeat' (first | refine sA ?_ | ((first | apply kM | apply kN); (iterate 3 (· exact rfl)); (· first | exact ya)) | (show MW _ _ _ _ _ _ _ _ _; first | refine mwnil ?_ | (apply mw_any; (· exact rfl); (· exact rfl); (· intro f'; first | exact ya); (· first | exact rfl | kernel_rfl))) | refine sG ?_ | ((first | refine kQ rfl rfl ?_ ?_ | refine kR rfl rfl rfl rfl rfl ?_ ?_ | refine kS rfl rfl rfl ?_ ?_) <;> intro hc <;> (try simp only [KL, cond_true, cond_false, beq_iff_eq, bne_iff_ne, ne_eq, reduceCtorEq] at hc) <;> (try (have hT : True := hc; clear hT hc)) <;> (try (exfalso; omega))))
  refine mw_new (v := .own 11) rfl rfl (fun f hf => ?_) (by first | exact rfl | kernel_rfl) ?_
  · have e1 : setB f 7 7 = true := rfl
    have e2 : setB f 7 3 = f 3 := rfl
    unfold h11
    rw [hf, e1, e2]
    cases f 3
    · exact TuN.post (tn_make (f := eI) (d := 0) (by_ := 8) rfl rfl rfl rfl rfl rfl rfl rfl rfl rfl (by omega) (by omega) rfl rfl) leh
    · exact TuN.post (tn_make (f := eI) (d := 0) (by_ := 8) rfl rfl rfl rfl rfl rfl rfl rfl rfl rfl (by omega) (by omega) rfl rfl) leh
  repeat' (first | refine sA ?_ | ((first | apply kM | apply kN); (iterate 3 (· exact rfl)); (· first | exact ya)) | (show MW _ _ _ _ _ _ _ _ _; first | refine mwnil ?_ | (apply mw_any; (· exact rfl); (· exact rfl); (· intro f'; first | exact ya); (· first | exact rfl | kernel_rfl))) | refine sG ?_ | ((first | refine kQ rfl rfl ?_ ?_ | refine kR rfl rfl rfl rfl rfl ?_ ?_ | refine kS rfl rfl rfl ?_ ?_) <;> intro hc <;> (try simp only [KL, cond_true, cond_false, beq_iff_eq, bne_iff_ne, ne_eq, reduceCtorEq] at hc) <;> (try (have hT : True := hc; clear hT hc)) <;> (try (exfalso; omega))))
  repeat' (first | refine sA ?_ | ((first | apply kM | apply kN); (iterate 3 (· exact rfl)); (· first | (show Y _ ⟨_, .call ⟨.value _, _, _⟩, _, _, _, _⟩ _ _ _; first | exact q_c (c1) rfl) | exact ya)) | refine sG ?_ | ((first | refine kQ rfl rfl ?_ ?_ | refine kR rfl rfl rfl rfl rfl ?_ ?_ | refine kS rfl rfl rfl ?_ ?_) <;> intro hc <;> (try simp only [KL, cond_true, cond_false, beq_iff_eq, bne_iff_ne, ne_eq, reduceCtorEq] at hc) <;> (try (have hT : True := hc; clear hT hc)) <;> (try (exfalso; omega))))
  refine wloop (fun m : Nat => ([(1, .ref (eSystem S)), (2, .own 10), (3, .own 11), (6, .lst 1 (rks.map eI)), (23, .int .i64 S.tasks.length), (24, .int .i64 m)], [(10, .row 3 1 ((allN S m).R.map eI)), (11, .row 3 1 ((allN S m).C.map eI))])) (fun m => m ≤ S.tasks.length ∧ (allN S m).e = 0) (fun m => S.tasks.length - m) 0 ⟨Nat.zero_le _, rfl⟩ les leh (fun m hm => ?_)
  obtain ⟨hm, he⟩ := hm
  have hok := allN_ok S m he
  rcases Nat.lt_or_eq_of_le hm with hml | hml
  · have hpb := pick_B S hml
    have c2 := index_fn rks (m : Int) (by omega)
    rw [cidx m hml] at c2
    have enx : allN S (m + 1) = allS S (pickI S m) (allN S m) := by rw [allN, if_neg (by rw [he]; simp)]
    have hstop := fun h => allI_stop S (m := m + 1) hml h
    rw [enx, allS] at hstop
    rw [allS] at enx
    obtain ⟨p, hp⟩ : ∃ p : Nat, pickI S m = p := ⟨(pickI S m).toNat, by omega⟩
    rw [hp] at c2 hstop enx hpb
    generalize allN S m = a at *
    obtain ⟨R, C, at0, e0⟩ := a
    obtain ⟨hR, hC, hA⟩ := hok
    dsimp only at he hR hC hA hstop enx ⊢
    have c3 := response_fn S h p C
    by_cases hx : (respI S p C).2 = 0
    · rw [if_neg (by rw [hx]; simp)] at enx
      have c4 := job_fn S h p (respI S p C).1
      rw [hx] at c3
      generalize (respI S p C).1 = r at *
      repeat' (first | refine sA ?_ | ((first | apply kM | apply kN); (iterate 3 (· exact rfl)); (· first | (show Y _ ⟨_, .indexAddr _ _ _, _, _, _, _⟩ _ _ _; first | exact q_ioE (p) rfl rfl rfl rfl rfl rfl (by omega) (by omega)) | (show Y _ ⟨_, .call ⟨.value _, _, _⟩, _, _, _, _⟩ _ _ _; first | exact q_c (c2) rfl | exact q_c (c4) rfl) | exact ya | exact Y.mk (ok_lend c3 rfl rfl rfl))) | refine sG ?_ | ((first | refine kQ rfl rfl ?_ ?_ | refine kR rfl rfl rfl rfl rfl ?_ ?_ | refine kS rfl rfl rfl ?_ ?_) <;> intro hc <;> (try simp only [KL, cond_true, cond_false, beq_iff_eq, bne_iff_ne, ne_eq, reduceCtorEq] at hc) <;> (try (have hT : True := hc; clear hT hc)) <;> (try (exfalso; omega))))
      all_goals first | (exfalso; omega) | skip
      (refine ao_se (x' := r) rfl rfl rfl rfl rfl rfl rfl rfl rfl ?_ rfl rfl rfl ?_; (· (first | omega | ((try simp only [List.length_set, List.length_cons, List.length_nil, List.length_append, List.length_map]) <;> omega))))
      repeat' (first | refine sA ?_ | ((first | apply kM | apply kN); (iterate 3 (· exact rfl)); (· first | (show Y _ ⟨_, .indexAddr _ _ _, _, _, _, _⟩ _ _ _; first | exact q_ioE (p) rfl rfl rfl rfl rfl rfl (by omega) (by omega)) | exact ya)) | refine sG ?_ | ((first | refine kQ rfl rfl ?_ ?_ | refine kR rfl rfl rfl rfl rfl ?_ ?_ | refine kS rfl rfl rfl ?_ ?_) <;> intro hc <;> (try simp only [KL, cond_true, cond_false, beq_iff_eq, bne_iff_ne, ne_eq, reduceCtorEq] at hc) <;> (try (have hT : True := hc; clear hT hc)) <;> (try (exfalso; omega))))
      (refine ao_se (x' := jobI S p r) rfl rfl rfl rfl rfl rfl rfl rfl rfl ?_ rfl rfl rfl ?_; (· (first | omega | ((try simp only [List.length_set, List.length_cons, List.length_nil, List.length_append, List.length_map]) <;> omega))))
      repeat' (first | refine sA ?_ | ((first | apply kM | apply kN); (iterate 3 (· exact rfl)); (· first | exact ya)) | refine sG ?_ | ((first | refine kQ rfl rfl ?_ ?_ | refine kR rfl rfl rfl rfl rfl ?_ ?_ | refine kS rfl rfl rfl ?_ ?_) <;> intro hc <;> (try simp only [KL, cond_true, cond_false, beq_iff_eq, bne_iff_ne, ne_eq, reduceCtorEq] at hc) <;> (try (have hT : True := hc; clear hT hc)) <;> (try (exfalso; omega))))
      rw [Int.toNat_natCast] at enx
      exact ⟨m + 1, ⟨by omega, by rw [enx]⟩, by omega, les, by rw [enx]; exact leh⟩
    · rw [if_pos hx] at hstop
      rw [hstop hx]
      repeat' (first | refine sA ?_ | ((first | apply kM | apply kN); (iterate 3 (· exact rfl)); (· first | (show Y _ ⟨_, .call ⟨.value _, _, _⟩, _, _, _, _⟩ _ _ _; first | exact q_c (c2) rfl) | exact ya | exact Y.mk (ok_lend c3 rfl rfl rfl))) | refine sG ?_ | ((first | refine kQ rfl rfl ?_ ?_ | refine kR rfl rfl rfl rfl rfl ?_ ?_ | refine kS rfl rfl rfl ?_ ?_) <;> intro hc <;> (try simp only [KL, cond_true, cond_false, beq_iff_eq, bne_iff_ne, ne_eq, reduceCtorEq] at hc) <;> (try (have hT : True := hc; clear hT hc)) <;> (try (exfalso; omega))))
      all_goals first | (exfalso; omega) | skip
      refine retT4 (fun _ => turn_nil 1 (t := 2) rfl) ?_
      refine retT4 (fun _ => turn_nil 1 (t := 3) rfl) ?_
      exact retq4 rfl rfl
  · subst hml
    have e : allI S = allN S S.tasks.length := rfl
    rw [e, he, hok.2.2]
    repeat' (first | refine sA ?_ | ((first | apply kM | apply kN); (iterate 3 (· exact rfl)); (· first | exact ya)) | refine sG ?_ | ((first | refine kQ rfl rfl ?_ ?_ | refine kR rfl rfl rfl rfl rfl ?_ ?_ | refine kS rfl rfl rfl ?_ ?_) <;> intro hc <;> (try simp only [KL, cond_true, cond_false, beq_iff_eq, bne_iff_ne, ne_eq, reduceCtorEq] at hc) <;> (try (have hT : True := hc; clear hT hc)) <;> (try (exfalso; omega))))
    all_goals first | (exfalso; omega) | skip
    refine retT4 (fun _ => turn_freeze (t := 2) rfl rfl rfl) ?_
    refine retT4 (fun _ => turn_freeze (t := 3) rfl rfl rfl) ?_
    exact retq4 rfl rfl
end Go.Proofs.YtkkmageogkkchaaGreat
namespace Go.Proofs.YtkkmageogkkchaaGreat
set_option linter.unusedSimpArgs false
set_option linter.unusedVariables false
set_option maxRecDepth 100000
set_option linter.unusedSimpArgs false
set_option linter.unusedVariables false
set_option maxRecDepth 100000
open Go.RowKit
/-- What there is once so many of the tasks were gone by, in the search for one of a rank. -/
def curN (S : System) (m i : Nat) : AllR := if pickI S m < (i : Int) then allN S (m + 1) else allN S m
set_option maxHeartbeats 2000000 in
theorem rall_fn (S : System) (h : OkS S) : Fn Tryz.prog 35 [.agg (eSystem S)] (.tup [.lst 1 ((allI S).R.map eI), .lst 1 ((allI S).C.map eI), .int .i64 (allI S).at_, .int .i64 (allI S).e]) := by
  have h1 := h.tl
  refine fnb4 Tryz.func35 (entered_of (by kernel_rfl)) rfl rfl rfl ?_
  repeat' (first | refine sA ?_ | ((first | apply kM | apply kN); (iterate 3 (· exact rfl)); (· first | exact ya)) | refine sG ?_ | ((first | refine kQ rfl rfl ?_ ?_ | refine kR rfl rfl rfl rfl rfl ?_ ?_ | refine kS rfl rfl rfl ?_ ?_) <;> intro hc <;> (try simp only [KL, cond_true, cond_false, beq_iff_eq, bne_iff_ne, ne_eq, reduceCtorEq] at hc) <;> (try (have hT : True := hc; clear hT hc)) <;> (try (exfalso; omega))))
  (refine ao_mk (f := eI) (d := (0 : Int)) (id := 10) (by_ := 8) (sz := 1) rfl rfl rfl rfl rfl rfl rfl rfl rfl rfl ?_ ?_ rfl rfl rfl rfl ?_; (· omega); (· omega))
  repeat' (first | refine sA ?_ | ((first | apply kM | apply kN); (iterate 3 (· exact rfl)); (· first | exact ya)) | refine sG ?_ | ((first | refine kQ rfl rfl ?_ ?_ | refine kR rfl rfl rfl rfl rfl ?_ ?_ | refine kS rfl rfl rfl ?_ ?_) <;> intro hc <;> (try simp only [KL, cond_true, cond_false, beq_iff_eq, bne_iff_ne, ne_eq, reduceCtorEq] at hc) <;> (try (have hT : True := hc; clear hT hc)) <;> (try (exfalso; omega))))
  (refine ao_mk (f := eI) (d := (0 : Int)) (id := 11) (by_ := 8) (sz := 1) rfl rfl rfl rfl rfl rfl rfl rfl rfl rfl ?_ ?_ rfl rfl rfl rfl ?_; (· omega); (· omega))
  repeat' (first | refine sA ?_ | ((first | apply kM | apply kN); (iterate 3 (· exact rfl)); (· first | exact ya)) | refine sG ?_ | ((first | refine kQ rfl rfl ?_ ?_ | refine kR rfl rfl rfl rfl rfl ?_ ?_ | refine kS rfl rfl rfl ?_ ?_) <;> intro hc <;> (try simp only [KL, cond_true, cond_false, beq_iff_eq, bne_iff_ne, ne_eq, reduceCtorEq] at hc) <;> (try (have hT : True := hc; clear hT hc)) <;> (try (exfalso; omega))))
  refine wloop (fun m : Nat => ([(1, .ref (eSystem S)), (6, .own 10), (7, .own 11), (22, .int .i64 S.tasks.length), (23, .int .i64 m)], [(10, .row 3 1 ((allN S m).R.map eI)), (11, .row 3 1 ((allN S m).C.map eI))])) (fun m => m ≤ S.tasks.length ∧ (allN S m).e = 0) (fun m => S.tasks.length - m) 0 ⟨Nat.zero_le _, rfl⟩ les leh (fun m hm => ?_)
  obtain ⟨hm, he⟩ := hm
  rcases Nat.lt_or_eq_of_le hm with hml | hml
  · have hpb := pick_B S hml
    have hab := fun i hi => pick_above S (m := m) (i := i) hml hi
    have enx : allN S (m + 1) = allS S (pickI S m) (allN S m) := by rw [allN, if_neg (by rw [he]; simp)]
    have hstop := fun h => allI_stop S (m := m + 1) hml h
    have hcur : ∀ i, curN S m i = if pickI S m < (i : Int) then allN S (m + 1) else allN S m := fun i => rfl
    have hok := allN_ok S m he
    generalize hN : allN S (m + 1) = b at *
    repeat' (first | refine sA ?_ | ((first | apply kM | apply kN); (iterate 3 (· exact rfl)); (· first | exact ya)) | refine sG ?_ | ((first | refine kQ rfl rfl ?_ ?_ | refine kR rfl rfl rfl rfl rfl ?_ ?_ | refine kS rfl rfl rfl ?_ ?_) <;> intro hc <;> (try simp only [KL, cond_true, cond_false, beq_iff_eq, bne_iff_ne, ne_eq, reduceCtorEq] at hc) <;> (try (have hT : True := hc; clear hT hc)) <;> (try (exfalso; omega))))
    all_goals first | (exfalso; omega) | skip
    refine wloop (fun i : Nat => ([(1, .ref (eSystem S)), (6, .own 10), (7, .own 11), (8, .int .i64 m), (22, .int .i64 S.tasks.length), (23, .int .i64 m), (28, .int .i64 S.tasks.length), (29, .int .i64 i)], [(10, .row 3 1 ((curN S m i).R.map eI)), (11, .row 3 1 ((curN S m i).C.map eI))])) (fun i => i ≤ S.tasks.length ∧ (curN S m i).e = 0) (fun i => S.tasks.length - i) 0 ⟨Nat.zero_le _, by rw [hcur, if_neg (by omega)]; exact he⟩ les (by rw [hcur, if_neg (by omega)]; exact leh) (fun i hi => ?_)
    obtain ⟨hi, hie⟩ := hi
    rcases Nat.lt_or_eq_of_le hi with hil | hil
    · have c1 := rabove_fn S.tasks i (by omega)
      have ha := hab i hil
      obtain ⟨L, hL⟩ : ∃ L, aboveL S.tasks i = L := ⟨_, rfl⟩
      rw [hL] at c1 ha
      have hLm : (L.map eI).length = L.length := List.length_map _
      have hn1 := hcur (i + 1)
      have hn0 := hcur i
      by_cases hp : pickI S m = i
      · rw [if_pos (by omega)] at hn1
        rw [if_neg (by omega)] at hn0
        rw [hn0]
        have hlen := ha.2 hp
        rw [hp, allS] at enx
        generalize allN S m = a at *
        obtain ⟨R, C, at0, e0⟩ := a
        obtain ⟨hR, hC, hA⟩ := hok
        dsimp only at he hR hC hA enx ⊢
        have c3 := rresp_fn S h i C
        by_cases hx : (respI S i C).2 = 0
        · rw [if_neg (by rw [hx]; simp)] at enx
          have c4 := rjob_fn S h i (respI S i C).1
          rw [hx] at c3
          generalize (respI S i C).1 = r at *
          repeat' (first | refine sA ?_ | ((first | apply kM | apply kN); (iterate 3 (· exact rfl)); (· first | (show Y _ ⟨_, .indexAddr _ _ _, _, _, _, _⟩ _ _ _; first | exact q_ioE (i) rfl rfl rfl rfl rfl rfl (by omega) (by omega)) | (show Y _ ⟨_, .call ⟨.value _, _, _⟩, _, _, _, _⟩ _ _ _; first | exact q_c (c1) rfl | exact q_c (c4) rfl) | exact ya | exact Y.mk (ok_lend c3 rfl rfl rfl))) | refine sG ?_ | ((first | refine kQ rfl rfl ?_ ?_ | refine kR rfl rfl rfl rfl rfl ?_ ?_ | refine kS rfl rfl rfl ?_ ?_) <;> intro hc <;> (try simp only [KL, cond_true, cond_false, beq_iff_eq, bne_iff_ne, ne_eq, reduceCtorEq] at hc) <;> (try (have hT : True := hc; clear hT hc)) <;> (try (exfalso; omega))))
          all_goals first | (exfalso; omega) | skip
          (refine ao_se (x' := r) rfl rfl rfl rfl rfl rfl rfl rfl rfl ?_ rfl rfl rfl ?_; (· (first | omega | ((try simp only [List.length_set, List.length_cons, List.length_nil, List.length_append, List.length_map]) <;> omega))))
          repeat' (first | refine sA ?_ | ((first | apply kM | apply kN); (iterate 3 (· exact rfl)); (· first | (show Y _ ⟨_, .indexAddr _ _ _, _, _, _, _⟩ _ _ _; first | exact q_ioE (i) rfl rfl rfl rfl rfl rfl (by omega) (by omega)) | (show Y _ ⟨_, .call ⟨.value _, _, _⟩, _, _, _, _⟩ _ _ _; first | exact q_c (c4) rfl) | exact ya)) | refine sG ?_ | ((first | refine kQ rfl rfl ?_ ?_ | refine kR rfl rfl rfl rfl rfl ?_ ?_ | refine kS rfl rfl rfl ?_ ?_) <;> intro hc <;> (try simp only [KL, cond_true, cond_false, beq_iff_eq, bne_iff_ne, ne_eq, reduceCtorEq] at hc) <;> (try (have hT : True := hc; clear hT hc)) <;> (try (exfalso; omega))))
          (refine ao_se (x' := jobI S i r) rfl rfl rfl rfl rfl rfl rfl rfl rfl ?_ rfl rfl rfl ?_; (· (first | omega | ((try simp only [List.length_set, List.length_cons, List.length_nil, List.length_append, List.length_map]) <;> omega))))
          repeat' (first | refine sA ?_ | ((first | apply kM | apply kN); (iterate 3 (· exact rfl)); (· first | exact ya)) | refine sG ?_ | ((first | refine kQ rfl rfl ?_ ?_ | refine kR rfl rfl rfl rfl rfl ?_ ?_ | refine kS rfl rfl rfl ?_ ?_) <;> intro hc <;> (try simp only [KL, cond_true, cond_false, beq_iff_eq, bne_iff_ne, ne_eq, reduceCtorEq] at hc) <;> (try (have hT : True := hc; clear hT hc)) <;> (try (exfalso; omega))))
          rw [Int.toNat_natCast] at enx
          exact ⟨i + 1, ⟨by omega, by rw [hn1, enx]⟩, by omega, les, by rw [hn1, enx]; exact leh⟩
        · rw [if_pos hx] at enx
          have hst := hstop (by rw [enx]; exact hx)
          rw [hst, enx]
          repeat' (first | refine sA ?_ | ((first | apply kM | apply kN); (iterate 3 (· exact rfl)); (· first | (show Y _ ⟨_, .call ⟨.value _, _, _⟩, _, _, _, _⟩ _ _ _; first | exact q_c (c1) rfl) | exact ya | exact Y.mk (ok_lend c3 rfl rfl rfl))) | refine sG ?_ | ((first | refine kQ rfl rfl ?_ ?_ | refine kR rfl rfl rfl rfl rfl ?_ ?_ | refine kS rfl rfl rfl ?_ ?_) <;> intro hc <;> (try simp only [KL, cond_true, cond_false, beq_iff_eq, bne_iff_ne, ne_eq, reduceCtorEq] at hc) <;> (try (have hT : True := hc; clear hT hc)) <;> (try (exfalso; omega))))
          all_goals first | (exfalso; omega) | skip
          refine retT4 (fun _ => turn_nil 1 (t := 2) rfl) ?_
          refine retT4 (fun _ => turn_nil 1 (t := 3) rfl) ?_
          exact retq4 rfl rfl
      · have hlen : ¬ (L.length : Int) = m := fun e => hp (ha.1 e)
        have hsame : curN S m (i + 1) = curN S m i := by
          rw [hn1, hn0]
          by_cases hq : pickI S m < (i : Int)
          · rw [if_pos hq, if_pos (by omega)]
          · rw [if_neg hq, if_neg (by omega)]
        repeat' (first | refine sA ?_ | ((first | apply kM | apply kN); (iterate 3 (· exact rfl)); (· first | (show Y _ ⟨_, .call ⟨.value _, _, _⟩, _, _, _, _⟩ _ _ _; first | exact q_c (c1) rfl) | exact ya)) | refine sG ?_ | ((first | refine kQ rfl rfl ?_ ?_ | refine kR rfl rfl rfl rfl rfl ?_ ?_ | refine kS rfl rfl rfl ?_ ?_) <;> intro hc <;> (try simp only [KL, cond_true, cond_false, beq_iff_eq, bne_iff_ne, ne_eq, reduceCtorEq] at hc) <;> (try (have hT : True := hc; clear hT hc)) <;> (try (exfalso; omega))))
        all_goals first | (exfalso; omega) | exact ⟨i + 1, ⟨by omega, by rw [hsame]; exact hie⟩, by omega, les, by rw [hsame]; exact leh⟩
    · subst hil
      rw [hcur, if_pos (by omega)] at hie
      repeat' (first | refine sA ?_ | ((first | apply kM | apply kN); (iterate 3 (· exact rfl)); (· first | exact ya)) | refine sG ?_ | ((first | refine kQ rfl rfl ?_ ?_ | refine kR rfl rfl rfl rfl rfl ?_ ?_ | refine kS rfl rfl rfl ?_ ?_) <;> intro hc <;> (try simp only [KL, cond_true, cond_false, beq_iff_eq, bne_iff_ne, ne_eq, reduceCtorEq] at hc) <;> (try (have hT : True := hc; clear hT hc)) <;> (try (exfalso; omega))))
      all_goals first | (exfalso; omega) | exact ⟨m + 1, ⟨by omega, by rw [hN]; exact hie⟩, by omega, les, by rw [hN]; (rw [hcur, if_pos (by omega)]); exact leh⟩
  · subst hml
    have e : allI S = allN S S.tasks.length := rfl
    rw [e, he, (allN_ok S _ he).2.2]
    repeat' (first | refine sA ?_ | ((first | apply kM | apply kN); (iterate 3 (· exact rfl)); (· first | exact ya)) | refine sG ?_ | ((first | refine kQ rfl rfl ?_ ?_ | refine kR rfl rfl rfl rfl rfl ?_ ?_ | refine kS rfl rfl rfl ?_ ?_) <;> intro hc <;> (try simp only [KL, cond_true, cond_false, beq_iff_eq, bne_iff_ne, ne_eq, reduceCtorEq] at hc) <;> (try (have hT : True := hc; clear hT hc)) <;> (try (exfalso; omega))))
    all_goals first | (exfalso; omega) | skip
    refine retT4 (fun _ => turn_freeze (t := 2) rfl rfl rfl) ?_
    refine retT4 (fun _ => turn_freeze (t := 3) rfl rfl rfl) ?_
    exact retq4 rfl rfl
abbrev nopX : Instr := ⟨0, 0, 0, 0, 0⟩
abbrev doneX : Instr := ⟨21, 0, 0, 0, 0⟩
theorem awC38_4 : Fn Tryz.prog 72 [.int .i64 4] (.lst 5 (([nopX, nopX, nopX, doneX] : List Instr).map eInstr)) := by
  refine fnb Tryz.func72 (entered_of (by kernel_rfl)) rfl rfl rfl ?_
  repeat' (first | refine sA ?_ | ((first | apply kM | apply kN); (iterate 3 (· exact rfl)); (· first | exact ya)) | refine sG ?_ | ((first | refine kQ rfl rfl ?_ ?_ | refine kR rfl rfl rfl rfl rfl ?_ ?_ | refine kS rfl rfl rfl ?_ ?_) <;> intro hc <;> (try simp only [KL, cond_true, cond_false, beq_iff_eq, bne_iff_ne, ne_eq, reduceCtorEq] at hc) <;> (try (have hT : True := hc; clear hT hc)) <;> (try (exfalso; omega))))
  (refine ao_mk (m := 3) (f := eInstr) (d := nopX) (id := 10) (by_ := 40) (sz := 5) rfl rfl rfl rfl rfl rfl rfl rfl rfl rfl ?_ ?_ rfl rfl rfl rfl ?_; (· omega); (· omega))
  have hrep : (List.replicate 3 nopX).length = 3 := rfl
  repeat' (first | refine sA ?_ | ((first | apply kM | apply kN); (iterate 3 (· exact rfl)); (· first | exact ya)) | refine sG ?_ | ((first | refine kQ rfl rfl ?_ ?_ | refine kR rfl rfl rfl rfl rfl ?_ ?_ | refine kS rfl rfl rfl ?_ ?_) <;> intro hc <;> (try simp only [KL, cond_true, cond_false, beq_iff_eq, bne_iff_ne, ne_eq, reduceCtorEq] at hc) <;> (try (have hT : True := hc; clear hT hc)) <;> (try (exfalso; omega))))
  (refine ao_ap (id := 10) (ys := [doneX]) (by_ := 40) rfl rfl rfl rfl rfl rfl rfl rfl rfl rfl (fun _ _ => rfl) ?_ ?_ rfl rfl rfl rfl rfl ?_; (· (first | omega | ((try simp only [List.length_cons, List.length_nil, List.length_append, List.length_map]) <;> omega))); (· (first | omega | ((try simp only [List.length_cons, List.length_nil, List.length_append, List.length_map]) <;> omega))))
  repeat' (first | refine sA ?_ | ((first | apply kM | apply kN); (iterate 3 (· exact rfl)); (· first | exact ya)) | refine sG ?_ | ((first | refine kQ rfl rfl ?_ ?_ | refine kR rfl rfl rfl rfl rfl ?_ ?_ | refine kS rfl rfl rfl ?_ ?_) <;> intro hc <;> (try simp only [KL, cond_true, cond_false, beq_iff_eq, bne_iff_ne, ne_eq, reduceCtorEq] at hc) <;> (try (have hT : True := hc; clear hT hc)) <;> (try (exfalso; omega))))
  refine retT (fun _ => turn_freeze (t := 2) rfl rfl rfl) ?_
  exact retq rfl rfl
theorem awC38_5 : Fn Tryz.prog 72 [.int .i64 5] (.lst 5 (([nopX, nopX, nopX, nopX, doneX] : List Instr).map eInstr)) := by
  refine fnb Tryz.func72 (entered_of (by kernel_rfl)) rfl rfl rfl ?_
  repeat' (first | refine sA ?_ | ((first | apply kM | apply kN); (iterate 3 (· exact rfl)); (· first | exact ya)) | refine sG ?_ | ((first | refine kQ rfl rfl ?_ ?_ | refine kR rfl rfl rfl rfl rfl ?_ ?_ | refine kS rfl rfl rfl ?_ ?_) <;> intro hc <;> (try simp only [KL, cond_true, cond_false, beq_iff_eq, bne_iff_ne, ne_eq, reduceCtorEq] at hc) <;> (try (have hT : True := hc; clear hT hc)) <;> (try (exfalso; omega))))
  (refine ao_mk (m := 4) (f := eInstr) (d := nopX) (id := 10) (by_ := 40) (sz := 5) rfl rfl rfl rfl rfl rfl rfl rfl rfl rfl ?_ ?_ rfl rfl rfl rfl ?_; (· omega); (· omega))
  have hrep : (List.replicate 4 nopX).length = 4 := rfl
  repeat' (first | refine sA ?_ | ((first | apply kM | apply kN); (iterate 3 (· exact rfl)); (· first | exact ya)) | refine sG ?_ | ((first | refine kQ rfl rfl ?_ ?_ | refine kR rfl rfl rfl rfl rfl ?_ ?_ | refine kS rfl rfl rfl ?_ ?_) <;> intro hc <;> (try simp only [KL, cond_true, cond_false, beq_iff_eq, bne_iff_ne, ne_eq, reduceCtorEq] at hc) <;> (try (have hT : True := hc; clear hT hc)) <;> (try (exfalso; omega))))
  (refine ao_ap (id := 10) (ys := [doneX]) (by_ := 40) rfl rfl rfl rfl rfl rfl rfl rfl rfl rfl (fun _ _ => rfl) ?_ ?_ rfl rfl rfl rfl rfl ?_; (· (first | omega | ((try simp only [List.length_cons, List.length_nil, List.length_append, List.length_map]) <;> omega))); (· (first | omega | ((try simp only [List.length_cons, List.length_nil, List.length_append, List.length_map]) <;> omega))))
  repeat' (first | refine sA ?_ | ((first | apply kM | apply kN); (iterate 3 (· exact rfl)); (· first | exact ya)) | refine sG ?_ | ((first | refine kQ rfl rfl ?_ ?_ | refine kR rfl rfl rfl rfl rfl ?_ ?_ | refine kS rfl rfl rfl ?_ ?_) <;> intro hc <;> (try simp only [KL, cond_true, cond_false, beq_iff_eq, bne_iff_ne, ne_eq, reduceCtorEq] at hc) <;> (try (have hT : True := hc; clear hT hc)) <;> (try (exfalso; omega))))
  refine retT (fun _ => turn_freeze (t := 2) rfl rfl rfl) ?_
  exact retq rfl rfl
def s38 : System := ⟨[⟨1, 2, 10, 0, 10, 1, [nopX, nopX, nopX, doneX]⟩, ⟨1, 0, 40, 0, 40, 1, [nopX, nopX, nopX, nopX, doneX]⟩], []⟩
theorem ok38 : OkS s38 := ok2 _ (by decide) (by decide) (by decide)
theorem all38 : allI s38 = ⟨[4, 9], [4, 5], -1, 0⟩ := by decide +kernel
theorem awake38_fn : Fn Tryz.prog 29 [] (.bool true) := by
  have c1 : Fn Tryz.prog 34 [.agg [.lst 7 (s38.tasks.map eTask), .nils]] _ := (all_fn s38 ok38).le (by repeat' (first | exact L2.nil _ | refine L2.cons ?_ ?_ | exact LeV.of_eq rfl | exact LeV.nils _ | refine LeV.agg ?_))
  rw [all38] at c1
  have c2 := pl_Ints [4, 9] [4, 9]
  have c3 := pl_Ints [4, 5] [4, 5]
  rw [decide_eq_true rfl] at c2 c3
  refine fnb Tryz.func29 (entered_of (by kernel_rfl)) rfl rfl rfl ?_
  repeat' (first | refine sA ?_ | (show O _ _ _ _ _ _ _; first | (show O _ _ _ _ (⟨_, .alloc _, _, _, _, _⟩ :: _) _ _; first | refine ao_alloc (id := 10) rfl rfl rfl rfl rfl rfl rfl ?_)) | ((first | apply kM | apply kN); (iterate 3 (· exact rfl)); (· first | (show Y _ ⟨_, .call ⟨.value _, _, _⟩, _, _, _, _⟩ _ _ _; first | exact q_c (awC38_4) rfl | exact q_c (awC38_5) rfl | exact q_c (c1) rfl | exact q_c (c2) rfl | exact q_c (c3) rfl) | exact ya)) | refine sG ?_ | ((first | refine kQ rfl rfl ?_ ?_ | refine kR rfl rfl rfl rfl rfl ?_ ?_ | refine kS rfl rfl rfl ?_ ?_) <;> intro hc <;> (try simp only [KL, cond_true, cond_false, beq_iff_eq, bne_iff_ne, ne_eq, reduceCtorEq] at hc) <;> (try (have hT : True := hc; clear hT hc)) <;> (try (exfalso; omega))))
  all_goals exact retq rfl rfl
theorem rtaLoads_fn (S : System) (i r : Int) (c : List Int) : Fn Tryz.prog 5 [.agg (eSystem S), .agg [.int .i64 i, .int .i64 r], .lst 1 (c.map eI)] (.bool true) := by
  have c0 := awake38_fn
  have c1 := few31_fn S 20 (by omega)
  refine fnb Tryz.func5 (entered_of (by kernel_rfl)) rfl rfl rfl ?_
  refine wsys 0 rfl (fun hn => ?_)
  cases hf : fewS S 20
  case false =>
    rw [hf] at c1
    repeat' (first | refine sA ?_ | ((first | apply kM | apply kN); (iterate 3 (· exact rfl)); (· first | (show Y _ ⟨_, .call ⟨.value _, _, _⟩, _, _, _, _⟩ _ _ _; first | exact q_c (c0) rfl | exact q_c (c1) rfl) | exact ya)) | refine sG ?_ | ((first | refine kQ rfl rfl ?_ ?_ | refine kR rfl rfl rfl rfl rfl ?_ ?_ | refine kS rfl rfl rfl ?_ ?_) <;> intro hc <;> (try simp only [KL, cond_true, cond_false, beq_iff_eq, bne_iff_ne, ne_eq, reduceCtorEq] at hc) <;> (try (have hT : True := hc; clear hT hc)) <;> (try (exfalso; omega))))
    all_goals exact retq rfl rfl
  have h := fewS_ok (by omega) hf hn
  rw [hf] at c1
  by_cases hl : (c.length : Int) ≤ 100
  case neg =>
    repeat' (first | refine sA ?_ | ((first | apply kM | apply kN); (iterate 3 (· exact rfl)); (· first | (show Y _ ⟨_, .call ⟨.value _, _, _⟩, _, _, _, _⟩ _ _ _; first | exact q_c (c0) rfl | exact q_c (c1) rfl) | exact ya)) | refine sG ?_ | ((first | refine kQ rfl rfl ?_ ?_ | refine kR rfl rfl rfl rfl rfl ?_ ?_ | refine kS rfl rfl rfl ?_ ?_) <;> intro hc <;> (try simp only [KL, cond_true, cond_false, beq_iff_eq, bne_iff_ne, ne_eq, reduceCtorEq] at hc) <;> (try (have hT : True := hc; clear hT hc)) <;> (try (exfalso; omega))))
    all_goals first | (exfalso; omega) | exact retq rfl rfl
  have c2 := load_fn S h i r c
  have c3 := rload_fn S h i r c
  repeat' (first | refine sA ?_ | ((first | apply kM | apply kN); (iterate 3 (· exact rfl)); (· first | (show Y _ ⟨_, .call ⟨.value _, _, _⟩, _, _, _, _⟩ _ _ _; first | exact q_c (c0) rfl | exact q_c (c1) rfl | exact q_c (c2) rfl | exact q_c (c3) rfl) | exact ya | exact Y.mk (ok_index_arr (sz := 1) 0 rfl rfl rfl rfl rfl rfl rfl) | exact Y.mk (ok_index_arr (sz := 1) 1 rfl rfl rfl rfl rfl rfl rfl))) | refine sG ?_ | ((first | refine kQ rfl rfl ?_ ?_ | refine kR rfl rfl rfl rfl rfl ?_ ?_ | refine kS rfl rfl rfl ?_ ?_) <;> intro hc <;> (try simp only [KL, cond_true, cond_false, beq_iff_eq, bne_iff_ne, ne_eq, reduceCtorEq] at hc) <;> (try (have hT : True := hc; clear hT hc)) <;> (try (exfalso; omega))))
  all_goals first | (exfalso; omega) | exact retq rfl rfl | (exfalso; revert hc; simp; done)
theorem rtaResponses_fn (S : System) (i : Int) (c : List Int) : Fn Tryz.prog 6 [.agg (eSystem S), .int .i64 i, .lst 1 (c.map eI)] (.bool true) := by
  have c0 := awake38_fn
  have c1 := few31_fn S 20 (by omega)
  refine fnb Tryz.func6 (entered_of (by kernel_rfl)) rfl rfl rfl ?_
  refine wsys 0 rfl (fun hn => ?_)
  cases hf : fewS S 20
  case false =>
    rw [hf] at c1
    repeat' (first | refine sA ?_ | ((first | apply kM | apply kN); (iterate 3 (· exact rfl)); (· first | (show Y _ ⟨_, .call ⟨.value _, _, _⟩, _, _, _, _⟩ _ _ _; first | exact q_c (c0) rfl | exact q_c (c1) rfl) | exact ya)) | refine sG ?_ | ((first | refine kQ rfl rfl ?_ ?_ | refine kR rfl rfl rfl rfl rfl ?_ ?_ | refine kS rfl rfl rfl ?_ ?_) <;> intro hc <;> (try simp only [KL, cond_true, cond_false, beq_iff_eq, bne_iff_ne, ne_eq, reduceCtorEq] at hc) <;> (try (have hT : True := hc; clear hT hc)) <;> (try (exfalso; omega))))
    all_goals exact retq rfl rfl
  have h := fewS_ok (by omega) hf hn
  have h1 := h.tl
  rw [hf] at c1
  by_cases hl : (c.length : Int) ≤ 100
  case neg =>
    repeat' (first | refine sA ?_ | ((first | apply kM | apply kN); (iterate 3 (· exact rfl)); (· first | (show Y _ ⟨_, .call ⟨.value _, _, _⟩, _, _, _, _⟩ _ _ _; first | exact q_c (c0) rfl | exact q_c (c1) rfl) | exact ya)) | refine sG ?_ | ((first | refine kQ rfl rfl ?_ ?_ | refine kR rfl rfl rfl rfl rfl ?_ ?_ | refine kS rfl rfl rfl ?_ ?_) <;> intro hc <;> (try simp only [KL, cond_true, cond_false, beq_iff_eq, bne_iff_ne, ne_eq, reduceCtorEq] at hc) <;> (try (have hT : True := hc; clear hT hc)) <;> (try (exfalso; omega))))
    all_goals first | (exfalso; omega) | exact retq rfl rfl
  have c2 := response_fn S h i c
  have c3 := rresp_fn S h i c
  repeat' (first | refine sA ?_ | ((first | apply kM | apply kN); (iterate 3 (· exact rfl)); (· first | (show Y _ ⟨_, .call ⟨.value _, _, _⟩, _, _, _, _⟩ _ _ _; first | exact q_c (c0) rfl | exact q_c (c1) rfl) | exact ya)) | refine sG ?_ | ((first | refine kQ rfl rfl ?_ ?_ | refine kR rfl rfl rfl rfl rfl ?_ ?_ | refine kS rfl rfl rfl ?_ ?_) <;> intro hc <;> (try simp only [KL, cond_true, cond_false, beq_iff_eq, bne_iff_ne, ne_eq, reduceCtorEq] at hc) <;> (try (have hT : True := hc; clear hT hc)) <;> (try (exfalso; omega))))
  all_goals first | (exfalso; omega) | skip
  refine wloop (fun m : Nat => ([(1, .int .i64 i), (2, .lst 1 (c.map eI)), (3, .ref (eSystem S)), (23, .lst 7 (S.tasks.map eTask)), (24, .int .i64 S.tasks.length), (25, .int .i64 m)], [])) (fun m => m ≤ S.tasks.length) (fun m => S.tasks.length - m) 0 (Nat.zero_le _) les leh (fun m hm => ?_)
  rcases Nat.lt_or_eq_of_le hm with hml | hml
  · obtain ⟨t, ht⟩ : ∃ t, S.tasks.getD m default = t := ⟨_, rfl⟩
    repeat' (first | refine sA ?_ | (show O _ _ _ _ _ _ _; first | (show O _ _ _ _ (⟨_, .alloc _, _, _, _, _⟩ :: _) _ _; first | refine ao_alloc (id := 10) rfl rfl rfl rfl rfl rfl rfl ?_)) | ((first | apply kM | apply kN); (iterate 3 (· exact rfl)); (· first | (show Y _ ⟨_, .indexAddr _ _ _, _, _, _, _⟩ _ _ _; first | exact Y.mk (ok_indexE (ht) rfl rfl rfl rfl rfl (by omega))) | (show Y _ ⟨_, .call ⟨.value _, _, _⟩, _, _, _, _⟩ _ _ _; first | exact q_c (c0) rfl) | exact ya)) | refine sG ?_ | ((first | refine kQ rfl rfl ?_ ?_ | refine kR rfl rfl rfl rfl rfl ?_ ?_ | refine kS rfl rfl rfl ?_ ?_) <;> intro hc <;> (try simp only [KL, cond_true, cond_false, beq_iff_eq, bne_iff_ne, ne_eq, reduceCtorEq] at hc) <;> (try (have hT : True := hc; clear hT hc)) <;> (try (exfalso; omega))))
    all_goals first | (exfalso; omega) | exact retq rfl rfl | exact ⟨m + 1, by omega, by omega, les, leh⟩
  · subst hml
    repeat' (first | refine sA ?_ | ((first | apply kM | apply kN); (iterate 3 (· exact rfl)); (· first | (show Y _ ⟨_, .call ⟨.value _, _, _⟩, _, _, _, _⟩ _ _ _; first | exact q_c (c0) rfl | exact q_c (c2) rfl | exact q_c (c3) rfl) | exact ya)) | refine sG ?_ | ((first | refine kQ rfl rfl ?_ ?_ | refine kR rfl rfl rfl rfl rfl ?_ ?_ | refine kS rfl rfl rfl ?_ ?_) <;> intro hc <;> (try simp only [KL, cond_true, cond_false, beq_iff_eq, bne_iff_ne, ne_eq, reduceCtorEq] at hc) <;> (try (have hT : True := hc; clear hT hc)) <;> (try (exfalso; omega))))
    all_goals first | (exfalso; omega) | exact retq rfl rfl | (exfalso; revert hc; simp; done)
theorem rtaAll_fn (S : System) : Fn Tryz.prog 7 [.agg (eSystem S)] (.bool true) := by
  have c0 := awake38_fn
  have c1 := few31_fn S 20 (by omega)
  refine fnb Tryz.func7 (entered_of (by kernel_rfl)) rfl rfl rfl ?_
  refine wsys 0 rfl (fun hn => ?_)
  cases hf : fewS S 20
  case false =>
    rw [hf] at c1
    repeat' (first | refine sA ?_ | ((first | apply kM | apply kN); (iterate 3 (· exact rfl)); (· first | (show Y _ ⟨_, .call ⟨.value _, _, _⟩, _, _, _, _⟩ _ _ _; first | exact q_c (c0) rfl | exact q_c (c1) rfl) | exact ya)) | refine sG ?_ | ((first | refine kQ rfl rfl ?_ ?_ | refine kR rfl rfl rfl rfl rfl ?_ ?_ | refine kS rfl rfl rfl ?_ ?_) <;> intro hc <;> (try simp only [KL, cond_true, cond_false, beq_iff_eq, bne_iff_ne, ne_eq, reduceCtorEq] at hc) <;> (try (have hT : True := hc; clear hT hc)) <;> (try (exfalso; omega))))
    all_goals exact retq rfl rfl
  have h := fewS_ok (by omega) hf hn
  have h1 := h.tl
  rw [hf] at c1
  have c2 := all_fn S h
  have c3 := rall_fn S h
  generalize allI S = a at *
  obtain ⟨R, C, at0, e0⟩ := a
  dsimp only at c2 c3
  have c4 := pl_Ints R R
  have c5 := pl_Ints C C
  rw [decide_eq_true rfl] at c4 c5
  repeat' (first | refine sA ?_ | ((first | apply kM | apply kN); (iterate 3 (· exact rfl)); (· first | (show Y _ ⟨_, .call ⟨.value _, _, _⟩, _, _, _, _⟩ _ _ _; first | exact q_c (c0) rfl | exact q_c (c1) rfl) | exact ya)) | refine sG ?_ | ((first | refine kQ rfl rfl ?_ ?_ | refine kR rfl rfl rfl rfl rfl ?_ ?_ | refine kS rfl rfl rfl ?_ ?_) <;> intro hc <;> (try simp only [KL, cond_true, cond_false, beq_iff_eq, bne_iff_ne, ne_eq, reduceCtorEq] at hc) <;> (try (have hT : True := hc; clear hT hc)) <;> (try (exfalso; omega))))
  all_goals first | (exfalso; omega) | skip
  refine wloop (fun m : Nat => ([(1, .ref (eSystem S)), (18, .lst 7 (S.tasks.map eTask)), (19, .int .i64 S.tasks.length), (20, .int .i64 m)], [])) (fun m => m ≤ S.tasks.length) (fun m => S.tasks.length - m) 0 (Nat.zero_le _) les leh (fun m hm => ?_)
  rcases Nat.lt_or_eq_of_le hm with hml | hml
  · obtain ⟨t, ht⟩ : ∃ t, S.tasks.getD m default = t := ⟨_, rfl⟩
    repeat' (first | refine sA ?_ | (show O _ _ _ _ _ _ _; first | (show O _ _ _ _ (⟨_, .alloc _, _, _, _, _⟩ :: _) _ _; first | refine ao_alloc (id := 10) rfl rfl rfl rfl rfl rfl rfl ?_)) | ((first | apply kM | apply kN); (iterate 3 (· exact rfl)); (· first | (show Y _ ⟨_, .indexAddr _ _ _, _, _, _, _⟩ _ _ _; first | exact Y.mk (ok_indexE (ht) rfl rfl rfl rfl rfl (by omega))) | (show Y _ ⟨_, .call ⟨.value _, _, _⟩, _, _, _, _⟩ _ _ _; first | exact q_c (c0) rfl) | exact ya)) | refine sG ?_ | ((first | refine kQ rfl rfl ?_ ?_ | refine kR rfl rfl rfl rfl rfl ?_ ?_ | refine kS rfl rfl rfl ?_ ?_) <;> intro hc <;> (try simp only [KL, cond_true, cond_false, beq_iff_eq, bne_iff_ne, ne_eq, reduceCtorEq] at hc) <;> (try (have hT : True := hc; clear hT hc)) <;> (try (exfalso; omega))))
    all_goals first | (exfalso; omega) | exact retq rfl rfl | exact ⟨m + 1, by omega, by omega, les, leh⟩
  · subst hml
    repeat' (first | refine sA ?_ | ((first | apply kM | apply kN); (iterate 3 (· exact rfl)); (· first | (show Y _ ⟨_, .call ⟨.value _, _, _⟩, _, _, _, _⟩ _ _ _; first | exact q_c (c0) rfl | exact q_c (c2) rfl | exact q_c (c3) rfl | exact q_c (c4) rfl | exact q_c (c5) rfl) | exact ya)) | refine sG ?_ | ((first | refine kQ rfl rfl ?_ ?_ | refine kR rfl rfl rfl rfl rfl ?_ ?_ | refine kS rfl rfl rfl ?_ ?_) <;> intro hc <;> (try simp only [KL, cond_true, cond_false, beq_iff_eq, bne_iff_ne, ne_eq, reduceCtorEq] at hc) <;> (try (have hT : True := hc; clear hT hc)) <;> (try (exfalso; omega))))
    all_goals first | (exfalso; omega) | exact retq rfl rfl | (exfalso; revert hc; simp; done)
theorem moreL_take {c : List Int} {k : Nat} (hk : k < c.length) : moreL (c.take (k + 1)) = moreL (c.take k) ++ [addI (c.getD k default) 1] := by
  rw [moreL, moreL, List.take_succ_eq_append_getElem hk, List.map_append]; simp [hk]
set_option maxHeartbeats 4000000 in
theorem rtaLeast_fn (S : System) (i : Int) (c : List Int) : Fn Tryz.prog 8 [.agg (eSystem S), .int .i64 i, .lst 1 (c.map eI)] (.bool true) := by
  have c0 := awake38_fn
  have c1 := few31_fn S 20 (by omega)
  refine fnb Tryz.func8 (entered_of (by kernel_rfl)) rfl rfl rfl ?_
  refine wsys 0 rfl (fun hn => ?_)
  cases hf : fewS S 20
  case false =>
    rw [hf] at c1
    repeat' (first | refine sA ?_ | ((first | apply kM | apply kN); (iterate 3 (· exact rfl)); (· first | (show Y _ ⟨_, .call ⟨.value _, _, _⟩, _, _, _, _⟩ _ _ _; first | exact q_c (c0) rfl | exact q_c (c1) rfl) | exact ya)) | refine sG ?_ | ((first | refine kQ rfl rfl ?_ ?_ | refine kR rfl rfl rfl rfl rfl ?_ ?_ | refine kS rfl rfl rfl ?_ ?_) <;> intro hc <;> (try simp only [KL, cond_true, cond_false, beq_iff_eq, bne_iff_ne, ne_eq, reduceCtorEq] at hc) <;> (try (have hT : True := hc; clear hT hc)) <;> (try (exfalso; omega))))
    all_goals exact retq rfl rfl
  have h := fewS_ok (by omega) hf hn
  have h1 := h.tl
  rw [hf] at c1
  by_cases hl : (c.length : Int) ≤ 100
  case neg =>
    repeat' (first | refine sA ?_ | ((first | apply kM | apply kN); (iterate 3 (· exact rfl)); (· first | (show Y _ ⟨_, .call ⟨.value _, _, _⟩, _, _, _, _⟩ _ _ _; first | exact q_c (c0) rfl | exact q_c (c1) rfl) | exact ya)) | refine sG ?_ | ((first | refine kQ rfl rfl ?_ ?_ | refine kR rfl rfl rfl rfl rfl ?_ ?_ | refine kS rfl rfl rfl ?_ ?_) <;> intro hc <;> (try simp only [KL, cond_true, cond_false, beq_iff_eq, bne_iff_ne, ne_eq, reduceCtorEq] at hc) <;> (try (have hT : True := hc; clear hT hc)) <;> (try (exfalso; omega))))
    all_goals first | (exfalso; omega) | exact retq rfl rfl
  by_cases hi : i < 0 ∨ (S.tasks.length : Int) ≤ i
  · repeat' (first | refine sA ?_ | ((first | apply kM | apply kN); (iterate 3 (· exact rfl)); (· first | (show Y _ ⟨_, .call ⟨.value _, _, _⟩, _, _, _, _⟩ _ _ _; first | exact q_c (c0) rfl | exact q_c (c1) rfl) | exact ya)) | refine sG ?_ | ((first | refine kQ rfl rfl ?_ ?_ | refine kR rfl rfl rfl rfl rfl ?_ ?_ | refine kS rfl rfl rfl ?_ ?_) <;> intro hc <;> (try simp only [KL, cond_true, cond_false, beq_iff_eq, bne_iff_ne, ne_eq, reduceCtorEq] at hc) <;> (try (have hT : True := hc; clear hT hc)) <;> (try (exfalso; omega))))
    all_goals first | (exfalso; omega) | exact retq rfl rfl
  obtain ⟨p, rfl⟩ : ∃ p : Nat, i = p := ⟨i.toNat, by omega⟩
  obtain ⟨t, ht⟩ : ∃ t, S.tasks.getD p default = t := ⟨_, rfl⟩
  by_cases hd : 400 < t.deadline
  · repeat' (first | refine sA ?_ | ((first | apply kM | apply kN); (iterate 3 (· exact rfl)); (· first | (show Y _ ⟨_, .indexAddr _ _ _, _, _, _, _⟩ _ _ _; first | exact Y.mk (ok_indexE (ht) rfl rfl rfl rfl rfl (by omega))) | (show Y _ ⟨_, .call ⟨.value _, _, _⟩, _, _, _, _⟩ _ _ _; first | exact q_c (c0) rfl | exact q_c (c1) rfl) | exact ya)) | refine sG ?_ | ((first | refine kQ rfl rfl ?_ ?_ | refine kR rfl rfl rfl rfl rfl ?_ ?_ | refine kS rfl rfl rfl ?_ ?_) <;> intro hc <;> (try simp only [KL, cond_true, cond_false, beq_iff_eq, bne_iff_ne, ne_eq, reduceCtorEq] at hc) <;> (try (have hT : True := hc; clear hT hc)) <;> (try (exfalso; omega))))
    all_goals first | (exfalso; omega) | exact retq rfl rfl
  have hL := resp_least h (i := (p : Int)) ⟨by omega, by omega⟩ (by rw [tskD, Int.toNat_natCast, ht]; omega) c
  have c2 := response_fn S h p c
  have c3 := response_fn S h p (moreL c)
  have c4 := fun n => load_fn S h p n c
  have c5 := job_fn S h p 0
  generalize respI S p c = x at *
  generalize respI S p (moreL c) = y at *
  obtain ⟨r, e⟩ := x
  obtain ⟨q, f⟩ := y
  dsimp only at hL c2 c3
  repeat' (first | refine sA ?_ | ((first | apply kM | apply kN); (iterate 3 (· exact rfl)); (· first | (show Y _ ⟨_, .indexAddr _ _ _, _, _, _, _⟩ _ _ _; first | exact Y.mk (ok_indexE (ht) rfl rfl rfl rfl rfl (by omega))) | (show Y _ ⟨_, .call ⟨.value _, _, _⟩, _, _, _, _⟩ _ _ _; first | exact q_c (c0) rfl | exact q_c (c1) rfl) | exact ya)) | refine sG ?_ | ((first | refine kQ rfl rfl ?_ ?_ | refine kR rfl rfl rfl rfl rfl ?_ ?_ | refine kS rfl rfl rfl ?_ ?_) <;> intro hc <;> (try simp only [KL, cond_true, cond_false, beq_iff_eq, bne_iff_ne, ne_eq, reduceCtorEq] at hc) <;> (try (have hT : True := hc; clear hT hc)) <;> (try (exfalso; omega))))
  all_goals first | (exfalso; omega) | skip
  refine wturn (turn_own eI (t := 7) rfl 10 3 1 (by omega) rfl) ?_
  refine wloop (fun k : Nat => ([(1, .int .i64 p), (2, .lst 1 (c.map eI)), (3, .ref (eSystem S)), (7, .own 10), (46, .lst 1 (c.map eI)), (47, .int .i64 c.length), (48, .int .i64 k)], [(10, .row 3 1 ((moreL (c.take k)).map eI))])) (fun k => k ≤ c.length) (fun k => c.length - k) 0 (Nat.zero_le _) les leh (fun k hk => ?_)
  rcases Nat.lt_or_eq_of_le hk with hkl | hkl
  · obtain ⟨z, hz⟩ : ∃ z, c.getD k default = z := ⟨_, rfl⟩
    have e2 := moreL_take hkl
    rw [hz] at e2
    have hlen : (moreL (c.take k)).length = k := by simp [moreL]; omega
    have c6 := rAdd_fn z 1
    repeat' (first | refine sA ?_ | ((first | apply kM | apply kN); (iterate 3 (· exact rfl)); (· first | (show Y _ ⟨_, .indexAddr _ _ _, _, _, _, _⟩ _ _ _; first | exact Y.mk (ok_indexE (hz) rfl rfl rfl rfl rfl (by omega))) | (show Y _ ⟨_, .call ⟨.value _, _, _⟩, _, _, _, _⟩ _ _ _; first | exact q_c (c6) rfl) | exact ya)) | refine sG ?_ | ((first | refine kQ rfl rfl ?_ ?_ | refine kR rfl rfl rfl rfl rfl ?_ ?_ | refine kS rfl rfl rfl ?_ ?_) <;> intro hc <;> (try simp only [KL, cond_true, cond_false, beq_iff_eq, bne_iff_ne, ne_eq, reduceCtorEq] at hc) <;> (try (have hT : True := hc; clear hT hc)) <;> (try (exfalso; omega))))
    all_goals first | (exfalso; omega) | skip
    (refine ao_ap (id := 10) (ys := [addI z 1]) (by_ := 8) rfl rfl rfl rfl rfl rfl rfl rfl rfl rfl (fun _ _ => rfl) ?_ ?_ rfl rfl rfl rfl rfl ?_; (· (first | omega | ((try simp only [List.length_cons, List.length_nil, List.length_append, List.length_map]) <;> omega))); (· (first | omega | ((try simp only [List.length_cons, List.length_nil, List.length_append, List.length_map]) <;> omega))))
    repeat' (first | refine sA ?_ | ((first | apply kM | apply kN); (iterate 3 (· exact rfl)); (· first | exact ya)) | refine sG ?_ | ((first | refine kQ rfl rfl ?_ ?_ | refine kR rfl rfl rfl rfl rfl ?_ ?_ | refine kS rfl rfl rfl ?_ ?_) <;> intro hc <;> (try simp only [KL, cond_true, cond_false, beq_iff_eq, bne_iff_ne, ne_eq, reduceCtorEq] at hc) <;> (try (have hT : True := hc; clear hT hc)) <;> (try (exfalso; omega))))
    exact ⟨k + 1, by omega, by omega, les, by rw [e2]; exact leh⟩
  subst hkl
  rw [List.take_length]
  by_cases he : e = 0
  case neg =>
    have h2 := hL.1 he
    repeat' (first | refine sA ?_ | ((first | apply kM | apply kN); (iterate 3 (· exact rfl)); (· first | (show Y _ ⟨_, .call ⟨.value _, _, _⟩, _, _, _, _⟩ _ _ _; first | exact q_c (c0) rfl | exact q_c (c2) rfl) | exact ya | exact Y.mk (ok_lend c3 rfl rfl rfl))) | refine sG ?_ | ((first | refine kQ rfl rfl ?_ ?_ | refine kR rfl rfl rfl rfl rfl ?_ ?_ | refine kS rfl rfl rfl ?_ ?_) <;> intro hc <;> (try simp only [KL, cond_true, cond_false, beq_iff_eq, bne_iff_ne, ne_eq, reduceCtorEq] at hc) <;> (try (have hT : True := hc; clear hT hc)) <;> (try (exfalso; omega))))
    all_goals first | (exfalso; omega) | exact retq rfl rfl | (exfalso; revert hc; simp; done)
  have h2 := hL.2 he
  obtain ⟨h3, h4, h5, h6, h7⟩ := h2
  repeat' (first | refine sA ?_ | ((first | apply kM | apply kN); (iterate 3 (· exact rfl)); (· first | (show Y _ ⟨_, .call ⟨.value _, _, _⟩, _, _, _, _⟩ _ _ _; first | exact q_c (c0) rfl | exact q_c (c2) rfl) | exact ya)) | refine sG ?_ | ((first | refine kQ rfl rfl ?_ ?_ | refine kR rfl rfl rfl rfl rfl ?_ ?_ | refine kS rfl rfl rfl ?_ ?_) <;> intro hc <;> (try simp only [KL, cond_true, cond_false, beq_iff_eq, bne_iff_ne, ne_eq, reduceCtorEq] at hc) <;> (try (have hT : True := hc; clear hT hc)) <;> (try (exfalso; omega))))
  all_goals first | (exfalso; omega) | skip
  refine wloop (fun n : Nat => ([(1, .int .i64 p), (2, .lst 1 (c.map eI)), (3, .ref (eSystem S)), (7, .own 10), (10, .int .i64 r), (11, .int .i64 e), (14, .int .i64 n)], [(10, .row 3 1 ((moreL c).map eI))])) (fun n => 1 ≤ n ∧ (n : Int) ≤ max r 1) (fun n => 500 - n) 1 ⟨Nat.le_refl _, by omega⟩ les leh (fun n hn => ?_)
  by_cases hnr : (n : Int) < r
  · have h8 := h3 n (by omega) hnr
    repeat' (first | refine sA ?_ | ((first | apply kM | apply kN); (iterate 3 (· exact rfl)); (· first | (show Y _ ⟨_, .call ⟨.value _, _, _⟩, _, _, _, _⟩ _ _ _; first | exact q_c (c4 n) rfl) | exact ya)) | refine sG ?_ | ((first | refine kQ rfl rfl ?_ ?_ | refine kR rfl rfl rfl rfl rfl ?_ ?_ | refine kS rfl rfl rfl ?_ ?_) <;> intro hc <;> (try simp only [KL, cond_true, cond_false, beq_iff_eq, bne_iff_ne, ne_eq, reduceCtorEq] at hc) <;> (try (have hT : True := hc; clear hT hc)) <;> (try (exfalso; omega))))
    all_goals first | (exfalso; omega) | exact ⟨n + 1, ⟨by omega, by omega⟩, by omega, les, leh⟩
  · have c6 := c4 r
    rw [h4] at c6
    repeat' (first | refine sA ?_ | ((first | apply kM | apply kN); (iterate 3 (· exact rfl)); (· first | (show Y _ ⟨_, .call ⟨.value _, _, _⟩, _, _, _, _⟩ _ _ _; first | exact q_c (c0) rfl | exact q_c (c5) rfl | exact q_c (c6) rfl) | exact ya | exact Y.mk (ok_lend c3 rfl rfl rfl))) | refine sG ?_ | ((first | refine kQ rfl rfl ?_ ?_ | refine kR rfl rfl rfl rfl rfl ?_ ?_ | refine kS rfl rfl rfl ?_ ?_) <;> intro hc <;> (try simp only [KL, cond_true, cond_false, beq_iff_eq, bne_iff_ne, ne_eq, reduceCtorEq] at hc) <;> (try (have hT : True := hc; clear hT hc)) <;> (try (exfalso; omega))))
    all_goals first | (exfalso; omega) | exact retq rfl rfl | (exfalso; revert hc; simp; done)
end Go.Proofs.YtkkmageogkkchaaGreat
