/- A system with what would do: size.Fit. No condition. -/
import Derived.Test.YtkkmageogkkchaaGreatUDX
import Derived.Test.YtkkmageogkkchaaGreatUDCp
import Derived.Test.YtkkmageogkkchaaGreatUDPs
import Derived.Test.YtkkmageogkkchaaGreatUDSz
set_option linter.unusedSimpArgs false
set_option linter.unusedVariables false
set_option maxHeartbeats 1000000
namespace Go.Proofs.YtkkmageogkkchaaGreat
set_option maxRecDepth 100000
set_option maxRecDepth 100000
open Go.RowKit
section
variable {n : Md} {s : Slots} {h : Heap}
theorem turn_frzA {t id sz : Nat} {e : TypeId} {cs : List AV} {xs : List (List AV)} (j : Nat) (hs : get s t = .agg cs) (hj : cs[j]? = some (.own id)) (hi : hget h id = some (.row e sz xs)) (h10 : Nat.ble 10 id = true) : Turns n s h ((t, .agg (cs.set j (.lst sz xs))) :: s) (hdel id h) := by
  intro E σ ι a w hr ht
  obtain ⟨σ', q1, r1, q3⟩ := frz_core hr hi (Nat.ble_eq ▸ h10)
  refine ⟨σ', ι, r1, ⟨ht.size, ht.defers, fun u => ?_⟩⟩
  rw [get_cons]
  split
  · rename_i e; subst e
    have hv := ht.at_ t
    rw [hs] at hv
    obtain ⟨vs, e1, h2⟩ := hv.agg_inv
    rw [e1]
    refine VR.agg _ _ (by rw [List.length_set]; exact h2.1) (fun k x y hx hy => ?_)
    rw [List.getElem?_set] at hx
    by_cases hjk : j = k
    · subst hjk
      have h5 := h2.2 j (.own id) y hj hy
      have hjl := (List.getElem?_eq_some_iff.1 hj).1
      rw [if_pos rfl, if_pos hjl] at hx
      cases hx
      rw [h5.own_inv]; exact q3
    · rw [if_neg hjk] at hx
      exact (h2.2 k x y hx hy).mono q1
  · exact (ht.at_ u).mono q1
end
def setSl (o : Object) (v : Int) : Object := ⟨o.kind, o.width, v, o.cap, o.start, o.init, o.writer, o.readers⟩
def setCp (o : Object) (v : Int) : Object := ⟨o.kind, o.width, o.slots, v, o.start, o.init, o.writer, o.readers⟩
def fitO (S : System) (R : List Int) (k : Nat) (o : Object) : Object :=
  { o with slots := if o.kind = 4 then max o.slots (slotsI S k R) else o.slots, cap := if 3 ≤ o.kind ∧ o.kind ≤ 5 then max o.cap (capsN S k R) else o.cap }
def fitN (S : System) (R : List Int) : Nat → List Object
  | 0 => S.objects
  | k + 1 => (fitN S R k).set k (fitO S R k (S.objects.getD k default))
def okN (S : System) (R : List Int) : Nat → Bool
  | 0 => true
  | k + 1 => okN S R k && (rightO (fitO S R k (S.objects.getD k default)) || !rightO (S.objects.getD k default))
theorem fitN_len (S : System) (R : List Int) : ∀ k, (fitN S R k).length = S.objects.length
  | 0 => rfl
  | k + 1 => by rw [fitN, List.length_set, fitN_len S R k]
theorem fitN_at (S : System) (R : List Int) : ∀ k j, k ≤ j → (fitN S R k).getD j default = S.objects.getD j default
  | 0, _, _ => rfl
  | k + 1, j, h => by
    rw [fitN, List.getD_eq_getElem?_getD, List.getElem?_set, if_neg (by omega), ← List.getD_eq_getElem?_getD, fitN_at S R k j (by omega)]
def fitS (S : System) : System := if (allI S).e = 0 then ⟨S.tasks, fitN S (allI S).R S.objects.length⟩ else S
def fitB (S : System) : Bool := if (allI S).e = 0 then okN S (allI S).R S.objects.length else false
set_option maxHeartbeats 4000000 in
theorem fit_fn (S : System) (h : OkS S) : Fn Tryz.prog 38 [.agg (eSystem S)] (.tup [.agg (eSystem (fitS S)), .bool (fitB S)]) := by
  have h1 := h.tl
  have h2 := h.ol
  have c1 := all_fn S h
  have hok := allN_ok S S.tasks.length
  refine fnb Tryz.func38 (entered_of (by kernel_rfl)) rfl rfl rfl ?_
  change (allI S).e = 0 → (allI S).R.length = S.tasks.length ∧ (allI S).C.length = S.tasks.length ∧ (allI S).at_ = -1 at hok
  rw [fitS, fitB]
  generalize allI S = a at *
  obtain ⟨R, C, at0, e0⟩ := a
  dsimp only at *
  repeat' (first | refine sA ?_ | (show O _ _ _ _ _ _ _; first | (show O _ _ _ _ (⟨_, .box _ _, _, _, _, _⟩ :: _) _ _; first | refine ao_box (id := 10) rfl rfl rfl rfl rfl rfl rfl rfl ?_) | refine ao_alloc (id := 11) rfl rfl rfl rfl rfl rfl rfl ?_) | ((first | apply kM | apply kN); (iterate 3 (· exact rfl)); (· first | exact yab)) | refine sG ?_ | (refine sK ?_ ?_ <;> intro hc <;> (try simp only [KL, sL, reduceCtorEq] at hc) <;> (try (exfalso; omega))))
  refine oturn (turn_dummy eObject 12 36 8 (by omega) rfl) ?_
  refine zcall (fun i => i + 7) (scopy_fn S h) rfl rfl leh rfl rfl rfl rfl rfl rfl (fun r h' hR => ?_)
  obtain ⟨rfl, rfl⟩ := hR
  refine ⟨rfl, rfl, ?_⟩
  refine oturn (turn_frzA (t := 14) 1 rfl rfl rfl rfl) ?_
  by_cases he : e0 = 0
  case neg =>
    rw [if_neg he, if_neg he]
    repeat' (first | refine sA ?_ | ((first | apply kM | apply kN); (iterate 3 (· exact rfl)); (· first | exact ya | exact q_c (c1) rfl)) | refine sG ?_ | (refine sK ?_ ?_ <;> intro hc <;> (try simp only [KL, sL, reduceCtorEq] at hc) <;> (try (exfalso; omega))))
    all_goals first | (exfalso; omega) | exact retq rfl rfl
  rw [if_pos he, if_pos he]
  obtain ⟨hRl, _, _⟩ := hok he
  subst he
  repeat' (first | refine sA ?_ | ((first | apply kM | apply kN); (iterate 3 (· exact rfl)); (· first | exact ya | exact q_c (c1) rfl)) | refine sG ?_ | (refine sK ?_ ?_ <;> intro hc <;> (try simp only [KL, sL, reduceCtorEq] at hc) <;> (try (exfalso; omega))))
  all_goals first | (exfalso; omega) | skip
  refine oturn (turn_dummy eObject 13 36 8 (by omega) rfl) ?_
  refine zcall (fun i => i + 8) (scopy_fn S h) rfl rfl leh rfl rfl rfl rfl rfl rfl (fun r h' hR => ?_)
  obtain ⟨rfl, rfl⟩ := hR
  refine ⟨rfl, rfl, ?_⟩
  repeat' (first | refine sA ?_ | (show O _ _ _ _ _ _ _; first | refine ao_alloc (id := 14) rfl rfl rfl rfl rfl rfl rfl ?_) | ((first | apply kM | apply kN); (iterate 3 (· exact rfl)); (· first | exact ya)) | refine sG ?_ | (refine sK ?_ ?_ <;> intro hc <;> (try simp only [KL, sL, reduceCtorEq] at hc) <;> (try (exfalso; omega))))
  refine wloop (fun k : Nat => ([(1, .ptr 10 0), (2, .ptr 11 0), (4, .lst 1 (R.map eI)), (8, .ptr 14 0), (9, .bool (okN S R k)), (28, .lst 8 (S.objects.map eObject)), (29, .int .i64 S.objects.length), (30, .int .i64 k)], [(10, .blk 25 (eSystem S)), (11, .blk 25 [.nils, .nils]), (14, .blk 25 [.lst 7 (S.tasks.map eTask), .own 13]), (13, .row 36 8 ((fitN S R k).map eObject))])) (fun k => k ≤ S.objects.length) (fun k => S.objects.length - k) 0 (Nat.zero_le _) les leh (fun k hk => ?_)
  rcases Nat.lt_or_eq_of_le hk with hkl | hkl
  · have hlen := fitN_len S R k
    have hat := fitN_at S R k k (Nat.le_refl _)
    have hnx : fitN S R (k + 1) = (fitN S R k).set k (fitO S R k (S.objects.getD k default)) := rfl
    have honx : okN S R (k + 1) = (okN S R k && (rightO (fitO S R k (S.objects.getD k default)) || !rightO (S.objects.getD k default))) := rfl
    obtain ⟨o, ho⟩ : ∃ o, S.objects.getD k default = o := ⟨_, rfl⟩
    rw [ho] at hat hnx honx
    have c2 := slots_fn S h k R (by omega)
    have c3 := capsN_fn S h k R (by omega)
    have c4 := tries39_fn o.kind
    have c5 := shaped_fn o
    have c6 := shaped_fn (fitO S R k o)
    have hfo : fitO S R k o = { o with slots := if o.kind = 4 then max o.slots (slotsI S k R) else o.slots, cap := if 3 ≤ o.kind ∧ o.kind ≤ 5 then max o.cap (capsN S k R) else o.cap } := rfl
    generalize fitN S R k = fk at *
    generalize okN S R k = bk at *
    generalize slotsI S (k : Int) R = sl at *
    generalize capsN S (k : Int) R = cp at *
    have hset : ∀ x : Object, (fk.set k x).getD k default = x := fun x => by
      rw [List.getD_eq_getElem?_getD, List.getElem?_set, if_pos rfl, if_pos (by omega)]; rfl
    have hsl : ∀ x : Object, (fk.set k x).length = S.objects.length := fun x => by rw [List.length_set, hlen]
    by_cases k4 : o.kind = 4
    · rw [if_pos k4, if_pos (by omega)] at hfo
      rw [decide_eq_true (by omega)] at c4
      have hs1 := hset (setSl (fk.getD k default) (max o.slots sl))
      have hl1 := hsl (setSl (fk.getD k default) (max o.slots sl))
      have e2 : setCp ((fk.set k (setSl (fk.getD k default) (max o.slots sl))).getD k default) (max o.cap cp) = fitO S R k o := by rw [hs1, hat, hfo]; rfl
      have e3 : (fk.set k (setSl (fk.getD k default) (max o.slots sl))).set k (setCp ((fk.set k (setSl (fk.getD k default) (max o.slots sl))).getD k default) (max o.cap cp)) = fk.set k (fitO S R k o) := by rw [List.set_set, e2]
      have hs2 : ((fk.set k (setSl (fk.getD k default) (max o.slots sl))).set k (setCp ((fk.set k (setSl (fk.getD k default) (max o.slots sl))).getD k default) (max o.cap cp))).getD k default = fitO S R k o := by rw [e3, hset]
      have hl2 : ((fk.set k (setSl (fk.getD k default) (max o.slots sl))).set k (setCp ((fk.set k (setSl (fk.getD k default) (max o.slots sl))).getD k default) (max o.cap cp))).length = S.objects.length := by rw [e3, hsl]
      rw [← e3] at hnx
      generalize rightO (fitO S R k o) = r1 at *
      generalize rightO o = r2 at *
      cases bk <;> cases r1 <;> cases r2
      all_goals
        repeat' (first | refine sB ?_ | (show O _ _ _ _ _ _ _; first | refine ao_alloc (id := 15) rfl rfl rfl rfl rfl rfl rfl ?_) | ((first | apply kM | apply kN); (iterate 3 (· exact rfl)); (· first | (show Y _ ⟨_, .indexAddr _ _ _, _, _, _, _⟩ _ _ _; first | exact q_ioE (k) rfl rfl rfl rfl rfl rfl (by omega) (by omega) | exact Y.mk (ok_indexE (ho) rfl rfl rfl rfl rfl (by omega))) | exact ya)) | refine sG ?_ | (refine sK ?_ ?_ <;> intro hc <;> (try simp only [KL, sL, reduceCtorEq] at hc) <;> (try (exfalso; omega))))
        all_goals first | (exfalso; omega) | skip
        refine wle (h' := [(13, .row 36 8 (fk.map eObject)), (10, .blk 25 (eSystem S)), (11, .blk 25 [.nils, .nils]), (14, .blk 25 [.lst 7 (S.tasks.map eTask), .own 13]), (15, .blk 36 (eObject o))]) (LeS.refl _) leh ?_
        refine wdrawS rfl (by kernel_rfl) (by kernel_rfl) (by kernel_rfl) ?_
        repeat' (first | (show W _ _ _ _ _ _; first | refine wdrawS rfl (by kernel_rfl) (by kernel_rfl) (by kernel_rfl) ?_ | apply kA | refine kB rfl ?_ | refine kC rfl rfl ?_ | refine kD rfl rfl ?_ | apply kE | apply kF | apply kG | apply kH | refine kI (by kernel_rfl) (by kernel_rfl) ?_) | (show O _ _ _ _ _ _ _; first | (show O _ _ _ _ (⟨_, .store _ _ _, _, _, _, _⟩ :: _) _ _; refine kJ rfl rfl rfl rfl rfl rfl rfl rfl rfl rfl rfl ?_) | apply kK) | apply kL | ((first | apply kM | apply kN); (iterate 3 (· exact rfl)); (· first | (show Y _ ⟨_, .load _ _, _, _, _, _⟩ _ _ _; first | exact q_pE' hs2) | (show Y _ ⟨_, .call ⟨.value _, _, _⟩, _, _, _, _⟩ _ _ _; first | exact q_c (c2) rfl | exact q_c (c3) rfl | exact q_c (c4) rfl | exact q_c (c5) rfl | exact q_c (c6) rfl) | exact ya)) | (show F _ _ _ _ _ _ _ _ _ _ _; first | refine fnil ?_ | (apply f_ld; (· exact rfl); (· exact rfl); (· first | exact q_pE' hs2 | exact yp)) | refine f_se (x' := setSl (fk.getD k default) (max o.slots sl)) rfl rfl rfl rfl rfl rfl rfl rfl rfl (by (first | rfl | omega | (simp only [List.length_set]; omega) | simp only [List.length_set])) (by (first | rfl | omega | (simp only [List.length_set]; omega) | simp only [List.length_set])) ?_ | refine f_se (x' := setCp ((fk.set k (setSl (fk.getD k default) (max o.slots sl))).getD k default) (max o.cap cp)) rfl rfl rfl rfl rfl rfl rfl rfl rfl (by (first | rfl | omega | (simp only [List.length_set]; omega) | simp only [List.length_set])) (by (first | rfl | omega | (simp only [List.length_set]; omega) | simp only [List.length_set])) ?_ | (apply f_k; (· exact rfl); (· intro y' hy'; first | (show Y _ ⟨_, .load _ _, _, _, _, _⟩ _ _ _; first | exact q_pE' hs2) | (show Y _ ⟨_, .call ⟨.value _, _, _⟩, _, _, _, _⟩ _ _ _; first | exact q_c (c2) rfl | exact q_c (c3) rfl | exact q_c (c4) rfl | exact q_c (c5) rfl | exact q_c (c6) rfl) | exact ya))) | refine kO rfl rfl rfl rfl rfl ?_ | refine kP rfl rfl rfl ?_ | ((first | refine kQ rfl rfl ?_ ?_ | refine kR rfl rfl rfl rfl rfl ?_ ?_ | refine kS rfl rfl rfl ?_ ?_) <;> intro hc <;> (try simp only [KL, cond_true, cond_false, beq_iff_eq, bne_iff_ne, ne_eq, reduceCtorEq] at hc) <;> (try (have hT : True := hc; clear hT hc)) <;> (try (exfalso; omega))) | apply kT | apply kU | apply kV | apply kW | refine kX rfl ?_ | apply kY | apply kZ)
        all_goals first | (exfalso; omega) | exact ⟨k + 1, by omega, by omega, by dsimp only; rw [honx]; exact les, by dsimp only; rw [hnx]; exact leh⟩
    by_cases k3 : 3 ≤ o.kind ∧ o.kind ≤ 5
    · rw [if_neg k4, if_pos k3] at hfo
      rw [decide_eq_true k3] at c4
      have e2 : setCp (fk.getD k default) (max o.cap cp) = fitO S R k o := by rw [hat, hfo]; rfl
      have e3 : fk.set k (setCp (fk.getD k default) (max o.cap cp)) = fk.set k (fitO S R k o) := by rw [e2]
      have hs2 : (fk.set k (setCp (fk.getD k default) (max o.cap cp))).getD k default = fitO S R k o := by rw [e3, hset]
      have hl2 := hsl (setCp (fk.getD k default) (max o.cap cp))
      rw [← e3] at hnx
      generalize rightO (fitO S R k o) = r1 at *
      generalize rightO o = r2 at *
      cases bk <;> cases r1 <;> cases r2
      all_goals
        repeat' (first | refine sB ?_ | (show O _ _ _ _ _ _ _; first | refine ao_alloc (id := 15) rfl rfl rfl rfl rfl rfl rfl ?_) | ((first | apply kM | apply kN); (iterate 3 (· exact rfl)); (· first | (show Y _ ⟨_, .indexAddr _ _ _, _, _, _, _⟩ _ _ _; first | exact q_ioE (k) rfl rfl rfl rfl rfl rfl (by omega) (by omega) | exact Y.mk (ok_indexE (ho) rfl rfl rfl rfl rfl (by omega))) | exact ya | exact q_c (c4) rfl)) | refine sG ?_ | (refine sK ?_ ?_ <;> intro hc <;> (try simp only [KL, sL, reduceCtorEq] at hc) <;> (try (exfalso; omega))))
        all_goals first | (exfalso; omega) | skip
        refine wle (h' := [(13, .row 36 8 (fk.map eObject)), (10, .blk 25 (eSystem S)), (11, .blk 25 [.nils, .nils]), (14, .blk 25 [.lst 7 (S.tasks.map eTask), .own 13]), (15, .blk 36 (eObject o))]) (LeS.refl _) leh ?_
        refine wdrawS rfl (by kernel_rfl) (by kernel_rfl) (by kernel_rfl) ?_
        repeat' (first | (show W _ _ _ _ _ _; first | refine wdrawS rfl (by kernel_rfl) (by kernel_rfl) (by kernel_rfl) ?_ | apply kA | refine kB rfl ?_ | refine kC rfl rfl ?_ | refine kD rfl rfl ?_ | apply kE | apply kF | apply kG | apply kH | refine kI (by kernel_rfl) (by kernel_rfl) ?_) | (show O _ _ _ _ _ _ _; first | (show O _ _ _ _ (⟨_, .store _ _ _, _, _, _, _⟩ :: _) _ _; refine kJ rfl rfl rfl rfl rfl rfl rfl rfl rfl rfl rfl ?_) | apply kK) | apply kL | ((first | apply kM | apply kN); (iterate 3 (· exact rfl)); (· first | (show Y _ ⟨_, .load _ _, _, _, _, _⟩ _ _ _; first | exact q_pE' hs2) | (show Y _ ⟨_, .call ⟨.value _, _, _⟩, _, _, _, _⟩ _ _ _; first | exact q_c (c3) rfl | exact q_c (c5) rfl | exact q_c (c6) rfl) | exact ya)) | (show F _ _ _ _ _ _ _ _ _ _ _; first | refine fnil ?_ | (apply f_ld; (· exact rfl); (· exact rfl); (· first | exact q_pE' hs2 | exact yp)) | refine f_se (x' := setCp (fk.getD k default) (max o.cap cp)) rfl rfl rfl rfl rfl rfl rfl rfl rfl (by (first | rfl | omega | (simp only [List.length_set]; omega) | simp only [List.length_set])) (by (first | rfl | omega | (simp only [List.length_set]; omega) | simp only [List.length_set])) ?_ | (apply f_k; (· exact rfl); (· intro y' hy'; first | (show Y _ ⟨_, .load _ _, _, _, _, _⟩ _ _ _; first | exact q_pE' hs2) | (show Y _ ⟨_, .call ⟨.value _, _, _⟩, _, _, _, _⟩ _ _ _; first | exact q_c (c3) rfl | exact q_c (c5) rfl | exact q_c (c6) rfl) | exact ya))) | refine kO rfl rfl rfl rfl rfl ?_ | refine kP rfl rfl rfl ?_ | ((first | refine kQ rfl rfl ?_ ?_ | refine kR rfl rfl rfl rfl rfl ?_ ?_ | refine kS rfl rfl rfl ?_ ?_) <;> intro hc <;> (try simp only [KL, cond_true, cond_false, beq_iff_eq, bne_iff_ne, ne_eq, reduceCtorEq] at hc) <;> (try (have hT : True := hc; clear hT hc)) <;> (try (exfalso; omega))) | apply kT | apply kU | apply kV | apply kW | refine kX rfl ?_ | apply kY | apply kZ)
        all_goals first | (exfalso; omega) | exact ⟨k + 1, by omega, by omega, by dsimp only; rw [honx]; exact les, by dsimp only; rw [hnx]; exact leh⟩
    · rw [if_neg k4, if_neg k3] at hfo
      rw [decide_eq_false k3] at c4
      have e2 : fitO S R k o = o := by rw [hfo]
      have e3 : fk.set k (fitO S R k o) = fk := by
        rw [e2, ← hat]
        refine List.ext_getElem (by simp) fun j h5 h6 => ?_
        rw [List.getElem_set]
        split
        · rename_i e; subst e; simp [h6]
        · rfl
      rw [e2] at honx c6
      rw [e3] at hnx
      generalize rightO o = r2 at *
      cases bk <;> cases r2
      all_goals
        repeat' (first | refine sA ?_ | (show O _ _ _ _ _ _ _; first | refine ao_alloc (id := 15) rfl rfl rfl rfl rfl rfl rfl ?_) | ((first | apply kM | apply kN); (iterate 3 (· exact rfl)); (· first | (show Y _ ⟨_, .indexAddr _ _ _, _, _, _, _⟩ _ _ _; first | exact q_ioE (k) rfl rfl rfl rfl rfl rfl (by omega) (by omega) | exact Y.mk (ok_indexE (ho) rfl rfl rfl rfl rfl (by omega))) | (show Y _ ⟨_, .load _ _, _, _, _, _⟩ _ _ _; first | exact q_pE' hat) | exact ya | exact q_c (c4) rfl | exact q_c (c5) rfl)) | refine sG ?_ | (refine sK ?_ ?_ <;> intro hc <;> (try simp only [KL, sL, reduceCtorEq] at hc) <;> (try (exfalso; omega))))
        all_goals first | (exfalso; omega) | exact ⟨k + 1, by omega, by omega, by dsimp only; rw [honx]; exact les, by dsimp only; rw [hnx]; exact leh⟩
  · subst hkl
    refine wturn (turn_frzJ (b := 14) 1 rfl rfl rfl rfl) ?_
    repeat' (first | refine sA ?_ | ((first | apply kM | apply kN); (iterate 3 (· exact rfl)); (· first | exact ya)) | refine sG ?_ | (refine sK ?_ ?_ <;> intro hc <;> (try simp only [KL, sL, reduceCtorEq] at hc) <;> (try (exfalso; omega))))
    all_goals first | (exfalso; omega) | exact retq rfl rfl
end Go.Proofs.YtkkmageogkkchaaGreat
