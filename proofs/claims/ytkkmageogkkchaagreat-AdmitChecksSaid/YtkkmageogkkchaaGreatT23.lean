/- Which objects, and tasks of theirs, may be; what is wrong of a system's objects. No condition. -/
import Derived.Test.YtkkmageogkkchaaGreatT22
import Derived.Test.YtkkmageogkkchaaGreatT12
set_option linter.unusedSimpArgs false
set_option linter.unusedVariables false
set_option maxHeartbeats 1000000
namespace Go.Proofs.YtkkmageogkkchaaGreat
set_option maxRecDepth 100000
set_option maxRecDepth 100000
open Go.RowKit
section
variable {n : Md} {s : Slots} {h : Heap}
theorem frz_core {E : Env} {σ : Sig} {ι : Nat → Value} {w : World} {id sz : Nat} {e : TypeId} {xs : List (List AV)} (hr : Rel E σ ι h w) (hg : hget h id = some (.row e sz xs)) (h10 : 10 ≤ id) : ∃ σ', Sig.le σ σ' ∧ Rel E σ' ι (hdel id h) w ∧ VR σ' ι (.lst sz xs) (ι id) := by
  obtain ⟨hsz0, hsz, vs, hown, hL⟩ := hr.ch id _ hg
  rcases hown.2 with ⟨h1, h2⟩ | ⟨g, cap, cur, h1, _, h2, h3, h4, h5, h6⟩
  · have hnil : xs = [] := List.eq_nil_of_length_eq_zero h2
    subst hnil
    refine ⟨σ, Sig.le.refl σ, hr.le fun i c hc => ?_, ?_⟩
    · rw [hget_hdel] at hc
      split at hc
      · cases hc
      · exact hc
    · rw [h1]; exact .base _ _ (.empty _ _ _ (by simp))
  · obtain ⟨h7, h8⟩ := hr.letGo hg (g := g) (by rw [h1]; rfl) h10 (xs.length * sz)
    refine ⟨_, h7, h8, ?_⟩
    rw [h1]
    have hfl := flatten_length hsz
    refine .base _ _ (.lst _ _ _ 0 _ (fun j => (vs[j]?).getD undef) h3 h4 hsz (fun j c hc => ?_) fun j c hc => ?_)
    · obtain ⟨u, hu, _⟩ := hL.get hc
      have hj : j < xs.length * sz := by rw [← hfl]; exact (List.getElem?_eq_some_iff.1 hc).1
      unfold sigRow
      rw [if_pos ⟨rfl, rfl, by simpa using hj⟩]
      rw [hu]
      rw [← h6, List.getElem?_take] at hu
      rw [if_pos hj] at hu
      simp only [World.cell?, h2, Option.isSome_none, Bool.false_eq_true, if_false, Nat.zero_add, Option.getD_some]
      rw [← Array.getElem?_toList]; exact hu
    · obtain ⟨u, hu, hR⟩ := hL.get hc
      rw [hu]; exact hR.mono h7
theorem turn_freeze2 {t t2 id sz : Nat} {e : TypeId} {xs : List (List AV)} (hs : get s t = .own id) (hs2 : get s t2 = .own id) (hg : hget h id = some (.row e sz xs)) (h10 : Nat.ble 10 id = true) : Turns n s h ((t, .lst sz xs) :: (t2, .lst sz xs) :: s) (hdel id h) := by
  intro E σ ι a w hr ht
  obtain ⟨σ', h1, h2, h3⟩ := frz_core hr hg (Nat.ble_eq ▸ h10)
  refine ⟨σ', ι, h2, ⟨ht.size, ht.defers, fun u => ?_⟩⟩
  have e1 := ht.at_ t
  have e2 := ht.at_ t2
  rw [hs] at e1
  rw [hs2] at e2
  rw [get_cons]
  split
  · rename_i e; subst e
    rw [e1.own_inv]; exact h3
  · rw [get_cons]
    split
    · rename_i e; subst e
      rw [e2.own_inv]; exact h3
    · exact (ht.at_ u).mono h1
theorem turn_frzJ {b id sz : Nat} {ty e : TypeId} {cs : List AV} {xs : List (List AV)} (j : Nat) (hg : hget h b = some (.blk ty cs)) (hj : cs[j]? = some (.own id)) (hi : hget h id = some (.row e sz xs)) (h10 : Nat.ble 10 id = true) : Turns n s h s ((b, .blk ty (cs.set j (.lst sz xs))) :: hdel id h) := by
  intro E σ ι a w hr ht
  have hbi : b ≠ id := fun e => by rw [e, hi] at hg; cases hg
  obtain ⟨σ', q1, r1, q3⟩ := frz_core hr hi (Nat.ble_eq ▸ h10)
  have hgb : hget (hdel id h) b = some (.blk ty cs) := by rw [hget_hdel, if_neg (by first | exact hbi | exact fun e => hbi e.symm)]; exact hg
  obtain ⟨g, cur, e1, e2, e3⟩ := r1.ch b _ hgb
  have hsame : YtkkmageogkkchaaGreat.upd ι b (ι b) = ι := by funext i; unfold YtkkmageogkkchaaGreat.upd; split <;> simp_all
  have hnew := r1.turn (id := b) (u := ι b) (h' := (b, .blk ty (cs.set j (.lst sz xs))) :: hdel id h) (c' := .blk ty (cs.set j (.lst sz xs))) (w' := w)
    (fun i c hi hc => by rw [hget_cons, if_neg (fun e => hi e.symm)] at hc; exact ⟨hc, .inl rfl⟩) (by rw [hget_cons, if_pos rfl])
    (by rw [hsame]; exact ⟨g, cur, e1, e2, by rw [List.length_set]; exact e3.1, fun k x y hx hy => by
      rw [List.getElem?_set] at hx
      by_cases hjk : j = k
      · subst hjk
        have h5 := e3.2 j (.own id) y hj hy
        have hjl := (List.getElem?_eq_some_iff.1 hj).1
        rw [if_pos rfl, if_pos hjl] at hx
        cases hx
        rw [h5.own_inv]; exact q3
      · rw [if_neg hjk] at hx
        exact e3.2 k x y hx hy⟩)
    rfl rfl rfl (Nat.le_refl _) (fun _ _ _ => rfl) (fun g hv => .inl ⟨_, hgb, hv⟩) (.inr rfl)
  rw [hsame] at hnew
  exact ⟨σ', ι, hnew, ⟨ht.size, ht.defers, fun u => (ht.at_ u).mono q1⟩⟩
end
def inB (l : List Int) (k : Nat) : Bool := decide (0 ≤ l.getD k default ∧ l.getD k default < 8) && !decide (l.getD k default ∈ l.take k)
def apartTo (l : List Int) : Nat → Bool
  | 0 => true
  | k + 1 => apartTo l k && inB l k
def tasksO (o : Object) : List Int := o.writer :: o.readers
def rightA (o : Object) : Bool := rightO o && apartTo (tasksO o) (tasksO o).length
theorem apart_no {l : List Int} {k : Nat} (hk : k < l.length) (h : inB l k = false) : apartTo l l.length = false := by
  have : ∀ n, k < n → apartTo l n = false := by
    intro n
    induction n with
    | zero => intro h; omega
    | succ n ih =>
      intro hn
      rw [apartTo]
      by_cases e : n = k
      · rw [e, h, Bool.and_false]
      · rw [ih (by omega), Bool.false_and]
  exact this _ hk
theorem take_snoc {l : List Int} {k : Nat} (hk : k < l.length) : l.take (k + 1) = l.take k ++ [l.getD k default] := by
  rw [List.take_succ_eq_append_getElem hk]; simp [hk]
theorem getM_set (m : List (Int × Int)) (k x : Int) : getM (setM m k x) k = some x := by
  induction m with
  | nil => simp [setM, getM]
  | cons p r ih =>
    obtain ⟨k', v⟩ := p
    rw [setM]
    by_cases h : k' = k
    · rw [if_pos h, getM, if_pos rfl]
    · rw [if_neg h, getM, if_neg h, ih]
abbrev mapOne (l : List Int) : Chunk := mI (l.map fun x => (x, (1 : Int)))
theorem right20_fn (o : Object) (hn : o.readers.length ≤ 1000) : Fn Tryz.prog 156 [.agg (eObject o)] (.bool (rightA o)) := by
  have c1 := shaped_fn o
  by_cases hs : rightO o = true
  case neg =>
    rw [Bool.not_eq_true] at hs
    rw [rightA, hs, Bool.false_and]
    rw [hs] at c1
    refine fnb Tryz.func156 (entered_of (by kernel_rfl)) rfl rfl rfl ?_
    repeat' (first | refine sA ?_ | ((first | apply kM | apply kN); (iterate 3 (· exact rfl)); (· first | exact ya | exact q_c (c1) rfl)) | refine sG ?_ | (refine sK ?_ ?_ <;> intro hc <;> (try simp only [KL, sL, reduceCtorEq] at hc) <;> (try (exfalso; omega))))
    all_goals first | (exfalso; omega) | exact retq rfl rfl
  rw [hs] at c1
  rw [rightA, hs, Bool.true_and]
  obtain ⟨l, hl⟩ : ∃ l, tasksO o = l := ⟨_, rfl⟩
  have hlen : l.length = o.readers.length + 1 := by rw [← hl]; rfl
  rw [hl]
  refine fnb Tryz.func156 (entered_of (by kernel_rfl)) rfl rfl rfl ?_
  repeat' (first | refine sA ?_ | ((first | apply kM | apply kN); (iterate 3 (· exact rfl)); (· first | exact ya | exact q_c (c1) rfl)) | refine sG ?_ | (refine sK ?_ ?_ <;> intro hc <;> (try simp only [KL, sL, reduceCtorEq] at hc) <;> (try (exfalso; omega))))
  refine ao_mm 11 (fun n : Int => AV.int .i64 n) rfl rfl rfl rfl ?_
  repeat' (first | refine sA ?_ | ((first | apply kM | apply kN); (iterate 3 (· exact rfl)); (· first | exact yag)) | refine sG ?_ | (refine sK ?_ ?_ <;> intro hc <;> (try simp only [KL, sL, reduceCtorEq] at hc) <;> (try (exfalso; omega))))
  refine o_blit (f := eI) (l := [o.writer]) (id := 10) (sz := 1) rfl rfl rfl rfl rfl rfl rfl rfl rfl rfl rfl rfl rfl rfl ?_
  repeat' (first | refine sA ?_ | ((first | apply kM | apply kN); (iterate 3 (· exact rfl)); (· first | exact ya)) | refine sG ?_ | (refine sK ?_ ?_ <;> intro hc <;> (try simp only [KL, sL, reduceCtorEq] at hc) <;> (try (exfalso; omega))))
  (refine ao_ap (id := 10) (ys := o.readers) (by_ := 8) rfl rfl rfl rfl rfl rfl rfl rfl rfl rfl (fun _ _ => rfl) ?_ ?_ rfl rfl rfl rfl rfl ?_; (· (first | omega | ((try simp only [List.length_cons, List.length_nil, List.length_append, List.length_map]) <;> omega))); (· (first | omega | ((try simp only [List.length_cons, List.length_nil, List.length_append, List.length_map]) <;> omega))))
  repeat' (first | refine sA ?_ | ((first | apply kM | apply kN); (iterate 3 (· exact rfl)); (· first | exact ya)) | refine sG ?_ | (refine sK ?_ ?_ <;> intro hc <;> (try simp only [KL, sL, reduceCtorEq] at hc) <;> (try (exfalso; omega))))
  refine wturn (turn_freeze (t := 15) rfl rfl rfl) ?_
  refine wloop (fun k : Nat => ([(3, .own 11), (15, .lst 1 (l.map eI)), (16, .int .i64 l.length), (17, .int .i64 k)], [(11, mapOne (l.take k))])) (fun k => k ≤ l.length ∧ apartTo l k = true) (fun k => l.length - k) 0 ⟨Nat.zero_le _, rfl⟩ (by rw [← hl]; exact les) leh (fun k hk => ?_)
  obtain ⟨hk, ha⟩ := hk
  rcases Nat.lt_or_eq_of_le hk with hkl | hkl
  · obtain ⟨t, ht⟩ : ∃ t, l.getD k default = t := ⟨_, rfl⟩
    have hg := getM_one (l.take k) t
    have hin : inB l k = (decide (0 ≤ t ∧ t < 8) && !decide (t ∈ l.take k)) := by rw [inB, ht]
    have hno := fun h => apart_no (l := l) (k := k) hkl h
    by_cases hmem : t ∈ l.take k
    · rw [if_pos hmem] at hg
      have hv : (getM ((l.take k).map fun x => (x, (1 : Int))) t).getD 0 = 1 := by rw [hg]; rfl
      have hv2 : (getM (setM ((l.take k).map fun x => (x, (1 : Int))) t 2) t).getD 0 = 2 := by rw [getM_set]; rfl
      rw [hno (by rw [hin, decide_eq_true hmem, Bool.not_true, Bool.and_false])]
      repeat' (first | refine sA ?_ | ((first | apply kM | apply kN); (iterate 3 (· exact rfl)); (· first | (show Y _ ⟨_, .indexAddr _ _ _, _, _, _, _⟩ _ _ _; first | exact Y.mk (ok_indexE (ht) rfl rfl rfl rfl rfl (by omega))) | exact ya | exact Y.mk (hv ▸ ok_lookI z_int rfl rfl rfl rfl rfl))) | refine sG ?_ | (refine sK ?_ ?_ <;> intro hc <;> (try simp only [KL, sL, reduceCtorEq] at hc) <;> (try (exfalso; omega))))
      all_goals first | (exfalso; omega) | skip
      refine ao_tu (tu_st (sto_map (2 : Int) rfl rfl rfl rfl rfl rfl rfl) rfl) rfl rfl rfl ?_
      repeat' (first | refine sA ?_ | ((first | apply kM | apply kN); (iterate 3 (· exact rfl)); (· first | exact ya | exact Y.mk (hv2 ▸ ok_lookI z_int rfl rfl rfl rfl rfl))) | refine sG ?_ | (refine sK ?_ ?_ <;> intro hc <;> (try simp only [KL, sL, reduceCtorEq] at hc) <;> (try (exfalso; omega))))
      all_goals first | (exfalso; omega) | exact retq rfl rfl
    · rw [if_neg hmem] at hg
      have hv : (getM ((l.take k).map fun x => (x, (1 : Int))) t).getD 0 = 0 := by rw [hg]; rfl
      have hst := setM_one hmem
      have hv2 : (getM (setM ((l.take k).map fun x => (x, (1 : Int))) t 1) t).getD 0 = 1 := by rw [getM_set]; rfl
      rw [decide_eq_false hmem, Bool.not_false, Bool.and_true] at hin
      by_cases hr : 0 ≤ t ∧ t < 8
      · have enx : l.take (k + 1) = l.take k ++ [t] := by rw [take_snoc hkl, ht]
        have enm : mapOne (l.take (k + 1)) = mI (setM ((l.take k).map fun x => (x, (1 : Int))) t 1) := by rw [mapOne, enx, hst]
        repeat' (first | refine sA ?_ | ((first | apply kM | apply kN); (iterate 3 (· exact rfl)); (· first | (show Y _ ⟨_, .indexAddr _ _ _, _, _, _, _⟩ _ _ _; first | exact Y.mk (ok_indexE (ht) rfl rfl rfl rfl rfl (by omega))) | exact ya | exact Y.mk (hv ▸ ok_lookI z_int rfl rfl rfl rfl rfl))) | refine sG ?_ | (refine sK ?_ ?_ <;> intro hc <;> (try simp only [KL, sL, reduceCtorEq] at hc) <;> (try (exfalso; omega))))
        all_goals first | (exfalso; omega) | skip
        refine ao_tu (tu_st (sto_map (1 : Int) rfl rfl rfl rfl rfl rfl rfl) rfl) rfl rfl rfl ?_
        repeat' (first | refine sA ?_ | ((first | apply kM | apply kN); (iterate 3 (· exact rfl)); (· first | exact ya | exact Y.mk (hv2 ▸ ok_lookI z_int rfl rfl rfl rfl rfl))) | refine sG ?_ | (refine sK ?_ ?_ <;> intro hc <;> (try simp only [KL, sL, reduceCtorEq] at hc) <;> (try (exfalso; omega))))
        all_goals first | (exfalso; omega) | exact ⟨k + 1, ⟨by omega, by rw [apartTo, ha, hin, decide_eq_true hr]; rfl⟩, by omega, les, by dsimp only; rw [enm]; exact leh⟩
      · rw [hno (by rw [hin, decide_eq_false hr])]
        repeat' (first | refine sA ?_ | ((first | apply kM | apply kN); (iterate 3 (· exact rfl)); (· first | (show Y _ ⟨_, .indexAddr _ _ _, _, _, _, _⟩ _ _ _; first | exact Y.mk (ok_indexE (ht) rfl rfl rfl rfl rfl (by omega))) | exact ya | exact Y.mk (hv ▸ ok_lookI z_int rfl rfl rfl rfl rfl))) | refine sG ?_ | (refine sK ?_ ?_ <;> intro hc <;> (try simp only [KL, sL, reduceCtorEq] at hc) <;> (try (exfalso; omega))))
        all_goals first | (exfalso; omega) | skip
        refine ao_tu (tu_st (sto_map (1 : Int) rfl rfl rfl rfl rfl rfl rfl) rfl) rfl rfl rfl ?_
        repeat' (first | refine sA ?_ | ((first | apply kM | apply kN); (iterate 3 (· exact rfl)); (· first | exact ya | exact Y.mk (hv2 ▸ ok_lookI z_int rfl rfl rfl rfl rfl))) | refine sG ?_ | (refine sK ?_ ?_ <;> intro hc <;> (try simp only [KL, sL, reduceCtorEq] at hc) <;> (try (exfalso; omega))))
        all_goals first | (exfalso; omega) | exact retq rfl rfl
  · subst hkl
    rw [ha]
    repeat' (first | refine sA ?_ | ((first | apply kM | apply kN); (iterate 3 (· exact rfl)); (· first | exact ya)) | refine sG ?_ | (refine sK ?_ ?_ <;> intro hc <;> (try simp only [KL, sL, reduceCtorEq] at hc) <;> (try (exfalso; omega))))
    all_goals first | (exfalso; omega) | exact retq rfl rfl
theorem any_take {l : List Int} {k : Nat} {t : Int} (h : ∀ j, j < k → l.getD j default ≠ t) (hk : k ≤ l.length) : ¬ t ∈ l.take k := fun e => by
  obtain ⟨j, hj, e2⟩ := List.getElem_of_mem e
  rw [List.length_take] at hj
  rw [List.getElem_take] at e2
  exact h j (by omega) (by rw [List.getD_eq_getElem?_getD, List.getElem?_eq_getElem (by omega)]; exact e2)
theorem in_take {l : List Int} {k j : Nat} (hj : j < k) (hk : k ≤ l.length) : l.getD j default ∈ l.take k := by
  have : l.getD j default = (l.take k)[j]'(by rw [List.length_take]; omega) := by
    rw [List.getElem_take, List.getD_eq_getElem?_getD, List.getElem?_eq_getElem (by omega)]; rfl
  rw [this]; exact List.getElem_mem _
theorem rright20_fn (o : Object) (hn : o.readers.length ≤ 1000) : Fn Tryz.prog 118 [.agg (eObject o)] (.bool (rightA o)) := by
  have c1 := right14_fn o
  by_cases hs : rightO o = true
  case neg =>
    rw [Bool.not_eq_true] at hs
    rw [rightA, hs, Bool.false_and]
    rw [hs] at c1
    refine fnb Tryz.func118 (entered_of (by kernel_rfl)) rfl rfl rfl ?_
    repeat' (first | refine sA ?_ | ((first | apply kM | apply kN); (iterate 3 (· exact rfl)); (· first | exact ya | exact q_c (c1) rfl)) | refine sG ?_ | (refine sK ?_ ?_ <;> intro hc <;> (try simp only [KL, sL, reduceCtorEq] at hc) <;> (try (exfalso; omega))))
    all_goals first | (exfalso; omega) | exact retq rfl rfl
  rw [hs] at c1
  rw [rightA, hs, Bool.true_and]
  obtain ⟨l, hl⟩ : ∃ l, tasksO o = l := ⟨_, rfl⟩
  have hlen : l.length = o.readers.length + 1 := by rw [← hl]; rfl
  rw [hl]
  refine fnb Tryz.func118 (entered_of (by kernel_rfl)) rfl rfl rfl ?_
  repeat' (first | refine sA ?_ | ((first | apply kM | apply kN); (iterate 3 (· exact rfl)); (· first | exact yag | exact q_c (c1) rfl)) | refine sG ?_ | (refine sK ?_ ?_ <;> intro hc <;> (try simp only [KL, sL, reduceCtorEq] at hc) <;> (try (exfalso; omega))))
  refine o_blit (f := eI) (l := [o.writer]) (id := 10) (sz := 1) rfl rfl rfl rfl rfl rfl rfl rfl rfl rfl rfl rfl rfl rfl ?_
  repeat' (first | refine sA ?_ | ((first | apply kM | apply kN); (iterate 3 (· exact rfl)); (· first | exact ya)) | refine sG ?_ | (refine sK ?_ ?_ <;> intro hc <;> (try simp only [KL, sL, reduceCtorEq] at hc) <;> (try (exfalso; omega))))
  (refine ao_ap (id := 10) (ys := o.readers) (by_ := 8) rfl rfl rfl rfl rfl rfl rfl rfl rfl rfl (fun _ _ => rfl) ?_ ?_ rfl rfl rfl rfl rfl ?_; (· (first | omega | ((try simp only [List.length_cons, List.length_nil, List.length_append, List.length_map]) <;> omega))); (· (first | omega | ((try simp only [List.length_cons, List.length_nil, List.length_append, List.length_map]) <;> omega))))
  repeat' (first | refine sA ?_ | ((first | apply kM | apply kN); (iterate 3 (· exact rfl)); (· first | exact ya)) | refine sG ?_ | (refine sK ?_ ?_ <;> intro hc <;> (try simp only [KL, sL, reduceCtorEq] at hc) <;> (try (exfalso; omega))))
  refine wturn (turn_freeze2 (t := 3) (t2 := 16) rfl rfl rfl rfl) ?_
  refine wloop (fun k : Nat => ([(3, .lst 1 (l.map eI)), (16, .lst 1 (l.map eI)), (17, .int .i64 l.length), (18, .int .i64 k)], [])) (fun k => k ≤ l.length ∧ apartTo l k = true) (fun k => l.length - k) 0 ⟨Nat.zero_le _, rfl⟩ (by rw [← hl]; exact les) leh (fun k hk => ?_)
  obtain ⟨hk, ha⟩ := hk
  rcases Nat.lt_or_eq_of_le hk with hkl | hkl
  · obtain ⟨t, ht⟩ : ∃ t, l.getD k default = t := ⟨_, rfl⟩
    have hin : inB l k = (decide (0 ≤ t ∧ t < 8) && !decide (t ∈ l.take k)) := by rw [inB, ht]
    have hno := fun h => apart_no (l := l) (k := k) hkl h
    by_cases hr : 0 ≤ t ∧ t < 8
    · repeat' (first | refine sA ?_ | ((first | apply kM | apply kN); (iterate 3 (· exact rfl)); (· first | (show Y _ ⟨_, .indexAddr _ _ _, _, _, _, _⟩ _ _ _; first | exact Y.mk (ok_indexE (ht) rfl rfl rfl rfl rfl (by omega))) | exact ya)) | refine sG ?_ | (refine sK ?_ ?_ <;> intro hc <;> (try simp only [KL, sL, reduceCtorEq] at hc) <;> (try (exfalso; omega))))
      all_goals first | (exfalso; omega) | skip
      refine wloop (fun j : Nat => ([(3, .lst 1 (l.map eI)), (4, .int .i64 k), (5, .int .i64 t), (6, .int .i64 j), (16, .lst 1 (l.map eI)), (17, .int .i64 l.length), (18, .int .i64 k)], [])) (fun j => j ≤ k ∧ ∀ i, i < j → l.getD i default ≠ t) (fun j => k - j) 0 ⟨Nat.zero_le _, fun i hi => by omega⟩ les leh (fun j hj => ?_)
      obtain ⟨hj, hd⟩ := hj
      rcases Nat.lt_or_eq_of_le hj with hjk | hjk
      · obtain ⟨u, hu⟩ : ∃ u, l.getD j default = u := ⟨_, rfl⟩
        by_cases he : u = t
        · have hmem : t ∈ l.take k := by rw [← he, ← hu]; exact in_take hjk hk
          rw [hno (by rw [hin, decide_eq_true hmem, Bool.not_true, Bool.and_false])]
          repeat' (first | refine sA ?_ | ((first | apply kM | apply kN); (iterate 3 (· exact rfl)); (· first | (show Y _ ⟨_, .indexAddr _ _ _, _, _, _, _⟩ _ _ _; first | exact Y.mk (ok_indexE (hu) rfl rfl rfl rfl rfl (by omega))) | exact ya)) | refine sG ?_ | (refine sK ?_ ?_ <;> intro hc <;> (try simp only [KL, sL, reduceCtorEq] at hc) <;> (try (exfalso; omega))))
          all_goals first | (exfalso; omega) | exact retq rfl rfl
        · repeat' (first | refine sA ?_ | ((first | apply kM | apply kN); (iterate 3 (· exact rfl)); (· first | (show Y _ ⟨_, .indexAddr _ _ _, _, _, _, _⟩ _ _ _; first | exact Y.mk (ok_indexE (hu) rfl rfl rfl rfl rfl (by omega))) | exact ya)) | refine sG ?_ | (refine sK ?_ ?_ <;> intro hc <;> (try simp only [KL, sL, reduceCtorEq] at hc) <;> (try (exfalso; omega))))
          all_goals first | (exfalso; omega) | skip
          refine ⟨j + 1, ⟨by omega, fun i hi => ?_⟩, by omega, les, leh⟩
          by_cases e : i = j
          · subst e; rw [hu]; exact he
          · exact hd i (by omega)
      · subst hjk
        rw [decide_eq_true hr, decide_eq_false (any_take hd hk)] at hin
        repeat' (first | refine sA ?_ | ((first | apply kM | apply kN); (iterate 3 (· exact rfl)); (· first | exact ya)) | refine sG ?_ | (refine sK ?_ ?_ <;> intro hc <;> (try simp only [KL, sL, reduceCtorEq] at hc) <;> (try (exfalso; omega))))
        all_goals first | (exfalso; omega) | exact ⟨j + 1, ⟨by omega, by rw [apartTo, ha, hin]; rfl⟩, by omega, les, leh⟩
    · rw [hno (by rw [hin, decide_eq_false hr, Bool.false_and])]
      repeat' (first | refine sA ?_ | ((first | apply kM | apply kN); (iterate 3 (· exact rfl)); (· first | (show Y _ ⟨_, .indexAddr _ _ _, _, _, _, _⟩ _ _ _; first | exact Y.mk (ok_indexE (ht) rfl rfl rfl rfl rfl (by omega))) | exact ya)) | refine sG ?_ | (refine sK ?_ ?_ <;> intro hc <;> (try simp only [KL, sL, reduceCtorEq] at hc) <;> (try (exfalso; omega))))
      all_goals first | (exfalso; omega) | exact retq rfl rfl
  · subst hkl
    rw [ha]
    repeat' (first | refine sA ?_ | ((first | apply kM | apply kN); (iterate 3 (· exact rfl)); (· first | exact ya)) | refine sG ?_ | (refine sK ?_ ?_ <;> intro hc <;> (try simp only [KL, sL, reduceCtorEq] at hc) <;> (try (exfalso; omega))))
    all_goals first | (exfalso; omega) | exact retq rfl rfl
def objR : Nat → List Object → Int × Int × Int
  | _, [] => (-1, -1, 0)
  | k, o :: l => if rightA o = true then objR (k + 1) l else (-1, k, 4)
def bindO (n k : Nat) : List Int → Int × Int × Int
  | [] => (-1, -1, 0)
  | i :: l => if (n : Int) ≤ i then (i, k, 10) else bindO n k l
def objB (n : Nat) : Nat → List Object → Int × Int × Int
  | _, [] => (-1, -1, 0)
  | k, o :: l => if (bindO n k (tasksO o)).2.2 = 0 then objB n (k + 1) l else bindO n k (tasksO o)
def objF (S : System) : Int × Int × Int := if (objR 0 S.objects).2.2 = 0 then objB S.tasks.length 0 S.objects else objR 0 S.objects
theorem objR_0 : ∀ k (l : List Object), (objR k l).2.2 = 0 → objR k l = (-1, -1, 0)
  | _, [], _ => rfl
  | k, o :: l, h => by
    rw [objR] at h ⊢
    by_cases hr : rightA o = true
    · rw [if_pos hr] at h ⊢; exact objR_0 _ l h
    · rw [if_neg hr] at h; simp at h
theorem objects32_fn (S : System) (h : OkS S) : Fn Tryz.prog 123 [.agg (eSystem S)] (.tup [.agg [.int .i64 (objF S).1, .int .i64 (objF S).2.1, .int .i64 (-1)], .int .i64 (objF S).2.2]) := by
  have h1 := h.tl
  have h2 := h.ol
  have hrl := h.rl
  obtain ⟨ts, os⟩ := S
  dsimp only at h1 h2 hrl
  rw [objF]
  dsimp only
  obtain ⟨a, ha⟩ : ∃ a, objR 0 os = a := ⟨_, rfl⟩
  have ha0 := objR_0 0 os
  rw [ha] at ha0 ⊢
  obtain ⟨b, hb⟩ : ∃ b, objB ts.length 0 os = b := ⟨_, rfl⟩
  rw [hb]
  refine fnb Tryz.func123 (entered_of (by kernel_rfl)) rfl rfl rfl ?_
  repeat' (first | refine sA ?_ | (show O _ _ _ _ _ _ _; first | refine ao_alloc (id := 10) rfl rfl rfl rfl rfl rfl rfl ?_ | refine ao_alloc (id := 11) rfl rfl rfl rfl rfl rfl rfl ?_) | ((first | apply kM | apply kN); (iterate 3 (· exact rfl)); (· first | exact ya | exact q_c (nowhere_fn) rfl)) | refine sG ?_ | (refine sK ?_ ?_ <;> intro hc <;> (try simp only [KL, sL, reduceCtorEq] at hc) <;> (try (exfalso; omega))))

  refine wloop (fun m : Nat => ([(1, .ref (eSystem ⟨ts, os⟩)), (2, .ptr 10 0), (4, .ptr 11 0), (13, .lst 8 (os.map eObject)), (14, .int .i64 os.length), (15, .int .i64 m)], [(10, .blk 87 [.int .i64 0, .int .i64 0, .int .i64 0]), (11, .blk 87 [.int .i64 (-1), .int .i64 (-1), .int .i64 (-1)])])) (fun m => m ≤ os.length ∧ objR m (os.drop m) = a) (fun m => os.length - m) 0 ⟨Nat.zero_le _, ha⟩ les leh (fun m hm => ?_)
  obtain ⟨hm, hx⟩ := hm
  rcases Nat.lt_or_eq_of_le hm with hml | hml
  · obtain ⟨o, ho⟩ : ∃ o, os.getD m default = o := ⟨_, rfl⟩
    have e : os[m] = o := by rw [← ho, List.getD_eq_getElem?_getD, List.getElem?_eq_getElem hml, Option.getD_some]
    have h3 := hrl m
    rw [ho] at h3
    have c1 := right20_fn o (by omega)
    rw [List.drop_eq_getElem_cons hml, e, objR] at hx
    by_cases hf : rightA o = true
    · rw [if_pos hf] at hx
      rw [hf] at c1
      repeat' (first | refine sA ?_ | (show O _ _ _ _ _ _ _; first | refine ao_alloc (id := 12) rfl rfl rfl rfl rfl rfl rfl ?_) | ((first | apply kM | apply kN); (iterate 3 (· exact rfl)); (· first | (show Y _ ⟨_, .indexAddr _ _ _, _, _, _, _⟩ _ _ _; first | exact Y.mk (ok_indexE (ho) rfl rfl rfl rfl rfl (by omega))) | exact ya | exact q_c (c1) rfl)) | refine sG ?_ | (refine sK ?_ ?_ <;> intro hc <;> (try simp only [KL, sL, reduceCtorEq] at hc) <;> (try (exfalso; omega))))
      all_goals first | (exfalso; omega) | exact ⟨m + 1, ⟨by omega, hx⟩, by omega, les, leh⟩
    · rw [if_neg hf] at hx
      rw [Bool.not_eq_true] at hf
      rw [hf] at c1
      subst hx
      rw [if_neg (by simp)]
      repeat' (first | refine sA ?_ | (show O _ _ _ _ _ _ _; first | refine ao_alloc (id := 12) rfl rfl rfl rfl rfl rfl rfl ?_) | ((first | apply kM | apply kN); (iterate 3 (· exact rfl)); (· first | (show Y _ ⟨_, .indexAddr _ _ _, _, _, _, _⟩ _ _ _; first | exact Y.mk (ok_indexE (ho) rfl rfl rfl rfl rfl (by omega))) | exact ya | exact q_c (c1) rfl)) | refine sG ?_ | (refine sK ?_ ?_ <;> intro hc <;> (try simp only [KL, sL, reduceCtorEq] at hc) <;> (try (exfalso; omega))))
      all_goals first | (exfalso; omega) | exact retq rfl rfl
  subst hml
  rw [List.drop_length, objR] at hx
  subst hx
  rw [if_pos rfl]
  repeat' (first | refine sA ?_ | ((first | apply kM | apply kN); (iterate 3 (· exact rfl)); (· first | exact ya)) | refine sG ?_ | (refine sK ?_ ?_ <;> intro hc <;> (try simp only [KL, sL, reduceCtorEq] at hc) <;> (try (exfalso; omega))))
  all_goals first | (exfalso; omega) | skip
  refine wloop (fun m : Nat => ([(1, .ref (eSystem ⟨ts, os⟩)), (2, .ptr 10 0), (4, .ptr 11 0), (28, .lst 8 (os.map eObject)), (29, .int .i64 os.length), (30, .int .i64 m)], [(10, .blk 87 [.int .i64 0, .int .i64 0, .int .i64 0]), (11, .blk 87 [.int .i64 (-1), .int .i64 (-1), .int .i64 (-1)])])) (fun m => m ≤ os.length ∧ objB ts.length m (os.drop m) = b) (fun m => os.length - m) 0 ⟨Nat.zero_le _, hb⟩ les leh (fun m hm => ?_)
  obtain ⟨hm, hx⟩ := hm
  rcases Nat.lt_or_eq_of_le hm with hml | hml
  · obtain ⟨o, ho⟩ : ∃ o, os.getD m default = o := ⟨_, rfl⟩
    have e : os[m] = o := by rw [← ho, List.getD_eq_getElem?_getD, List.getElem?_eq_getElem hml, Option.getD_some]
    have h3 := hrl m
    rw [ho] at h3
    rw [List.drop_eq_getElem_cons hml, e, objB] at hx
    obtain ⟨l, hl⟩ : ∃ l, tasksO o = l := ⟨_, rfl⟩
    have hlen : l.length = o.readers.length + 1 := by rw [← hl]; rfl
    rw [hl] at hx
    obtain ⟨z, hz⟩ : ∃ z, bindO ts.length m l = z := ⟨_, rfl⟩
    rw [hz] at hx
    repeat' (first | refine sA ?_ | (show O _ _ _ _ _ _ _; first | refine ao_alloc (id := 12) rfl rfl rfl rfl rfl rfl rfl ?_) | ((first | apply kM | apply kN); (iterate 3 (· exact rfl)); (· first | (show Y _ ⟨_, .indexAddr _ _ _, _, _, _, _⟩ _ _ _; first | exact Y.mk (ok_indexE (ho) rfl rfl rfl rfl rfl (by omega))) | exact yag)) | refine sG ?_ | (refine sK ?_ ?_ <;> intro hc <;> (try simp only [KL, sL, reduceCtorEq] at hc) <;> (try (exfalso; omega))))
    all_goals first | (exfalso; omega) | skip
    refine o_blit (f := eI) (l := [o.writer]) (id := 13) (sz := 1) rfl rfl rfl rfl rfl rfl rfl rfl rfl rfl rfl rfl rfl rfl ?_
    repeat' (first | refine sA ?_ | ((first | apply kM | apply kN); (iterate 3 (· exact rfl)); (· first | exact ya)) | refine sG ?_ | (refine sK ?_ ?_ <;> intro hc <;> (try simp only [KL, sL, reduceCtorEq] at hc) <;> (try (exfalso; omega))))
    (refine ao_ap (id := 13) (ys := o.readers) (by_ := 8) rfl rfl rfl rfl rfl rfl rfl rfl rfl rfl (fun _ _ => rfl) ?_ ?_ rfl rfl rfl rfl rfl ?_; (· (first | omega | ((try simp only [List.length_cons, List.length_nil, List.length_append, List.length_map]) <;> omega))); (· (first | omega | ((try simp only [List.length_cons, List.length_nil, List.length_append, List.length_map]) <;> omega))))
    repeat' (first | refine sA ?_ | ((first | apply kM | apply kN); (iterate 3 (· exact rfl)); (· first | exact ya)) | refine sG ?_ | (refine sK ?_ ?_ <;> intro hc <;> (try simp only [KL, sL, reduceCtorEq] at hc) <;> (try (exfalso; omega))))
    refine wturn (turn_freeze (t := 40) rfl rfl rfl) ?_
    refine wloop (fun j : Nat => ([(1, .ref (eSystem ⟨ts, os⟩)), (2, .ptr 10 0), (4, .ptr 11 0), (7, .int .i64 m), (28, .lst 8 (os.map eObject)), (29, .int .i64 os.length), (30, .int .i64 m), (40, .lst 1 (l.map eI)), (41, .int .i64 l.length), (42, .int .i64 j)], [(10, .blk 87 [.int .i64 0, .int .i64 0, .int .i64 0]), (11, .blk 87 [.int .i64 (-1), .int .i64 (-1), .int .i64 (-1)])])) (fun j => j ≤ l.length ∧ bindO ts.length m (l.drop j) = z) (fun j => l.length - j) 0 ⟨Nat.zero_le _, hz⟩ (by rw [← hl]; exact les) leh (fun j hj => ?_)
    obtain ⟨hj, hy⟩ := hj
    rcases Nat.lt_or_eq_of_le hj with hjl | hjl
    · obtain ⟨i, hi⟩ : ∃ i, l.getD j default = i := ⟨_, rfl⟩
      have e2 : l[j] = i := by rw [← hi, List.getD_eq_getElem?_getD, List.getElem?_eq_getElem hjl, Option.getD_some]
      rw [List.drop_eq_getElem_cons hjl, e2, bindO] at hy
      by_cases hf : (ts.length : Int) ≤ i
      · rw [if_pos hf] at hy
        subst hy
        rw [if_neg (by simp)] at hx
        subst hx
        repeat' (first | refine sA ?_ | ((first | apply kM | apply kN); (iterate 3 (· exact rfl)); (· first | (show Y _ ⟨_, .indexAddr _ _ _, _, _, _, _⟩ _ _ _; first | exact Y.mk (ok_indexE (hi) rfl rfl rfl rfl rfl (by omega))) | exact ya)) | refine sG ?_ | (refine sK ?_ ?_ <;> intro hc <;> (try simp only [KL, sL, reduceCtorEq] at hc) <;> (try (exfalso; omega))))
        all_goals first | (exfalso; omega) | exact retq rfl rfl
      · rw [if_neg hf] at hy
        repeat' (first | refine sA ?_ | ((first | apply kM | apply kN); (iterate 3 (· exact rfl)); (· first | (show Y _ ⟨_, .indexAddr _ _ _, _, _, _, _⟩ _ _ _; first | exact Y.mk (ok_indexE (hi) rfl rfl rfl rfl rfl (by omega))) | exact ya)) | refine sG ?_ | (refine sK ?_ ?_ <;> intro hc <;> (try simp only [KL, sL, reduceCtorEq] at hc) <;> (try (exfalso; omega))))
        all_goals first | (exfalso; omega) | exact ⟨j + 1, ⟨by omega, hy⟩, by omega, les, leh⟩
    · subst hjl
      rw [List.drop_length, bindO] at hy
      subst hy
      rw [if_pos rfl] at hx
      repeat' (first | refine sA ?_ | ((first | apply kM | apply kN); (iterate 3 (· exact rfl)); (· first | exact ya)) | refine sG ?_ | (refine sK ?_ ?_ <;> intro hc <;> (try simp only [KL, sL, reduceCtorEq] at hc) <;> (try (exfalso; omega))))
      all_goals first | (exfalso; omega) | exact ⟨m + 1, ⟨by omega, hx⟩, by omega, les, leh⟩
  · subst hml
    rw [List.drop_length, objB] at hx
    subst hx
    repeat' (first | refine sA ?_ | ((first | apply kM | apply kN); (iterate 3 (· exact rfl)); (· first | exact ya)) | refine sG ?_ | (refine sK ?_ ?_ <;> intro hc <;> (try simp only [KL, sL, reduceCtorEq] at hc) <;> (try (exfalso; omega))))
    all_goals first | (exfalso; omega) | exact retq rfl rfl
end Go.Proofs.YtkkmageogkkchaaGreat
