/- What is right of a system that is admitted; the statement AdmitSound. No condition. -/
import Derived.Test.YtkkmageogkkchaaGreatUDX
import Derived.Test.YtkkmageogkkchaaGreatUDAe
import Derived.Test.YtkkmageogkkchaaGreatUDFt
set_option linter.unusedSimpArgs false
set_option linter.unusedVariables false
set_option maxHeartbeats 1000000
namespace Go.Proofs.YtkkmageogkkchaaGreat
set_option maxRecDepth 100000
set_option maxRecDepth 100000
open Go.RowKit
theorem verd_ok {S : System} (h : (verd S).e = 0) : (sysF S).2.2.2 = 0 ∧ (allI S).e = 0 ∧ (rvO S (allI S).R 0 S.objects).1 = 0 ∧ verd S = ⟨0, -1, -1, (allI S).R⟩ := by
  by_cases h1 : (sysF S).2.2.2 = 0
  case neg => rw [verd, if_pos h1] at h; exact absurd h h1
  by_cases h2 : (hopeV S).2.2 = true
  · rw [verd, if_neg (by simpa using h1), if_pos h2] at h; simp at h
  by_cases h3 : (allI S).e = 0
  case neg => rw [verd, if_neg (by simpa using h1), if_neg h2, if_pos h3] at h; exact absurd h h3
  by_cases h4 : (rvO S (allI S).R 0 S.objects).1 = 0
  case neg => rw [verd, if_neg (by simpa using h1), if_neg h2, if_neg (by simpa using h3), if_pos h4] at h; exact absurd h h4
  exact ⟨h1, h3, h4, by rw [verd, if_neg (by simpa using h1), if_neg h2, if_neg (by simpa using h3), if_neg (by simpa using h4)]⟩
theorem verd_not {S : System} (h : (verd S).e ≠ 0) : (verd S).R = [] := by
  rw [verd] at h ⊢
  by_cases h1 : (sysF S).2.2.2 ≠ 0
  · rw [if_pos h1]
  rw [if_neg h1] at h ⊢
  by_cases h2 : (hopeV S).2.2 = true
  · rw [if_pos h2]
  rw [if_neg h2] at h ⊢
  by_cases h3 : (allI S).e ≠ 0
  · rw [if_pos h3]
  rw [if_neg h3] at h ⊢
  by_cases h4 : (rvO S (allI S).R 0 S.objects).1 ≠ 0
  · rw [if_pos h4]
  · rw [if_neg h4] at h; simp at h
theorem pick_ne (S : System) {j m : Nat} (hj : j < m) (hm : m < S.tasks.length) : (pickI S j).toNat ≠ (pickI S m).toNat := fun e => by
  have h1 := pick_rk S (m := j) (by omega)
  have h2 := pick_rk S hm
  have b1 := pick_B S (m := j) (by omega)
  have b2 := pick_B S hm
  have : pickI S j = pickI S m := by omega
  rw [this, h2] at h1
  omega
theorem allN_resp (S : System) : ∀ m, m ≤ S.tasks.length → (allN S m).e = 0 → ∀ j, j < m → ∃ c, respI S (pickI S j) c = ((allN S m).R.getD (pickI S j).toNat default, 0)
  | 0, _, _, j, hj => by omega
  | m + 1, hm, h, j, hj => by
    have hok := fun e => allN_ok S m e
    rw [allN] at h ⊢
    by_cases h1 : (allN S m).e ≠ 0
    · rw [if_pos h1] at h; exact absurd h h1
    rw [if_neg h1] at h ⊢
    have h1' : (allN S m).e = 0 := by simpa using h1
    have ih := allN_resp S m (by omega) h1'
    obtain ⟨k1, k2, k3⟩ := hok h1'
    rw [allS] at h ⊢
    by_cases h2 : (respI S (pickI S m) (allN S m).C).2 ≠ 0
    · rw [if_pos h2] at h; exact absurd h h2
    rw [if_neg h2]
    have h2' : (respI S (pickI S m) (allN S m).C).2 = 0 := by simpa using h2
    have hb := pick_B S (m := m) (by omega)
    by_cases e : j = m
    · subst e
      refine ⟨(allN S j).C, ?_⟩
      rw [List.getD_eq_getElem?_getD, List.getElem?_set, if_pos rfl, if_pos (by omega), Option.getD_some]
      exact Prod.ext rfl h2'
    · obtain ⟨c, hcc⟩ := ih j (by omega)
      refine ⟨c, ?_⟩
      rw [List.getD_eq_getElem?_getD, List.getElem?_set, if_neg (fun e2 => pick_ne S (j := j) (m := m) (by omega) (by omega) e2.symm), ← List.getD_eq_getElem?_getD]
      exact hcc
theorem all_resp {S : System} (h : (allI S).e = 0) {i : Nat} (hi : i < S.tasks.length) : ∃ c, respI S i c = ((allI S).R.getD i default, 0) := by
  have h1 := (pick_ord S).back (i := (i : Int)) ⟨by omega, by omega⟩
  obtain ⟨c, hcc⟩ := allN_resp S S.tasks.length (Nat.le_refl _) h _ h1.1
  have e : pickI S (rk (priosL S.tasks) S.tasks.length (i : Int)) = i := h1.2
  rw [e, Int.toNat_natCast] at hcc
  exact ⟨c, hcc⟩
theorem jobTo_dem {S : System} (h : OkS S) (i r : Int) : ∀ m, (demI S i 0).1 ≤ jobTo S i r m
  | 0 => Int.le_refl _
  | m + 1 => by
    have ih := jobTo_dem h i r m
    have hb := job_B h i r m
    rw [jobTo]
    have := insB (mulI (failsI S i m r) (failI (S.objects.getD m default) 1))
    have e := insId hb.1 hb.2
    unfold addI
    rw [e]
    omega
theorem resp_B {S : System} (h : OkS S) {i : Nat} (hi : i < S.tasks.length) {c : List Int} {r : Int} (hr : respI S i c = (r, 0)) (hd : (demI S i 0).2 = 0) : (demI S i 0).1 ≤ r ∧ r ≤ (S.tasks.getD i default).deadline := by
  have e : respI S i c = iterF (fun r => loadI S i r c) (tskD S i).deadline 10001 1 := by rw [respI, if_neg (by omega), respTo_iter]
  have hx := iter_fix (f := fun r => loadI S i r c) (D := (tskD S i).deadline) 10001 1 (by rw [← e, hr])
  rw [← e, hr] at hx
  dsimp only at hx
  have h1 := loadTo_job h i r c S.tasks.length
  have h2 : loadI S i r c = loadTo S i r c S.tasks.length := by rw [loadI, if_neg (by omega)]
  have h3 : jobI S i r = jobTo S i r S.objects.length := by rw [jobI, if_neg (by simpa using hd)]
  have h4 := jobTo_dem h i r S.objects.length
  have h5 : (tskD S i).deadline = (S.tasks.getD i default).deadline := by rw [tskD, Int.toNat_natCast]
  omega
theorem dem_ok {S : System} (h : (sysF S).2.2.2 = 0) {i : Nat} (hi : i < S.tasks.length) : (demI S i 0).2 = 0 := by
  have h1 := tasksF_all 0 S.tasks (sys_ok h).2.1 _ (getD_mem hi)
  have h2 := (fault_0 h1).2
  rw [demI, if_neg (by omega), costF, Int.toNat_natCast, if_neg (by simpa using h2), if_neg (by rw [wts_len]; simp)]
theorem mx_le {g : Int → Int} {b : Int} : ∀ (l : List Int) (n : Int), n ≤ b → (∀ i ∈ l, g i ≤ b) → l.foldl (fun n i => max n (g i)) n ≤ b
  | [], n, h, _ => h
  | a :: l, n, h, hg => by
    rw [List.foldl_cons]
    have := hg a List.mem_cons_self
    exact mx_le l _ (by omega) fun i hi => hg i (List.mem_cons_of_mem _ hi)
theorem mxL_le {g : Int → Int} {b : Int} (l : List Int) (hb : 0 ≤ b) (h : ∀ i ∈ l, g i ≤ b) : mxL g l ≤ b := mx_le l 0 hb h
theorem rvR_all (S : System) (R : List Int) (o : Object) (k : Nat) : ∀ l, (rvR S R o k l).1 = 0 → ∀ i ∈ l, spoilO S o i k (R.getD i.toNat default) = 0
  | [], _ => fun i hi => by cases hi
  | a :: l, h => by
    rw [rvR] at h
    by_cases h1 : spoilO S o a k (R.getD a.toNat default) = 0
    · rw [if_pos h1] at h
      intro i hi
      rcases List.mem_cons.1 hi with rfl | hi
      · exact h1
      · exact rvR_all S R o k l h i hi
    · rw [if_neg h1] at h; exact absurd h h1
theorem rvO_all (S : System) (R : List Int) : ∀ (m : Nat) (l : List Object), (rvO S R m l).1 = 0 → ∀ j, j < l.length → (rvR S R (l.getD j default) (m + j) (l.getD j default).readers).1 = 0
  | _, [], _ => fun j hj => by simp at hj
  | m, o :: l, h => by
    rw [rvO] at h
    by_cases h1 : (rvR S R o m o.readers).1 = 0
    · rw [if_pos h1] at h
      intro j hj
      cases j with
      | zero => exact h1
      | succ j =>
        have := rvO_all S R (m + 1) l h j (by simpa using hj)
        rw [show m + (j + 1) = m + 1 + j from by omega]
        simpa using this
    · rw [if_neg h1] at h; exact absurd h h1
theorem fit_same {S : System} (h : (sysF S).2.2.2 = 0) (ha : (allI S).e = 0) (hr : (rvO S (allI S).R 0 S.objects).1 = 0) {k : Nat} (hk : k < S.objects.length) : fitO S (allI S).R k (S.objects.getD k default) = S.objects.getD k default ∧ rightO (S.objects.getD k default) = true := by
  have hright := objF_all (sys_ok h).2.2.1 _ (getD_mem hk)
  have hrd := sys_readers h (n := (allI S).R.length) (allN_ok S _ ha).1 k hk
  have hsp := rvR_all S (allI S).R _ _ _ (rvO_all S (allI S).R 0 S.objects hr k hk)
  rw [Nat.zero_add] at hsp
  have hobj : objD S (k : Int) = S.objects.getD k default := by rw [objD, Int.toNat_natCast]
  have hsl : slotsI S k (allI S).R = if (S.objects.getD k default).kind ≠ 4 then 0 else mxL (fun i => writesI S i k (tickI (allI S).R i)) (S.objects.getD k default).readers + 2 := by
    rw [slotsI, Int.toNat_natCast]
    by_cases e : (S.objects.getD k default).kind ≠ 4
    · rw [if_pos e, if_pos (.inr (.inr e))]
    · rw [if_neg e, if_neg (fun x => by rcases x with x | x | x; omega; omega; exact e x)]
  have hcp : capsN S k (allI S).R = if ¬ (3 ≤ (S.objects.getD k default).kind ∧ (S.objects.getD k default).kind ≤ 5) then 0 else mxL (fun i => failsI S i k (tickI (allI S).R i)) (S.objects.getD k default).readers + 1 := by
    rw [capsN, Int.toNat_natCast]
    by_cases e : ¬ (3 ≤ (S.objects.getD k default).kind ∧ (S.objects.getD k default).kind ≤ 5)
    · rw [if_pos e, if_pos (.inr (.inr e))]
    · rw [if_neg e, if_neg (fun x => by rcases x with x | x | x; omega; omega; exact e x)]
  have htk : ∀ i ∈ (S.objects.getD k default).readers, tickI (allI S).R i = (allI S).R.getD i.toNat default := fun i hi => by
    have := hrd i hi
    rw [tickI, if_neg (by omega)]
  rw [rightA, Bool.and_eq_true] at hright
  have hP := of_decide_eq_true hright.1
  have hz := szP hP
  refine ⟨?_, hright.1⟩
  generalize allI S = a at *
  generalize S.objects.getD k default = o at *
  have hspo : ∀ i ∈ o.readers, (if o.kind = 4 then (if o.slots < 2 + writesI S i k (a.R.getD i.toNat default) then 11 else 0) else if o.kind = 3 ∨ o.kind = 5 then (if o.cap ≤ failsI S i k (a.R.getD i.toNat default) then 12 else 0) else 0) = (0 : Int) := fun i hi => by
    have := hsp i hi
    rw [spoilO] at this
    exact this
  have hW : o.kind = 4 → ∀ i ∈ o.readers, writesI S i k (a.R.getD i.toNat default) ≤ o.slots - 2 := fun e i hi => by
    have := hspo i hi
    rw [if_pos e] at this
    by_cases q : o.slots < 2 + writesI S i k (a.R.getD i.toNat default)
    · rw [if_pos q] at this; simp at this
    · omega
  have hs : o.kind = 4 → slotsI S k a.R ≤ o.slots := fun e => by
    rw [hsl, if_neg (by simpa using e)]
    have h4 : 2 ≤ o.slots := by simp only [rightP] at hP; omega
    have := mxL_le (g := fun i => writesI S i k (tickI a.R i)) (b := o.slots - 2) o.readers (by omega) fun i hi => by
      show writesI S i k (tickI a.R i) ≤ _
      rw [htk i hi]; exact hW e i hi
    omega
  have hcq : 3 ≤ o.kind ∧ o.kind ≤ 5 → capsN S k a.R ≤ o.cap := fun e => by
    rw [hcp, if_neg (by simpa using e)]
    have h4 : 1 ≤ o.cap := by simp only [rightP] at hP; omega
    have := mxL_le (g := fun i => failsI S i k (tickI a.R i)) (b := o.cap - 1) o.readers (by omega) fun i hi => by
      show failsI S i k (tickI a.R i) ≤ _
      rw [htk i hi]
      by_cases e4 : o.kind = 4
      · have h5 := hW e4 i hi
        have h6 := writes_B S i k (a.R.getD i.toNat default)
        rw [failsI, hobj, failsO]
        generalize writesI S i k (a.R.getD i.toNat default) = w at *
        by_cases e0 : w = 0
        · rw [if_pos e0]; omega
        · rw [if_neg e0, if_neg (by omega), if_pos e4, if_pos (by omega), Int.ediv_eq_zero_of_lt h6.1 (by omega)]
          omega
      · have := hspo i hi
        rw [if_neg e4, if_pos (by omega)] at this
        by_cases q : o.cap ≤ failsI S i k (a.R.getD i.toNat default)
        · rw [if_pos q] at this; simp at this
        · omega
    omega
  rw [fitO]
  have e1 : (if o.kind = 4 then max o.slots (slotsI S k a.R) else o.slots) = o.slots := by
    split
    · rename_i e; have := hs e; omega
    · rfl
  have e2 : (if 3 ≤ o.kind ∧ o.kind ≤ 5 then max o.cap (capsN S k a.R) else o.cap) = o.cap := by
    split
    · rename_i e; have := hcq e; omega
    · rfl
  rw [e1, e2]
theorem fit_all {S : System} (h : (sysF S).2.2.2 = 0) (ha : (allI S).e = 0) (hr : (rvO S (allI S).R 0 S.objects).1 = 0) : fitS S = S ∧ fitB S = true := by
  have key : ∀ k, k ≤ S.objects.length → fitN S (allI S).R k = S.objects ∧ okN S (allI S).R k = true := by
    intro k
    induction k with
    | zero => exact fun _ => ⟨rfl, rfl⟩
    | succ k ih =>
      intro hk
      obtain ⟨i1, i2⟩ := ih (by omega)
      obtain ⟨e1, e2⟩ := fit_same h ha hr (k := k) (by omega)
      rw [fitN, okN, i1, i2, e1, e2]
      refine ⟨?_, rfl⟩
      refine List.ext_getElem (by simp) fun j h5 h6 => ?_
      rw [List.getElem_set]
      split
      · rename_i e; subst e; simp [h6]
      · rfl
  obtain ⟨k1, k2⟩ := key S.objects.length (Nat.le_refl _)
  rw [fitS, fitB, if_pos ha, if_pos ha, k1, k2]
  exact ⟨rfl, rfl⟩
set_option maxHeartbeats 4000000 in
theorem admitSound_fn (S : System) : Fn Tryz.prog 12 [.agg (eSystem S)] (.bool true) := by
  have c0 := awake40_fn
  have c1 := few31_fn S 20 (by omega)
  refine fnb Tryz.func12 (entered_of (by kernel_rfl)) rfl rfl rfl ?_
  refine wsys 0 rfl (fun hn => ?_)
  cases hf : fewS S 20
  case false =>
    rw [hf] at c1
    repeat' (first | refine sA ?_ | ((first | apply kM | apply kN); (iterate 3 (· exact rfl)); (· first | exact ya | exact q_c (c0) rfl | exact q_c (c1) rfl)) | refine sG ?_ | (refine sK ?_ ?_ <;> intro hc <;> (try simp only [KL, sL, reduceCtorEq] at hc) <;> (try (exfalso; omega))))
    all_goals exact retq rfl rfl
  have h := fewS_ok (by omega) hf hn
  have h1 := h.tl
  rw [hf] at c1
  have c2 := check40_fn S h
  have c3 := admits_fn S h
  repeat' (first | refine sA ?_ | ((first | apply kM | apply kN); (iterate 3 (· exact rfl)); (· first | exact ya | exact q_c (c0) rfl | exact q_c (c1) rfl)) | refine sG ?_ | (refine sK ?_ ?_ <;> intro hc <;> (try simp only [KL, sL, reduceCtorEq] at hc) <;> (try (exfalso; omega))))
  all_goals first | (exfalso; omega) | skip
  refine wloop (fun m : Nat => ([(1, .ref (eSystem S)), (17, .lst 7 (S.tasks.map eTask)), (18, .int .i64 S.tasks.length), (19, .int .i64 m)], [])) (fun m => m ≤ S.tasks.length) (fun m => S.tasks.length - m) 0 (Nat.zero_le _) les leh (fun m hm => ?_)
  rcases Nat.lt_or_eq_of_le hm with hml | hml
  · obtain ⟨t, ht⟩ : ∃ t, S.tasks.getD m default = t := ⟨_, rfl⟩
    repeat' (first | refine sA ?_ | (show O _ _ _ _ _ _ _; first | refine ao_alloc (id := 10) rfl rfl rfl rfl rfl rfl rfl ?_) | ((first | apply kM | apply kN); (iterate 3 (· exact rfl)); (· first | (show Y _ ⟨_, .indexAddr _ _ _, _, _, _, _⟩ _ _ _; first | exact Y.mk (ok_indexE (ht) rfl rfl rfl rfl rfl (by omega))) | exact ya | exact q_c (c0) rfl)) | refine sG ?_ | (refine sK ?_ ?_ <;> intro hc <;> (try simp only [KL, sL, reduceCtorEq] at hc) <;> (try (exfalso; omega))))
    all_goals first | (exfalso; omega) | exact retq rfl rfl | exact ⟨m + 1, by omega, by omega, les, leh⟩
  subst hml
  by_cases he : (verd S).e = 0
  case neg =>
    have hR := verd_not he
    rw [decide_eq_false he] at c3
    generalize verd S = v at *
    obtain ⟨e, t, k, R⟩ := v
    dsimp only at *
    subst hR
    have hl0 : ((([] : List Int).length : Nat) : Int) = 0 := rfl
    have hl1 : ((([] : List Int).map eI).length : Int) = 0 := rfl
    repeat' (first | refine sA ?_ | (show O _ _ _ _ _ _ _; first | refine ao_alloc (id := 10) rfl rfl rfl rfl rfl rfl rfl ?_) | ((first | apply kM | apply kN); (iterate 3 (· exact rfl)); (· first | exact ya | exact q_c (c0) rfl | exact q_c (c2) rfl | exact q_c (c3) rfl)) | refine sG ?_ | (refine sK ?_ ?_ <;> intro hc <;> (try simp only [KL, sL, reduceCtorEq] at hc) <;> (try (exfalso; omega))))
    all_goals first | (exfalso; omega) | exact retq rfl rfl | (exfalso; revert hc; simp; done)
  obtain ⟨k1, k2, k3, k4⟩ := verd_ok he
  have c4 := fit_fn S h
  obtain ⟨k5, k6⟩ := fit_all k1 k2 k3
  rw [k5, k6] at c4
  have c5 := plSystem_fn S h
  have hlen := (allN_ok S _ k2).1
  change (allI S).R.length = S.tasks.length at hlen
  have hres := fun (i : Nat) (hi : i < S.tasks.length) => all_resp k2 hi
  have hdem := fun (i : Nat) (hi : i < S.tasks.length) => dem_ok k1 hi
  rw [k4] at c2
  generalize (allI S).R = R at *
  repeat' (first | refine sA ?_ | (show O _ _ _ _ _ _ _; first | refine ao_alloc (id := 10) rfl rfl rfl rfl rfl rfl rfl ?_) | ((first | apply kM | apply kN); (iterate 3 (· exact rfl)); (· first | exact ya | exact q_c (c0) rfl | exact q_c (c2) rfl)) | refine sG ?_ | (refine sK ?_ ?_ <;> intro hc <;> (try simp only [KL, sL, reduceCtorEq] at hc) <;> (try (exfalso; omega))))
  all_goals first | (exfalso; omega) | skip
  refine wloop (fun m : Nat => ([(1, .ref (eSystem S)), (5, .ptr 10 0), (63, .lst 7 (S.tasks.map eTask)), (64, .int .i64 S.tasks.length), (65, .int .i64 m)], [(10, .blk 60 (eV ⟨0, -1, -1, R⟩))])) (fun m => m ≤ S.tasks.length) (fun m => S.tasks.length - m) 0 (Nat.zero_le _) les leh (fun m hm => ?_)
  rcases Nat.lt_or_eq_of_le hm with hml | hml
  · obtain ⟨t, ht⟩ : ∃ t, S.tasks.getD m default = t := ⟨_, rfl⟩
    obtain ⟨r, hr⟩ : ∃ r, R.getD m default = r := ⟨_, rfl⟩
    obtain ⟨cc, hcc⟩ := hres m hml
    have hd := hdem m hml
    rw [hr] at hcc
    have hb := resp_B h hml hcc hd
    rw [ht] at hb
    have c6 := dclean_fn S h m
    rw [hd] at c6
    generalize (demI S (m : Int) 0).1 = d at *
    repeat' (first | refine sA ?_ | (show O _ _ _ _ _ _ _; first | refine ao_alloc (id := 11) rfl rfl rfl rfl rfl rfl rfl ?_) | ((first | apply kM | apply kN); (iterate 3 (· exact rfl)); (· first | (show Y _ ⟨_, .indexAddr _ _ _, _, _, _, _⟩ _ _ _; first | exact Y.mk (ok_indexE (ht) rfl rfl rfl rfl rfl (by omega)) | exact Y.mk (ok_indexE (hr) rfl rfl rfl rfl rfl (by omega))) | exact ya | exact q_c (c6) rfl)) | refine sG ?_ | (refine sK ?_ ?_ <;> intro hc <;> (try simp only [KL, sL, reduceCtorEq] at hc) <;> (try (exfalso; omega))))
    all_goals first | (exfalso; omega) | exact ⟨m + 1, by omega, by omega, les, leh⟩
  · subst hml
    repeat' (first | refine sA ?_ | (show O _ _ _ _ _ _ _; first | refine ao_alloc (id := 11) rfl rfl rfl rfl rfl rfl rfl ?_) | ((first | apply kM | apply kN); (iterate 3 (· exact rfl)); (· first | exact ya | exact q_c (c0) rfl | exact q_c (c4) rfl | exact q_c (c5) rfl)) | refine sG ?_ | (refine sK ?_ ?_ <;> intro hc <;> (try simp only [KL, sL, reduceCtorEq] at hc) <;> (try (exfalso; omega))))
    all_goals first | (exfalso; omega) | exact retq rfl rfl
end Go.Proofs.YtkkmageogkkchaaGreat
