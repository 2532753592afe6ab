/- Who goes ahead of another one is not disturbed by it. No condition. -/
import Derived.Test.YtfjoaeghnfkdlaaAb4
namespace Go.Proofs.Ytfjoaeghnfkdlaa
set_option linter.unusedSimpArgs false
set_option linter.unusedVariables false
set_option maxRecDepth 100000
set_option linter.unusedSimpArgs false
set_option linter.unusedVariables false
set_option maxRecDepth 100000
open Go.RowKit
def stT (l : List Task) (dm : List (List Int)) (i : Int) (s : Int × Int × List Int) (d : Due) : Int × Int × List Int :=
  if s.2.1 < 0 ∨ d.at_ < s.2.1 then s else (s.1 + 1, (giveF dm s.2.2 (newJ l i s.1 d)).2.fin, (giveF dm s.2.2 (newJ l i s.1 d)).1)
def prT (s : PS) : Int × Int × List Int := (s.no, s.free, s.T)
theorem placeTo_T (l : List Task) (dm : List (List Int)) (i : Int) (lt : List Due) (s : PS) : ∀ k, k ≤ lt.length → prT (placeTo l dm i lt s k) = ((lt.take k).filter fun d => decide (d.task = i)).foldl (stT l dm i) (prT s)
  | 0, _ => rfl
  | k + 1, h => by
    rw [placeTo, List.take_succ_eq_append_getElem h, List.filter_append, List.foldl_append, ← placeTo_T l dm i lt s k (by omega)]
    have e : lt.getD k default = lt[k] := by simp [show k < lt.length by omega]
    rw [e]
    generalize placeTo l dm i lt s k = p
    unfold placeS
    by_cases hd : lt[k].task = i
    · rw [if_neg (by simpa using hd)]
      simp only [List.filter_cons, decide_eq_true hd, if_true, List.filter_nil, List.foldl_cons, List.foldl_nil]
      unfold stT prT
      simp only
      split <;> rfl
    · rw [if_pos hd]
      simp [List.filter_cons, hd]
def layT (l : List Task) (dm : List (List Int)) (S : List Due) (rk : List Int) (T0 : List Int) : Nat → List Int
  | 0 => T0
  | r + 1 => ((S.filter fun d => decide (d.task = idxFrom rk r 0)).foldl (stT l dm (idxFrom rk r 0)) (0, 0, layT l dm S rk T0 r)).2.2
theorem layTo_T (l : List Task) (dm : List (List Int)) (S : List Due) (rk : List Int) (s : LS) : ∀ r, (layTo l dm S rk s r).T = layT l dm S rk s.T r
  | 0 => rfl
  | r + 1 => by
    have h := placeTo_T l dm (idxFrom rk r 0) S ⟨0, 0, (layTo l dm S rk s r).T, (layTo l dm S rk s r).m1, (layTo l dm S rk s r).m2⟩ S.length (Nat.le_refl _)
    rw [List.take_length] at h
    have h2 := congrArg (fun x => x.2.2) h
    rw [layT, ← layTo_T l dm S rk s r]
    exact h2
theorem layT_congr (l : List Task) (dm : List (List Int)) (S S' : List Due) (rk T0 : List Int) : ∀ r : Nat, (∀ q : Nat, q < r → (S.filter fun d => decide (d.task = idxFrom rk q 0)) = S'.filter fun d => decide (d.task = idxFrom rk q 0)) → layT l dm S rk T0 r = layT l dm S' rk T0 r
  | 0, _ => rfl
  | r + 1, h => by
    rw [layT, layT, layT_congr l dm S S' rk T0 r (fun q hq => h q (by omega)), h r (by omega)]
theorem giveL_at (most : Int) (u : Nat) : ∀ (n : Nat) (T : List Int) (j : Job) (t : Nat), (giveL most n T j t).1.getD u default = T.getD u default ∨ (T.getD u default = -1 ∧ (giveL most n T j t).1.getD u default = j.task)
  | 0, _, _, _ => .inl rfl
  | n + 1, T, j, t => by
    rw [giveL]
    split
    · split
      · rename_i h1 h2
        have ih := giveL_at most u n (T.set t j.task) (stepJ most j t) (t + 1)
        by_cases e : t = u
        · subst e
          by_cases hl : t < T.length
          · have e1 : (T.set t j.task).getD t default = j.task := by simp [hl]
            rcases ih with ih | ⟨ih1, ih2⟩
            · exact .inr ⟨h2, by rw [ih, e1]⟩
            · exact .inr ⟨h2, ih2⟩
          · simp [hl] at h2
        · have e1 : (T.set t j.task).getD u default = T.getD u default := by simp [List.getElem?_set_ne e]
          rw [e1] at ih
          exact ih
      · exact giveL_at most u n T j (t + 1)
    · exact .inl rfl
theorem stT_at (l : List Task) (dm : List (List Int)) (i : Int) (u : Nat) : ∀ (ds : List Due) (s : Int × Int × List Int), (ds.foldl (stT l dm i) s).2.2.getD u default = s.2.2.getD u default ∨ (s.2.2.getD u default = -1 ∧ (ds.foldl (stT l dm i) s).2.2.getD u default = i)
  | [], s => .inl rfl
  | d :: ds, s => by
    rw [List.foldl_cons]
    have ih := stT_at l dm i u ds (stT l dm i s d)
    have h1 : (stT l dm i s d).2.2.getD u default = s.2.2.getD u default ∨ (s.2.2.getD u default = -1 ∧ (stT l dm i s d).2.2.getD u default = i) := by
      unfold stT
      split
      · exact .inl rfl
      · exact giveL_at _ u _ _ _ _
    rcases h1 with h1 | ⟨h1, h2⟩
    · rw [h1] at ih; exact ih
    · rcases ih with ih | ⟨_, ih⟩
      · exact .inr ⟨h1, ih.trans h2⟩
      · exact .inr ⟨h1, ih⟩
theorem layT_keep (l : List Task) (dm : List (List Int)) (S : List Due) (rk T0 : List Int) (u r : Nat) : ∀ m, (layT l dm S rk T0 (r + m)).getD u default = (layT l dm S rk T0 r).getD u default ∨
    ((layT l dm S rk T0 r).getD u default = -1 ∧ ∃ q, r ≤ q ∧ q < r + m ∧ (layT l dm S rk T0 (r + m)).getD u default = idxFrom rk q 0)
  | 0 => .inl rfl
  | m + 1 => by
    have ih := layT_keep l dm S rk T0 u r m
    have h := stT_at l dm (idxFrom rk (r + m : Nat) 0) u (S.filter fun d => decide (d.task = idxFrom rk (r + m : Nat) 0)) (0, 0, layT l dm S rk T0 (r + m))
    rw [show r + (m + 1) = (r + m) + 1 by omega, layT]
    simp only at h
    rcases h with h | ⟨h1, h2⟩
    · rw [h]
      rcases ih with ih | ⟨ih1, q, hq1, hq2, ih2⟩
      · exact .inl ih
      · exact .inr ⟨ih1, q, hq1, by omega, ih2⟩
    · refine .inr ⟨?_, r + m, by omega, by omega, h2⟩
      rcases ih with ih | ⟨ih1, _⟩
      · rw [← ih]; exact h1
      · exact ih1
theorem idx_val : ∀ (l : List Int) (x : Int) (k : Nat), x ∈ l → l.getD (idxFrom l x k - k).toNat default = x
  | [], x, k, h => by cases h
  | y :: r, x, k, h => by
    rw [idxFrom]
    split
    · rename_i e
      rw [show (((k : Int) - k).toNat) = 0 by omega]; exact e.symm
    · rename_i hne
      rcases List.mem_cons.1 h with h | h
      · exact absurd h hne
      · have h1 := idx_range r x (k + 1) h
        have h2 := idx_val r x (k + 1) h
        rw [show ((idxFrom r x (k + 1) - k).toNat) = (idxFrom r x (k + 1) - ((k + 1 : Nat) : Int)).toNat + 1 by omega, List.getD_cons_succ]
        exact h2
theorem Ord.lt {prio : List Int} {n : Nat} {o : List Int} (h : Ord prio n o) {a b : Int} (ha : 0 ≤ a ∧ a < n) (hb : 0 ≤ b ∧ b < n) (hr : rk prio n a < rk prio n b) : befB prio a b = true := by
  obtain ⟨h1, h2⟩ := h.back ha
  obtain ⟨h3, h4⟩ := h.back hb
  have hs := List.pairwise_iff_getElem.1 h.srt (rk prio n a) (rk prio n b) (by rw [h.len]; exact h1) (by rw [h.len]; exact h3) hr
  have e1 : o.getD (rk prio n a) default = o[rk prio n a]'(by rw [h.len]; exact h1) := by simp [h.len, h1]
  have e2 : o.getD (rk prio n b) default = o[rk prio n b]'(by rw [h.len]; exact h3) := by simp [h.len, h3]
  rw [← e1, ← e2, h2, h4] at hs
  exact hs
def ahB (l : List Task) (a b : Int) : Bool := decide (0 ≤ a ∧ a < l.length ∧ 0 ≤ b ∧ b < l.length) && befB (priosL l) a b
theorem pr_at {l : List Task} {a : Int} (h : 0 ≤ a ∧ a < l.length) : pr (priosL l) a = (l.getD a.toNat default).prio := by
  have : a.toNat < l.length := by omega
  simp [pr, priosL, this]
theorem ahB_eq (l : List Task) (a b : Int) : ahB l a b = decide (0 ≤ a ∧ a < l.length ∧ 0 ≤ b ∧ b < l.length ∧ ((l.getD b.toNat default).prio < (l.getD a.toNat default).prio ∨ (l.getD a.toNat default).prio = (l.getD b.toNat default).prio ∧ a < b)) := by
  by_cases h : 0 ≤ a ∧ a < l.length ∧ 0 ≤ b ∧ b < l.length
  · rw [ahB, decide_eq_true h, Bool.true_and, befB, pr_at (by omega), pr_at (by omega)]
    rw [Bool.eq_iff_iff, decide_eq_true_eq, decide_eq_true_eq]
    omega
  · rw [ahB, decide_eq_false h, Bool.false_and]
    symm
    rw [decide_eq_false_iff_not]
    omega
theorem sortD_filter (p : Due → Bool) (l : List Due) : (sortD l).filter p = sortD (l.filter p) := sortD_eq ((sortD_perm l).filter p) ((sortD_srt l).filter p)
theorem ahead_law (l : List Task) (lt ex : List Due) (dm : List (List Int)) (ticks : Int) (k : Int) (hk : 0 ≤ k ∧ k < l.length) (hex : ∀ d ∈ ex, d.task = k ∨ ahB l k d.task = true) (u : Nat) :
    ahB l ((layF l lt dm ticks).T.getD u default) k = ahB l ((layF l (lt ++ ex) dm ticks).T.getD u default) k ∧
    (ahB l ((layF l lt dm ticks).T.getD u default) k = true → (layF l lt dm ticks).T.getD u default = (layF l (lt ++ ex) dm ticks).T.getD u default) := by
  obtain ⟨o, ho⟩ := ord_ex (priosL l) l.length
  obtain ⟨hr1, hr2⟩ := ho.back hk
  have hrank : ∀ q, q < l.length → (0 ≤ idxFrom (rkL (priosL l) l.length) q 0 ∧ idxFrom (rkL (priosL l) l.length) q 0 < l.length) ∧ rk (priosL l) l.length (idxFrom (rkL (priosL l) l.length) q 0) = q := fun q hq => by
    have h1 := idx_range (rkL (priosL l) l.length) q 0 (rk_mem l hq)
    have h2 := idx_val (rkL (priosL l) l.length) q 0 (rk_mem l hq)
    rw [rkL_len] at h1
    have h0 : 0 ≤ idxFrom (rkL (priosL l) l.length) q 0 ∧ idxFrom (rkL (priosL l) l.length) q 0 < l.length := by omega
    refine ⟨h0, ?_⟩
    rw [show (idxFrom (rkL (priosL l) l.length) q 0 - ((0 : Nat) : Int)).toNat = (idxFrom (rkL (priosL l) l.length) q 0).toNat by simp, rkL_at _ (by omega)] at h2
    rw [show (((idxFrom (rkL (priosL l) l.length) q 0).toNat : Nat) : Int) = idxFrom (rkL (priosL l) l.length) q 0 by omega] at h2
    exact Int.ofNat.inj h2
  have e0 : ∀ lt', (layF l lt' dm ticks).T = layT l dm (sortD (relL l.length lt' (ticksN ticks))) (rkL (priosL l) l.length) (List.replicate (ticksN ticks) (-1)) l.length := fun lt' => layTo_T _ _ _ _ _ _
  have hasym : ∀ x : Int, (0 ≤ x ∧ x < l.length) → rk (priosL l) l.length k ≤ rk (priosL l) l.length x → ahB l x k = false := fun x hx hle => by
    rw [ahB]
    rcases Nat.lt_or_eq_of_le hle with h | h
    · have := ho.lt hk hx h
      simp only [befB, decide_eq_true_eq] at this
      rw [show befB (priosL l) x k = false by simp only [befB, decide_eq_false_iff_not]; omega, Bool.and_false]
    · have h1 := (ho.back hx).2
      rw [← h, hr2] at h1
      subst h1
      rw [show befB (priosL l) k k = false by simp only [befB, decide_eq_false_iff_not]; omega, Bool.and_false]
  have hmid := layT_congr l dm (sortD (relL l.length lt (ticksN ticks))) (sortD (relL l.length (lt ++ ex) (ticksN ticks))) (rkL (priosL l) l.length) (List.replicate (ticksN ticks) (-1)) (rk (priosL l) l.length k) (fun q hq => by
    obtain ⟨h1, h2⟩ := hrank q (by omega)
    rw [sortD_filter, sortD_filter, relL, relL, List.filter_append, List.filter_append]
    have : (ex.filter (relB l.length (ticksN ticks))).filter (fun d => decide (d.task = idxFrom (rkL (priosL l) l.length) q 0)) = [] := by
      rw [List.filter_eq_nil_iff]
      intro d hd
      have hd2 := (List.mem_filter.1 hd).1
      have hb := ho.lt h1 hk (by rw [h2]; exact hq)
      simp only [befB, decide_eq_true_eq] at hb
      simp only [decide_eq_true_eq]
      intro he
      rcases hex d hd2 with h3 | h3
      · rw [h3] at he; rw [← he] at hb; omega
      · rw [ahB, Bool.and_eq_true] at h3
        have h4 := h3.2
        simp only [befB, decide_eq_true_eq] at h4
        rw [he] at h4; omega
    rw [this, List.append_nil])
  have hm1 : ahB l (-1) k = false := by rw [ahB, decide_eq_false (by omega), Bool.false_and]
  obtain ⟨m, hm⟩ : ∃ m, l.length = rk (priosL l) l.length k + m := ⟨l.length - rk (priosL l) l.length k, by omega⟩
  have k1 := layT_keep l dm (sortD (relL l.length lt (ticksN ticks))) (rkL (priosL l) l.length) (List.replicate (ticksN ticks) (-1)) u (rk (priosL l) l.length k) m
  have k2 := layT_keep l dm (sortD (relL l.length (lt ++ ex) (ticksN ticks))) (rkL (priosL l) l.length) (List.replicate (ticksN ticks) (-1)) u (rk (priosL l) l.length k) m
  rw [← hmid] at k2
  rw [← hm] at k1 k2
  rw [← e0] at k1 k2
  generalize (layF l lt dm ticks).T.getD u default = a at *
  generalize (layF l (lt ++ ex) dm ticks).T.getD u default = b at *
  generalize (layT l dm (sortD (relL l.length lt (ticksN ticks))) (rkL (priosL l) l.length) (List.replicate (ticksN ticks) (-1)) (rk (priosL l) l.length k)).getD u default = c at *
  have hf : ∀ q, rk (priosL l) l.length k ≤ q → q < l.length → ahB l (idxFrom (rkL (priosL l) l.length) q 0) k = false := fun q h1 h2 => hasym _ (hrank q h2).1 (by rw [(hrank q h2).2]; exact h1)
  rcases k1 with rfl | ⟨rfl, q, hq1, hq2, rfl⟩ <;> rcases k2 with rfl | ⟨hc, q', hq3, hq4, rfl⟩
  · exact ⟨rfl, fun _ => rfl⟩
  · subst hc
    rw [hm1, hf q' hq3 hq4]
    exact ⟨rfl, fun h => by cases h⟩
  · rw [hm1, hf q hq1 hq2]
    exact ⟨rfl, fun h => by cases h⟩
  · rw [hf q hq1 hq2, hf q' hq3 hq4]
    exact ⟨rfl, fun h => by cases h⟩
theorem rahead30_fn (l : List Task) (a b : Int) (hn : l.length ≤ 1000000) : Fn Try.prog 34 [.lst 7 (l.map eTask), .int .i64 a, .int .i64 b] (.bool (ahB l a b)) := by
  refine fnb Try.func34 (entered_of (by kernel_rfl)) rfl rfl rfl ?_
  rw [ahB_eq]
  repeat' (first | (show W _ _ _ _ _ _; first | refine wseq ?_ | refine wregion rfl ?_ | refine wcondT rfl rfl ?_ | refine wcondF rfl rfl ?_ | refine wblock ?_ | refine wskip ?_ | refine wexit ?_ | refine wret ?_ | refine wdraw (by kernel_rfl) (by kernel_rfl) ?_) | (show O _ _ _ _ _ _ _; first | (show O _ _ _ _ (⟨_, .store _ _ _, _, _, _, _⟩ :: _) _ _; refine ao_st rfl rfl rfl rfl rfl rfl rfl rfl rfl rfl rfl ?_) | refine onil ?_) | refine dnil ?_ | ((first | apply ao_k | apply ad_k); (· exact rfl); (· exact rfl); (· exact rfl); (· first | exact ya)) | refine ogrdN rfl rfl rfl rfl rfl ?_ | refine dgrdN rfl rfl rfl ?_ | ((first | refine wcond rfl rfl (fun hc => ?_) (fun hc => ?_) | refine ogrd rfl rfl rfl rfl rfl (fun hc => ?_) (fun hc => ?_) | refine dgrd rfl rfl rfl (fun hc => ?_) (fun hc => ?_)) <;> (try simp only [KL, cond_true, cond_false, beq_iff_eq, bne_iff_ne, ne_eq, reduceCtorEq] at hc) <;> (try (have hT : True := hc; clear hT hc)) <;> (try (exfalso; omega))) | refine nThen ?_ | refine nIn ?_ | refine eThen ?_ | refine eIn ?_ | refine eInNe rfl ?_ | refine rThen ?_ | refine rIn ?_)
  all_goals exact retq rfl (congrArg AV.bool (by rw [Bool.eq_iff_iff]; (try simp only [cond_true, cond_false, decide_eq_true_eq, Bool.not_eq_true', decide_eq_false_iff_not, Bool.and_eq_true, Bool.or_eq_true, true_iff, false_iff, iff_true, iff_false, Bool.false_eq_true, Bool.not_true, Bool.not_false, reduceCtorEq]); (first | done | omega | (constructor <;> intros <;> omega))))
def fewB (l : List Task) (most : Int) : Bool := decide ((l.length : Int) ≤ most) && l.all fun t => decide (t.code.length ≤ 200)
theorem all_take (p : Task → Bool) (l : List Task) (k : Nat) (h : k < l.length) (h1 : (l.take k).all p = true) (h2 : p (l.getD k default) = true) : (l.take (k + 1)).all p = true := by
  rw [List.take_succ_eq_append_getElem h, List.all_append, h1]
  have e : l.getD k default = l[k] := by simp [h]
  rw [e] at h2
  simp [h2]
theorem few_fn (l : List Task) (most : Int) (hm : most ≤ 1000) : Fn Try.prog 16 [.lst 7 (l.map eTask), .int .i64 most] (.bool (fewB l most)) := by
  refine fnb Try.func16 (entered_of (by kernel_rfl)) rfl rfl rfl ?_
  by_cases h0 : (l.length : Int) ≤ most
  case neg =>
    repeat' (first | (show W _ _ _ _ _ _; first | refine wseq ?_ | refine wregion rfl ?_ | refine wcondT rfl rfl ?_ | refine wcondF rfl rfl ?_ | refine wblock ?_ | refine wskip ?_ | refine wexit ?_ | refine wret ?_ | refine wdraw (by kernel_rfl) (by kernel_rfl) ?_) | (show O _ _ _ _ _ _ _; first | (show O _ _ _ _ (⟨_, .store _ _ _, _, _, _, _⟩ :: _) _ _; refine ao_st rfl rfl rfl rfl rfl rfl rfl rfl rfl rfl rfl ?_) | refine onil ?_) | refine dnil ?_ | ((first | apply ao_k | apply ad_k); (· exact rfl); (· exact rfl); (· exact rfl); (· first | exact ya)) | refine ogrdN rfl rfl rfl rfl rfl ?_ | refine dgrdN rfl rfl rfl ?_ | ((first | refine wcond rfl rfl (fun hc => ?_) (fun hc => ?_) | refine ogrd rfl rfl rfl rfl rfl (fun hc => ?_) (fun hc => ?_) | refine dgrd rfl rfl rfl (fun hc => ?_) (fun hc => ?_)) <;> (try simp only [KL, cond_true, cond_false, beq_iff_eq, bne_iff_ne, ne_eq, reduceCtorEq] at hc) <;> (try (have hT : True := hc; clear hT hc)) <;> (try (exfalso; omega))) | refine nThen ?_ | refine nIn ?_ | refine eThen ?_ | refine eIn ?_ | refine eInNe rfl ?_ | refine rThen ?_ | refine rIn ?_)
    all_goals first | (exfalso; omega) | exact retq rfl (by rw [fewB, decide_eq_false h0, Bool.false_and])
  repeat' (first | (show W _ _ _ _ _ _; first | refine wseq ?_ | refine wregion rfl ?_ | refine wcondT rfl rfl ?_ | refine wcondF rfl rfl ?_ | refine wblock ?_ | refine wskip ?_ | refine wexit ?_ | refine wret ?_ | refine wdraw (by kernel_rfl) (by kernel_rfl) ?_) | (show O _ _ _ _ _ _ _; first | (show O _ _ _ _ (⟨_, .store _ _ _, _, _, _, _⟩ :: _) _ _; refine ao_st rfl rfl rfl rfl rfl rfl rfl rfl rfl rfl rfl ?_) | refine onil ?_) | refine dnil ?_ | ((first | apply ao_k | apply ad_k); (· exact rfl); (· exact rfl); (· exact rfl); (· first | exact ya)) | refine ogrdN rfl rfl rfl rfl rfl ?_ | refine dgrdN rfl rfl rfl ?_ | ((first | refine wcond rfl rfl (fun hc => ?_) (fun hc => ?_) | refine ogrd rfl rfl rfl rfl rfl (fun hc => ?_) (fun hc => ?_) | refine dgrd rfl rfl rfl (fun hc => ?_) (fun hc => ?_)) <;> (try simp only [KL, cond_true, cond_false, beq_iff_eq, bne_iff_ne, ne_eq, reduceCtorEq] at hc) <;> (try (have hT : True := hc; clear hT hc)) <;> (try (exfalso; omega))) | refine nThen ?_ | refine nIn ?_ | refine eThen ?_ | refine eIn ?_ | refine eInNe rfl ?_ | refine rThen ?_ | refine rIn ?_)
  all_goals first | (exfalso; omega) | skip
  refine wloop (fun k : Nat => ([(11, .lst 7 (l.map eTask)), (12, .int .i64 l.length), (13, .int .i64 k)], [])) (fun k => k ≤ l.length ∧ (l.take k).all (fun t => decide (t.code.length ≤ 200)) = true) (fun k => l.length - k) 0 ⟨Nat.zero_le _, rfl⟩ les leh (fun k hk => ?_)
  obtain ⟨hk1, hk2⟩ := hk
  rcases Nat.lt_or_eq_of_le hk1 with hkl | hkl
  · obtain ⟨d, hd⟩ : ∃ d, l.getD k default = d := ⟨_, rfl⟩
    by_cases hc0 : d.code.length ≤ 200
    · have := all_take _ l k hkl hk2 (by rw [hd]; exact decide_eq_true hc0)
      repeat' (first | (show W _ _ _ _ _ _; first | refine wseq ?_ | refine wregion rfl ?_ | refine wcondT rfl rfl ?_ | refine wcondF rfl rfl ?_ | refine wblock ?_ | refine wskip ?_ | refine wexit ?_ | refine wret ?_ | refine wdraw (by kernel_rfl) (by kernel_rfl) ?_) | (show O _ _ _ _ _ _ _; first | (show O _ _ _ _ (⟨_, .alloc _, _, _, _, _⟩ :: _) _ _; first | refine ao_alloc (id := 6) rfl rfl rfl rfl rfl rfl rfl ?_) | (show O _ _ _ _ (⟨_, .store _ _ _, _, _, _, _⟩ :: _) _ _; refine ao_st rfl rfl rfl rfl rfl rfl rfl rfl rfl rfl rfl ?_) | refine onil ?_) | refine dnil ?_ | ((first | apply ao_k | apply ad_k); (· exact rfl); (· exact rfl); (· exact rfl); (· first | (show Y _ ⟨_, .indexAddr _ _ _, _, _, _, _⟩ _ _ _; first | exact Y.mk (ok_indexE (hd) rfl rfl rfl rfl rfl (by omega))) | exact ya)) | refine ogrdN rfl rfl rfl rfl rfl ?_ | refine dgrdN rfl rfl rfl ?_ | ((first | refine wcond rfl rfl (fun hc => ?_) (fun hc => ?_) | refine ogrd rfl rfl rfl rfl rfl (fun hc => ?_) (fun hc => ?_) | refine dgrd rfl rfl rfl (fun hc => ?_) (fun hc => ?_)) <;> (try simp only [KL, cond_true, cond_false, beq_iff_eq, bne_iff_ne, ne_eq, reduceCtorEq] at hc) <;> (try (have hT : True := hc; clear hT hc)) <;> (try (exfalso; omega))) | refine nThen ?_ | refine nIn ?_ | refine eThen ?_ | refine eIn ?_ | refine eInNe rfl ?_ | refine rThen ?_ | refine rIn ?_)
      all_goals first | (exfalso; omega) | exact ⟨k + 1, ⟨by omega, this⟩, by omega, les, leh⟩
    · have hf : l.all (fun t => decide (t.code.length ≤ 200)) = false := by
        rw [List.all_eq_false]
        refine ⟨d, by rw [← hd]; exact getD_mem hkl, by simpa using hc0⟩
      repeat' (first | (show W _ _ _ _ _ _; first | refine wseq ?_ | refine wregion rfl ?_ | refine wcondT rfl rfl ?_ | refine wcondF rfl rfl ?_ | refine wblock ?_ | refine wskip ?_ | refine wexit ?_ | refine wret ?_ | refine wdraw (by kernel_rfl) (by kernel_rfl) ?_) | (show O _ _ _ _ _ _ _; first | (show O _ _ _ _ (⟨_, .alloc _, _, _, _, _⟩ :: _) _ _; first | refine ao_alloc (id := 6) rfl rfl rfl rfl rfl rfl rfl ?_) | (show O _ _ _ _ (⟨_, .store _ _ _, _, _, _, _⟩ :: _) _ _; refine ao_st rfl rfl rfl rfl rfl rfl rfl rfl rfl rfl rfl ?_) | refine onil ?_) | refine dnil ?_ | ((first | apply ao_k | apply ad_k); (· exact rfl); (· exact rfl); (· exact rfl); (· first | (show Y _ ⟨_, .indexAddr _ _ _, _, _, _, _⟩ _ _ _; first | exact Y.mk (ok_indexE (hd) rfl rfl rfl rfl rfl (by omega))) | exact ya)) | refine ogrdN rfl rfl rfl rfl rfl ?_ | refine dgrdN rfl rfl rfl ?_ | ((first | refine wcond rfl rfl (fun hc => ?_) (fun hc => ?_) | refine ogrd rfl rfl rfl rfl rfl (fun hc => ?_) (fun hc => ?_) | refine dgrd rfl rfl rfl (fun hc => ?_) (fun hc => ?_)) <;> (try simp only [KL, cond_true, cond_false, beq_iff_eq, bne_iff_ne, ne_eq, reduceCtorEq] at hc) <;> (try (have hT : True := hc; clear hT hc)) <;> (try (exfalso; omega))) | refine nThen ?_ | refine nIn ?_ | refine eThen ?_ | refine eIn ?_ | refine eInNe rfl ?_ | refine rThen ?_ | refine rIn ?_)
      all_goals first | (exfalso; omega) | exact retq rfl (by rw [fewB, hf, Bool.and_false])
  · subst hkl
    rw [List.take_length] at *
    repeat' (first | (show W _ _ _ _ _ _; first | refine wseq ?_ | refine wregion rfl ?_ | refine wcondT rfl rfl ?_ | refine wcondF rfl rfl ?_ | refine wblock ?_ | refine wskip ?_ | refine wexit ?_ | refine wret ?_ | refine wdraw (by kernel_rfl) (by kernel_rfl) ?_) | (show O _ _ _ _ _ _ _; first | (show O _ _ _ _ (⟨_, .store _ _ _, _, _, _, _⟩ :: _) _ _; refine ao_st rfl rfl rfl rfl rfl rfl rfl rfl rfl rfl rfl ?_) | refine onil ?_) | refine dnil ?_ | ((first | apply ao_k | apply ad_k); (· exact rfl); (· exact rfl); (· exact rfl); (· first | exact ya)) | refine ogrdN rfl rfl rfl rfl rfl ?_ | refine dgrdN rfl rfl rfl ?_ | ((first | refine wcond rfl rfl (fun hc => ?_) (fun hc => ?_) | refine ogrd rfl rfl rfl rfl rfl (fun hc => ?_) (fun hc => ?_) | refine dgrd rfl rfl rfl (fun hc => ?_) (fun hc => ?_)) <;> (try simp only [KL, cond_true, cond_false, beq_iff_eq, bne_iff_ne, ne_eq, reduceCtorEq] at hc) <;> (try (have hT : True := hc; clear hT hc)) <;> (try (exfalso; omega))) | refine nThen ?_ | refine nIn ?_ | refine eThen ?_ | refine eIn ?_ | refine eInNe rfl ?_ | refine rThen ?_ | refine rIn ?_)
    all_goals first | (exfalso; omega) | exact retq rfl (by rw [fewB, decide_eq_true h0, hk2]; rfl)
def lightB (l : List Task) (asks : List Due) (dm : List (List Int)) (ticks : Int) : Bool :=
  fewB l 20 && decide (asks.length ≤ 200 ∧ dm.length ≤ 20 ∧ ¬ (1000 < ticks ∧ ticks ≤ 65536)) && dm.all fun x => decide (x.length ≤ 1000)
theorem all_takeL (p : List Int → Bool) (l : List (List Int)) (k : Nat) (h : k < l.length) (h1 : (l.take k).all p = true) (h2 : p (l.getD k default) = true) : (l.take (k + 1)).all p = true := by
  rw [List.take_succ_eq_append_getElem h, List.all_append, h1]
  have e : l.getD k default = l[k] := by simp [h]
  rw [e] at h2
  simp [h2]
theorem light29_fn (l : List Task) (asks : List Due) (dm : List (List Int)) (ticks : Int) : Fn Try.prog 59 [.agg [.lst 7 (l.map eTask), .lst 2 (asks.map eDue), .lst 1 (dm.map eLI), .int .i64 ticks]] (.bool (lightB l asks dm ticks)) := by
  refine fnb Try.func59 (entered_of (by kernel_rfl)) rfl rfl rfl ?_
  have c1 := few_fn l 20 (by omega)
  rw [lightB]
  generalize fewB l 20 = few at *
  by_cases h0 : few = true ∧ asks.length ≤ 200 ∧ dm.length ≤ 20 ∧ ¬ (1000 < ticks ∧ ticks ≤ 65536)
  case neg =>
    have e : (few && decide (asks.length ≤ 200 ∧ dm.length ≤ 20 ∧ ¬ (1000 < ticks ∧ ticks ≤ 65536))) = false := by
      cases few
      · rfl
      · rw [decide_eq_false (fun h => h0 ⟨rfl, h⟩)]; rfl
    cases few
    · repeat' (first | (show W _ _ _ _ _ _; first | refine wseq ?_ | refine wregion rfl ?_ | refine wcondT rfl rfl ?_ | refine wcondF rfl rfl ?_ | refine wblock ?_ | refine wskip ?_ | refine wexit ?_ | refine wret ?_ | refine wdraw (by kernel_rfl) (by kernel_rfl) ?_) | (show O _ _ _ _ _ _ _; first | (show O _ _ _ _ (⟨_, .store _ _ _, _, _, _, _⟩ :: _) _ _; refine ao_st rfl rfl rfl rfl rfl rfl rfl rfl rfl rfl rfl ?_) | refine onil ?_) | refine dnil ?_ | ((first | apply ao_k | apply ad_k); (· exact rfl); (· exact rfl); (· exact rfl); (· first | (show Y _ ⟨_, .call ⟨.value _, _, _⟩, _, _, _, _⟩ _ _ _; first | exact q_c (c1) rfl) | exact ya)) | refine ogrdN rfl rfl rfl rfl rfl ?_ | refine dgrdN rfl rfl rfl ?_ | ((first | refine wcond rfl rfl (fun hc => ?_) (fun hc => ?_) | refine ogrd rfl rfl rfl rfl rfl (fun hc => ?_) (fun hc => ?_) | refine dgrd rfl rfl rfl (fun hc => ?_) (fun hc => ?_)) <;> (try simp only [KL, cond_true, cond_false, beq_iff_eq, bne_iff_ne, ne_eq, reduceCtorEq] at hc) <;> (try (have hT : True := hc; clear hT hc)) <;> (try (exfalso; omega))) | refine nThen ?_ | refine nIn ?_ | refine eThen ?_ | refine eIn ?_ | refine eInNe rfl ?_ | refine rThen ?_ | refine rIn ?_)
      all_goals first | (exfalso; omega) | exact retq rfl (by rw [e, Bool.false_and])
    · have h0 : ¬ (asks.length ≤ 200 ∧ dm.length ≤ 20 ∧ ¬ (1000 < ticks ∧ ticks ≤ 65536)) := fun h => h0 ⟨rfl, h⟩
      repeat' (first | (show W _ _ _ _ _ _; first | refine wseq ?_ | refine wregion rfl ?_ | refine wcondT rfl rfl ?_ | refine wcondF rfl rfl ?_ | refine wblock ?_ | refine wskip ?_ | refine wexit ?_ | refine wret ?_ | refine wdraw (by kernel_rfl) (by kernel_rfl) ?_) | (show O _ _ _ _ _ _ _; first | (show O _ _ _ _ (⟨_, .store _ _ _, _, _, _, _⟩ :: _) _ _; refine ao_st rfl rfl rfl rfl rfl rfl rfl rfl rfl rfl rfl ?_) | refine onil ?_) | refine dnil ?_ | ((first | apply ao_k | apply ad_k); (· exact rfl); (· exact rfl); (· exact rfl); (· first | (show Y _ ⟨_, .call ⟨.value _, _, _⟩, _, _, _, _⟩ _ _ _; first | exact q_c (c1) rfl) | exact ya)) | refine ogrdN rfl rfl rfl rfl rfl ?_ | refine dgrdN rfl rfl rfl ?_ | ((first | refine wcond rfl rfl (fun hc => ?_) (fun hc => ?_) | refine ogrd rfl rfl rfl rfl rfl (fun hc => ?_) (fun hc => ?_) | refine dgrd rfl rfl rfl (fun hc => ?_) (fun hc => ?_)) <;> (try simp only [KL, cond_true, cond_false, beq_iff_eq, bne_iff_ne, ne_eq, reduceCtorEq] at hc) <;> (try (have hT : True := hc; clear hT hc)) <;> (try (exfalso; omega))) | refine nThen ?_ | refine nIn ?_ | refine eThen ?_ | refine eIn ?_ | refine eInNe rfl ?_ | refine rThen ?_ | refine rIn ?_)
      all_goals first | (exfalso; omega) | exact retq rfl (by rw [e, Bool.false_and])
  obtain ⟨rfl, h1, h2, h3⟩ := h0
  rw [decide_eq_true ⟨h1, h2, h3⟩]
  repeat' (first | (show W _ _ _ _ _ _; first | refine wseq ?_ | refine wregion rfl ?_ | refine wcondT rfl rfl ?_ | refine wcondF rfl rfl ?_ | refine wblock ?_ | refine wskip ?_ | refine wexit ?_ | refine wret ?_ | refine wdraw (by kernel_rfl) (by kernel_rfl) ?_) | (show O _ _ _ _ _ _ _; first | (show O _ _ _ _ (⟨_, .store _ _ _, _, _, _, _⟩ :: _) _ _; refine ao_st rfl rfl rfl rfl rfl rfl rfl rfl rfl rfl rfl ?_) | refine onil ?_) | refine dnil ?_ | ((first | apply ao_k | apply ad_k); (· exact rfl); (· exact rfl); (· exact rfl); (· first | (show Y _ ⟨_, .call ⟨.value _, _, _⟩, _, _, _, _⟩ _ _ _; first | exact q_c (c1) rfl) | exact ya)) | refine ogrdN rfl rfl rfl rfl rfl ?_ | refine dgrdN rfl rfl rfl ?_ | ((first | refine wcond rfl rfl (fun hc => ?_) (fun hc => ?_) | refine ogrd rfl rfl rfl rfl rfl (fun hc => ?_) (fun hc => ?_) | refine dgrd rfl rfl rfl (fun hc => ?_) (fun hc => ?_)) <;> (try simp only [KL, cond_true, cond_false, beq_iff_eq, bne_iff_ne, ne_eq, reduceCtorEq] at hc) <;> (try (have hT : True := hc; clear hT hc)) <;> (try (exfalso; omega))) | refine nThen ?_ | refine nIn ?_ | refine eThen ?_ | refine eIn ?_ | refine eInNe rfl ?_ | refine rThen ?_ | refine rIn ?_)
  all_goals first | (exfalso; omega) | skip
  all_goals
  refine wloop (fun k : Nat => ([(32, .lst 1 (dm.map eLI)), (33, .int .i64 dm.length), (34, .int .i64 k)], [])) (fun k => k ≤ dm.length ∧ (dm.take k).all (fun x => decide (x.length ≤ 1000)) = true) (fun k => dm.length - k) 0 ⟨Nat.zero_le _, rfl⟩ les leh (fun k hk => ?_)
  all_goals
  obtain ⟨hk1, hk2⟩ := hk
  rcases Nat.lt_or_eq_of_le hk1 with hkl | hkl
  · obtain ⟨d, hd⟩ : ∃ d, dm.getD k default = d := ⟨_, rfl⟩
    by_cases hc0 : d.length ≤ 1000
    · have := all_takeL _ dm k hkl hk2 (by rw [hd]; exact decide_eq_true hc0)
      repeat' (first | (show W _ _ _ _ _ _; first | refine wseq ?_ | refine wregion rfl ?_ | refine wcondT rfl rfl ?_ | refine wcondF rfl rfl ?_ | refine wblock ?_ | refine wskip ?_ | refine wexit ?_ | refine wret ?_ | refine wdraw (by kernel_rfl) (by kernel_rfl) ?_) | (show O _ _ _ _ _ _ _; first | (show O _ _ _ _ (⟨_, .store _ _ _, _, _, _, _⟩ :: _) _ _; refine ao_st rfl rfl rfl rfl rfl rfl rfl rfl rfl rfl rfl ?_) | refine onil ?_) | refine dnil ?_ | ((first | apply ao_k | apply ad_k); (· exact rfl); (· exact rfl); (· exact rfl); (· first | (show Y _ ⟨_, .indexAddr _ _ _, _, _, _, _⟩ _ _ _; first | exact Y.mk (ok_indexE (hd) rfl rfl rfl rfl rfl (by omega))) | exact ya)) | refine ogrdN rfl rfl rfl rfl rfl ?_ | refine dgrdN rfl rfl rfl ?_ | ((first | refine wcond rfl rfl (fun hc => ?_) (fun hc => ?_) | refine ogrd rfl rfl rfl rfl rfl (fun hc => ?_) (fun hc => ?_) | refine dgrd rfl rfl rfl (fun hc => ?_) (fun hc => ?_)) <;> (try simp only [KL, cond_true, cond_false, beq_iff_eq, bne_iff_ne, ne_eq, reduceCtorEq] at hc) <;> (try (have hT : True := hc; clear hT hc)) <;> (try (exfalso; omega))) | refine nThen ?_ | refine nIn ?_ | refine eThen ?_ | refine eIn ?_ | refine eInNe rfl ?_ | refine rThen ?_ | refine rIn ?_)
      all_goals first | (exfalso; omega) | exact ⟨k + 1, ⟨by omega, this⟩, by omega, les, leh⟩
    · have hf : dm.all (fun t => decide (t.length ≤ 1000)) = false := by
        rw [List.all_eq_false]
        refine ⟨d, by rw [← hd]; exact getD_mem hkl, by simpa using hc0⟩
      repeat' (first | (show W _ _ _ _ _ _; first | refine wseq ?_ | refine wregion rfl ?_ | refine wcondT rfl rfl ?_ | refine wcondF rfl rfl ?_ | refine wblock ?_ | refine wskip ?_ | refine wexit ?_ | refine wret ?_ | refine wdraw (by kernel_rfl) (by kernel_rfl) ?_) | (show O _ _ _ _ _ _ _; first | (show O _ _ _ _ (⟨_, .store _ _ _, _, _, _, _⟩ :: _) _ _; refine ao_st rfl rfl rfl rfl rfl rfl rfl rfl rfl rfl rfl ?_) | refine onil ?_) | refine dnil ?_ | ((first | apply ao_k | apply ad_k); (· exact rfl); (· exact rfl); (· exact rfl); (· first | (show Y _ ⟨_, .indexAddr _ _ _, _, _, _, _⟩ _ _ _; first | exact Y.mk (ok_indexE (hd) rfl rfl rfl rfl rfl (by omega))) | exact ya)) | refine ogrdN rfl rfl rfl rfl rfl ?_ | refine dgrdN rfl rfl rfl ?_ | ((first | refine wcond rfl rfl (fun hc => ?_) (fun hc => ?_) | refine ogrd rfl rfl rfl rfl rfl (fun hc => ?_) (fun hc => ?_) | refine dgrd rfl rfl rfl (fun hc => ?_) (fun hc => ?_)) <;> (try simp only [KL, cond_true, cond_false, beq_iff_eq, bne_iff_ne, ne_eq, reduceCtorEq] at hc) <;> (try (have hT : True := hc; clear hT hc)) <;> (try (exfalso; omega))) | refine nThen ?_ | refine nIn ?_ | refine eThen ?_ | refine eIn ?_ | refine eInNe rfl ?_ | refine rThen ?_ | refine rIn ?_)
      all_goals first | (exfalso; omega) | exact retq rfl (by rw [hf]; rfl)
  · subst hkl
    rw [List.take_length] at *
    repeat' (first | (show W _ _ _ _ _ _; first | refine wseq ?_ | refine wregion rfl ?_ | refine wcondT rfl rfl ?_ | refine wcondF rfl rfl ?_ | refine wblock ?_ | refine wskip ?_ | refine wexit ?_ | refine wret ?_ | refine wdraw (by kernel_rfl) (by kernel_rfl) ?_) | (show O _ _ _ _ _ _ _; first | (show O _ _ _ _ (⟨_, .store _ _ _, _, _, _, _⟩ :: _) _ _; refine ao_st rfl rfl rfl rfl rfl rfl rfl rfl rfl rfl rfl ?_) | refine onil ?_) | refine dnil ?_ | ((first | apply ao_k | apply ad_k); (· exact rfl); (· exact rfl); (· exact rfl); (· first | exact ya)) | refine ogrdN rfl rfl rfl rfl rfl ?_ | refine dgrdN rfl rfl rfl ?_ | ((first | refine wcond rfl rfl (fun hc => ?_) (fun hc => ?_) | refine ogrd rfl rfl rfl rfl rfl (fun hc => ?_) (fun hc => ?_) | refine dgrd rfl rfl rfl (fun hc => ?_) (fun hc => ?_)) <;> (try simp only [KL, cond_true, cond_false, beq_iff_eq, bne_iff_ne, ne_eq, reduceCtorEq] at hc) <;> (try (have hT : True := hc; clear hT hc)) <;> (try (exfalso; omega))) | refine nThen ?_ | refine nIn ?_ | refine eThen ?_ | refine eIn ?_ | refine eInNe rfl ?_ | refine rThen ?_ | refine rIn ?_)
    all_goals first | (exfalso; omega) | exact retq rfl (by rw [hk2]; rfl)
theorem light30_fn (l : List Task) (lt : List Due) (dm : List (List Int)) (ticks : Int) : Fn Try.prog 32 [.agg [.lst 7 (l.map eTask), .lst 2 (lt.map eDue), .lst 1 (dm.map eLI), .int .i64 ticks]] (.bool (lightB l lt dm 0 && decide (ticks ≤ 500))) := by
  refine fnb Try.func32 (entered_of (by kernel_rfl)) rfl rfl rfl ?_
  have c1 := light29_fn l lt dm 0
  generalize lightB l lt dm 0 = b at *
  cases b
  · repeat' (first | (show W _ _ _ _ _ _; first | refine wseq ?_ | refine wregion rfl ?_ | refine wcondT rfl rfl ?_ | refine wcondF rfl rfl ?_ | refine wblock ?_ | refine wskip ?_ | refine wexit ?_ | refine wret ?_ | refine wdraw (by kernel_rfl) (by kernel_rfl) ?_) | (show O _ _ _ _ _ _ _; first | (show O _ _ _ _ (⟨_, .store _ _ _, _, _, _, _⟩ :: _) _ _; refine ao_st rfl rfl rfl rfl rfl rfl rfl rfl rfl rfl rfl ?_) | refine onil ?_) | refine dnil ?_ | ((first | apply ao_k | apply ad_k); (· exact rfl); (· exact rfl); (· exact rfl); (· first | (show Y _ ⟨_, .call ⟨.value _, _, _⟩, _, _, _, _⟩ _ _ _; first | exact q_c (c1) rfl) | exact ya)) | refine ogrdN rfl rfl rfl rfl rfl ?_ | refine dgrdN rfl rfl rfl ?_ | ((first | refine wcond rfl rfl (fun hc => ?_) (fun hc => ?_) | refine ogrd rfl rfl rfl rfl rfl (fun hc => ?_) (fun hc => ?_) | refine dgrd rfl rfl rfl (fun hc => ?_) (fun hc => ?_)) <;> (try simp only [KL, cond_true, cond_false, beq_iff_eq, bne_iff_ne, ne_eq, reduceCtorEq] at hc) <;> (try (have hT : True := hc; clear hT hc)) <;> (try (exfalso; omega))) | refine nThen ?_ | refine nIn ?_ | refine eThen ?_ | refine eIn ?_ | refine eInNe rfl ?_ | refine rThen ?_ | refine rIn ?_)
    all_goals first | (exfalso; omega) | exact retq rfl rfl
  · repeat' (first | (show W _ _ _ _ _ _; first | refine wseq ?_ | refine wregion rfl ?_ | refine wcondT rfl rfl ?_ | refine wcondF rfl rfl ?_ | refine wblock ?_ | refine wskip ?_ | refine wexit ?_ | refine wret ?_ | refine wdraw (by kernel_rfl) (by kernel_rfl) ?_) | (show O _ _ _ _ _ _ _; first | (show O _ _ _ _ (⟨_, .store _ _ _, _, _, _, _⟩ :: _) _ _; refine ao_st rfl rfl rfl rfl rfl rfl rfl rfl rfl rfl rfl ?_) | refine onil ?_) | refine dnil ?_ | ((first | apply ao_k | apply ad_k); (· exact rfl); (· exact rfl); (· exact rfl); (· first | (show Y _ ⟨_, .call ⟨.value _, _, _⟩, _, _, _, _⟩ _ _ _; first | exact q_c (c1) rfl) | exact ya)) | refine ogrdN rfl rfl rfl rfl rfl ?_ | refine dgrdN rfl rfl rfl ?_ | ((first | refine wcond rfl rfl (fun hc => ?_) (fun hc => ?_) | refine ogrd rfl rfl rfl rfl rfl (fun hc => ?_) (fun hc => ?_) | refine dgrd rfl rfl rfl (fun hc => ?_) (fun hc => ?_)) <;> (try simp only [KL, cond_true, cond_false, beq_iff_eq, bne_iff_ne, ne_eq, reduceCtorEq] at hc) <;> (try (have hT : True := hc; clear hT hc)) <;> (try (exfalso; omega))) | refine nThen ?_ | refine nIn ?_ | refine eThen ?_ | refine eIn ?_ | refine eInNe rfl ?_ | refine rThen ?_ | refine rIn ?_)
    all_goals first | (exfalso; omega) | exact retq rfl rfl
def exL (l : List Task) (k : Int) (more : List Due) : List Due := more.filter fun d => decide (d.task = k) || ahB l k d.task
theorem exL_next (l : List Task) (k : Int) (more : List Due) (i : Nat) (h : i < more.length) : exL l k (more.take (i + 1)) = exL l k (more.take i) ++ (if (decide ((more.getD i default).task = k) || ahB l k (more.getD i default).task) = true then [more.getD i default] else []) := by
  unfold exL
  rw [List.take_succ_eq_append_getElem h, List.filter_append]
  simp [h, List.filter_cons]
set_option maxHeartbeats 4000000 in
theorem abstractAhead_fn (l : List Task) (lt : List Due) (dm : List (List Int)) (ticks : Int) (more : List Due) (k : Int) : Fn Try.prog 9 [.agg [.lst 7 (l.map eTask), .lst 2 (lt.map eDue), .lst 1 (dm.map eLI), .int .i64 ticks], .lst 2 (more.map eDue), .int .i64 k] (.bool true) := by
  have ha := awake30_fn
  have hli := light30_fn l lt dm ticks
  refine fnb Try.func9 (entered_of (by kernel_rfl)) rfl rfl rfl ?_
  by_cases hl : (lightB l lt dm 0 && decide (ticks ≤ 500)) = true
  case neg =>
    rw [Bool.not_eq_true] at hl
    rw [hl] at hli
    repeat' (first | (show W _ _ _ _ _ _; first | refine wseq ?_ | refine wregion rfl ?_ | refine wcondT rfl rfl ?_ | refine wcondF rfl rfl ?_ | refine wblock ?_ | refine wskip ?_ | refine wexit ?_ | refine wret ?_ | refine wdraw (by kernel_rfl) (by kernel_rfl) ?_) | (show O _ _ _ _ _ _ _; first | (show O _ _ _ _ (⟨_, .store _ _ _, _, _, _, _⟩ :: _) _ _; refine ao_st rfl rfl rfl rfl rfl rfl rfl rfl rfl rfl rfl ?_) | refine onil ?_) | refine dnil ?_ | ((first | apply ao_k | apply ad_k); (· exact rfl); (· exact rfl); (· exact rfl); (· first | (show Y _ ⟨_, .call ⟨.value _, _, _⟩, _, _, _, _⟩ _ _ _; first | exact q_c (ha) rfl | exact q_c (hli) rfl) | exact ya)) | refine ogrdN rfl rfl rfl rfl rfl ?_ | refine dgrdN rfl rfl rfl ?_ | ((first | refine wcond rfl rfl (fun hc => ?_) (fun hc => ?_) | refine ogrd rfl rfl rfl rfl rfl (fun hc => ?_) (fun hc => ?_) | refine dgrd rfl rfl rfl (fun hc => ?_) (fun hc => ?_)) <;> (try simp only [KL, cond_true, cond_false, beq_iff_eq, bne_iff_ne, ne_eq, reduceCtorEq] at hc) <;> (try (have hT : True := hc; clear hT hc)) <;> (try (exfalso; omega))) | refine nThen ?_ | refine nIn ?_ | refine eThen ?_ | refine eIn ?_ | refine eInNe rfl ?_ | refine rThen ?_ | refine rIn ?_)
    all_goals first | (exfalso; omega) | exact retq rfl rfl
  rw [hl] at hli
  by_cases h0 : more.length ≤ 200 ∧ 0 ≤ k ∧ k < l.length
  case neg =>
    repeat' (first | (show W _ _ _ _ _ _; first | refine wseq ?_ | refine wregion rfl ?_ | refine wcondT rfl rfl ?_ | refine wcondF rfl rfl ?_ | refine wblock ?_ | refine wskip ?_ | refine wexit ?_ | refine wret ?_ | refine wdraw (by kernel_rfl) (by kernel_rfl) ?_) | (show O _ _ _ _ _ _ _; first | (show O _ _ _ _ (⟨_, .store _ _ _, _, _, _, _⟩ :: _) _ _; refine ao_st rfl rfl rfl rfl rfl rfl rfl rfl rfl rfl rfl ?_) | refine onil ?_) | refine dnil ?_ | ((first | apply ao_k | apply ad_k); (· exact rfl); (· exact rfl); (· exact rfl); (· first | (show Y _ ⟨_, .call ⟨.value _, _, _⟩, _, _, _, _⟩ _ _ _; first | exact q_c (ha) rfl | exact q_c (hli) rfl) | exact ya)) | refine ogrdN rfl rfl rfl rfl rfl ?_ | refine dgrdN rfl rfl rfl ?_ | ((first | refine wcond rfl rfl (fun hc => ?_) (fun hc => ?_) | refine ogrd rfl rfl rfl rfl rfl (fun hc => ?_) (fun hc => ?_) | refine dgrd rfl rfl rfl (fun hc => ?_) (fun hc => ?_)) <;> (try simp only [KL, cond_true, cond_false, beq_iff_eq, bne_iff_ne, ne_eq, reduceCtorEq] at hc) <;> (try (have hT : True := hc; clear hT hc)) <;> (try (exfalso; omega))) | refine nThen ?_ | refine nIn ?_ | refine eThen ?_ | refine eIn ?_ | refine eInNe rfl ?_ | refine rThen ?_ | refine rIn ?_)
    all_goals first | (exfalso; omega) | exact retq rfl rfl
  have hlen : l.length ≤ 20 ∧ lt.length ≤ 200 := by
    simp only [lightB, fewB, Bool.and_eq_true, decide_eq_true_eq] at hl
    omega
  obtain ⟨h1, h2, h3⟩ := h0
  repeat' (first | (show W _ _ _ _ _ _; first | refine wseq ?_ | refine wregion rfl ?_ | refine wcondT rfl rfl ?_ | refine wcondF rfl rfl ?_ | refine wblock ?_ | refine wskip ?_ | refine wexit ?_ | refine wret ?_ | refine wdraw (by kernel_rfl) (by kernel_rfl) ?_) | (show O _ _ _ _ _ _ _; first | (show O _ _ _ _ (⟨_, .store _ _ _, _, _, _, _⟩ :: _) _ _; refine ao_st rfl rfl rfl rfl rfl rfl rfl rfl rfl rfl rfl ?_) | refine onil ?_) | refine dnil ?_ | ((first | apply ao_k | apply ad_k); (· exact rfl); (· exact rfl); (· exact rfl); (· first | (show Y _ ⟨_, .call ⟨.value _, _, _⟩, _, _, _, _⟩ _ _ _; first | exact q_c (ha) rfl | exact q_c (hli) rfl) | exact yag)) | refine ogrdN rfl rfl rfl rfl rfl ?_ | refine dgrdN rfl rfl rfl ?_ | ((first | refine wcond rfl rfl (fun hc => ?_) (fun hc => ?_) | refine ogrd rfl rfl rfl rfl rfl (fun hc => ?_) (fun hc => ?_) | refine dgrd rfl rfl rfl (fun hc => ?_) (fun hc => ?_)) <;> (try simp only [KL, cond_true, cond_false, beq_iff_eq, bne_iff_ne, ne_eq, reduceCtorEq] at hc) <;> (try (have hT : True := hc; clear hT hc)) <;> (try (exfalso; omega))) | refine nThen ?_ | refine nIn ?_ | refine eThen ?_ | refine eIn ?_ | refine eInNe rfl ?_ | refine rThen ?_ | refine rIn ?_)
  all_goals first | (exfalso; omega) | skip
  refine o_blit (f := eDue) (l := []) (id := 12) (sz := 2) rfl rfl rfl rfl rfl rfl rfl rfl rfl rfl rfl rfl rfl rfl ?_
  repeat' (first | (show W _ _ _ _ _ _; first | refine wseq ?_ | refine wregion rfl ?_ | refine wcondT rfl rfl ?_ | refine wcondF rfl rfl ?_ | refine wblock ?_ | refine wskip ?_ | refine wexit ?_ | refine wret ?_ | refine wdraw (by kernel_rfl) (by kernel_rfl) ?_) | (show O _ _ _ _ _ _ _; first | (show O _ _ _ _ (⟨_, .store _ _ _, _, _, _, _⟩ :: _) _ _; refine ao_st rfl rfl rfl rfl rfl rfl rfl rfl rfl rfl rfl ?_) | refine onil ?_) | refine dnil ?_ | ((first | apply ao_k | apply ad_k); (· exact rfl); (· exact rfl); (· exact rfl); (· first | exact yag)) | refine ogrdN rfl rfl rfl rfl rfl ?_ | refine dgrdN rfl rfl rfl ?_ | ((first | refine wcond rfl rfl (fun hc => ?_) (fun hc => ?_) | refine ogrd rfl rfl rfl rfl rfl (fun hc => ?_) (fun hc => ?_) | refine dgrd rfl rfl rfl (fun hc => ?_) (fun hc => ?_)) <;> (try simp only [KL, cond_true, cond_false, beq_iff_eq, bne_iff_ne, ne_eq, reduceCtorEq] at hc) <;> (try (have hT : True := hc; clear hT hc)) <;> (try (exfalso; omega))) | refine nThen ?_ | refine nIn ?_ | refine eThen ?_ | refine eIn ?_ | refine eInNe rfl ?_ | refine rThen ?_ | refine rIn ?_)
  (refine ao_ap (id := 12) (ys := lt) (by_ := 16) rfl rfl rfl rfl rfl rfl rfl rfl rfl rfl (fun _ _ => rfl) ?_ ?_ rfl rfl rfl rfl rfl ?_; (· (first | omega | ((try simp only [List.length_cons, List.length_nil, List.length_append, List.length_map]) <;> omega))); (· (first | omega | ((try simp only [List.length_cons, List.length_nil, List.length_append, List.length_map]) <;> omega))))
  repeat' (first | (show W _ _ _ _ _ _; first | refine wseq ?_ | refine wregion rfl ?_ | refine wcondT rfl rfl ?_ | refine wcondF rfl rfl ?_ | refine wblock ?_ | refine wskip ?_ | refine wexit ?_ | refine wret ?_ | refine wdraw (by kernel_rfl) (by kernel_rfl) ?_) | (show O _ _ _ _ _ _ _; first | (show O _ _ _ _ (⟨_, .store _ _ _, _, _, _, _⟩ :: _) _ _; refine ao_st rfl rfl rfl rfl rfl rfl rfl rfl rfl rfl rfl ?_) | refine onil ?_) | refine dnil ?_ | ((first | apply ao_k | apply ad_k); (· exact rfl); (· exact rfl); (· exact rfl); (· first | exact ya)) | refine ogrdN rfl rfl rfl rfl rfl ?_ | refine dgrdN rfl rfl rfl ?_ | ((first | refine wcond rfl rfl (fun hc => ?_) (fun hc => ?_) | refine ogrd rfl rfl rfl rfl rfl (fun hc => ?_) (fun hc => ?_) | refine dgrd rfl rfl rfl (fun hc => ?_) (fun hc => ?_)) <;> (try simp only [KL, cond_true, cond_false, beq_iff_eq, bne_iff_ne, ne_eq, reduceCtorEq] at hc) <;> (try (have hT : True := hc; clear hT hc)) <;> (try (exfalso; omega))) | refine nThen ?_ | refine nIn ?_ | refine eThen ?_ | refine eIn ?_ | refine eInNe rfl ?_ | refine rThen ?_ | refine rIn ?_)
  rw [List.nil_append]
  refine wloop (fun i : Nat => ([(2, .int .i64 k), (3, .ref [.lst 7 (l.map eTask), .lst 2 (lt.map eDue), .lst 1 (dm.map eLI), .int .i64 ticks]), (7, .own 12), (37, .lst 2 (more.map eDue)), (38, .int .i64 more.length), (39, .int .i64 i)], [(12, .row 41 2 ((lt ++ exL l k (more.take i)).map eDue))])) (fun i => i ≤ more.length) (fun i => more.length - i) 0 (Nat.zero_le _) les (by simp only [List.take_zero, exL, List.filter_nil, List.append_nil]; exact leh) (fun i hi => ?_)
  have hel : (lt ++ exL l k (more.take i)).length ≤ 400 := by
    have := List.length_filter_le (fun d => decide (d.task = k) || ahB l k d.task) (more.take i)
    rw [List.length_take] at this
    rw [List.length_append, exL]; omega
  have hel2 : lt.length + (exL l k (more.take i)).length ≤ 400 := by rw [← List.length_append]; exact hel
  rcases Nat.lt_or_eq_of_le hi with hil | hil
  · have hnx := exL_next l k more i hil
    obtain ⟨d, hd⟩ : ∃ d, more.getD i default = d := ⟨_, rfl⟩
    rw [hd] at hnx
    have c1 := rahead30_fn l k d.task (by omega)
    generalize ahB l k d.task = p at *
    by_cases hdk : d.task = k
    · rw [decide_eq_true hdk, Bool.true_or, if_pos rfl] at hnx
      repeat' (first | (show W _ _ _ _ _ _; first | refine wseq ?_ | refine wregion rfl ?_ | refine wcondT rfl rfl ?_ | refine wcondF rfl rfl ?_ | refine wblock ?_ | refine wskip ?_ | refine wexit ?_ | refine wret ?_ | refine wdraw (by kernel_rfl) (by kernel_rfl) ?_) | (show O _ _ _ _ _ _ _; first | (show O _ _ _ _ (⟨_, .alloc _, _, _, _, _⟩ :: _) _ _; first | refine ao_alloc (id := 13) rfl rfl rfl rfl rfl rfl rfl ?_) | (show O _ _ _ _ (⟨_, .store _ _ _, _, _, _, _⟩ :: _) _ _; refine ao_st rfl rfl rfl rfl rfl rfl rfl rfl rfl rfl rfl ?_) | refine onil ?_) | refine dnil ?_ | ((first | apply ao_k | apply ad_k); (· exact rfl); (· exact rfl); (· exact rfl); (· first | (show Y _ ⟨_, .indexAddr _ _ _, _, _, _, _⟩ _ _ _; first | exact Y.mk (ok_indexE (hd) rfl rfl rfl rfl rfl (by omega))) | (show Y _ ⟨_, .call ⟨.value _, _, _⟩, _, _, _, _⟩ _ _ _; first | exact q_c (c1) rfl) | exact ya)) | refine ogrdN rfl rfl rfl rfl rfl ?_ | refine dgrdN rfl rfl rfl ?_ | ((first | refine wcond rfl rfl (fun hc => ?_) (fun hc => ?_) | refine ogrd rfl rfl rfl rfl rfl (fun hc => ?_) (fun hc => ?_) | refine dgrd rfl rfl rfl (fun hc => ?_) (fun hc => ?_)) <;> (try simp only [KL, cond_true, cond_false, beq_iff_eq, bne_iff_ne, ne_eq, reduceCtorEq] at hc) <;> (try (have hT : True := hc; clear hT hc)) <;> (try (exfalso; omega))) | refine nThen ?_ | refine nIn ?_ | refine eThen ?_ | refine eIn ?_ | refine eInNe rfl ?_ | refine rThen ?_ | refine rIn ?_)
      all_goals first | (exfalso; omega) | skip
      (refine ao_ap (id := 12) (ys := [d]) (by_ := 16) rfl rfl rfl rfl rfl rfl rfl rfl rfl rfl (fun _ _ => rfl) ?_ ?_ rfl rfl rfl rfl rfl ?_; (· (first | omega | ((try simp only [List.length_cons, List.length_nil, List.length_append, List.length_map]) <;> omega))); (· (first | omega | ((try simp only [List.length_cons, List.length_nil, List.length_append, List.length_map]) <;> omega))))
      repeat' (first | (show W _ _ _ _ _ _; first | refine wseq ?_ | refine wregion rfl ?_ | refine wcondT rfl rfl ?_ | refine wcondF rfl rfl ?_ | refine wblock ?_ | refine wskip ?_ | refine wexit ?_ | refine wret ?_ | refine wdraw (by kernel_rfl) (by kernel_rfl) ?_) | (show O _ _ _ _ _ _ _; first | (show O _ _ _ _ (⟨_, .store _ _ _, _, _, _, _⟩ :: _) _ _; refine ao_st rfl rfl rfl rfl rfl rfl rfl rfl rfl rfl rfl ?_) | refine onil ?_) | refine dnil ?_ | ((first | apply ao_k | apply ad_k); (· exact rfl); (· exact rfl); (· exact rfl); (· first | exact ya)) | refine ogrdN rfl rfl rfl rfl rfl ?_ | refine dgrdN rfl rfl rfl ?_ | ((first | refine wcond rfl rfl (fun hc => ?_) (fun hc => ?_) | refine ogrd rfl rfl rfl rfl rfl (fun hc => ?_) (fun hc => ?_) | refine dgrd rfl rfl rfl (fun hc => ?_) (fun hc => ?_)) <;> (try simp only [KL, cond_true, cond_false, beq_iff_eq, bne_iff_ne, ne_eq, reduceCtorEq] at hc) <;> (try (have hT : True := hc; clear hT hc)) <;> (try (exfalso; omega))) | refine nThen ?_ | refine nIn ?_ | refine eThen ?_ | refine eIn ?_ | refine eInNe rfl ?_ | refine rThen ?_ | refine rIn ?_)
      exact ⟨i + 1, by omega, by omega, les, by simp only [hnx, ← List.append_assoc]; exact leh⟩
    · rw [decide_eq_false hdk, Bool.false_or] at hnx
      cases p
      · rw [if_neg Bool.false_ne_true, List.append_nil] at hnx
        repeat' (first | (show W _ _ _ _ _ _; first | refine wseq ?_ | refine wregion rfl ?_ | refine wcondT rfl rfl ?_ | refine wcondF rfl rfl ?_ | refine wblock ?_ | refine wskip ?_ | refine wexit ?_ | refine wret ?_ | refine wdraw (by kernel_rfl) (by kernel_rfl) ?_) | (show O _ _ _ _ _ _ _; first | (show O _ _ _ _ (⟨_, .alloc _, _, _, _, _⟩ :: _) _ _; first | refine ao_alloc (id := 13) rfl rfl rfl rfl rfl rfl rfl ?_) | (show O _ _ _ _ (⟨_, .store _ _ _, _, _, _, _⟩ :: _) _ _; refine ao_st rfl rfl rfl rfl rfl rfl rfl rfl rfl rfl rfl ?_) | refine onil ?_) | refine dnil ?_ | ((first | apply ao_k | apply ad_k); (· exact rfl); (· exact rfl); (· exact rfl); (· first | (show Y _ ⟨_, .indexAddr _ _ _, _, _, _, _⟩ _ _ _; first | exact Y.mk (ok_indexE (hd) rfl rfl rfl rfl rfl (by omega))) | (show Y _ ⟨_, .call ⟨.value _, _, _⟩, _, _, _, _⟩ _ _ _; first | exact q_c (c1) rfl) | exact ya)) | refine ogrdN rfl rfl rfl rfl rfl ?_ | refine dgrdN rfl rfl rfl ?_ | ((first | refine wcond rfl rfl (fun hc => ?_) (fun hc => ?_) | refine ogrd rfl rfl rfl rfl rfl (fun hc => ?_) (fun hc => ?_) | refine dgrd rfl rfl rfl (fun hc => ?_) (fun hc => ?_)) <;> (try simp only [KL, cond_true, cond_false, beq_iff_eq, bne_iff_ne, ne_eq, reduceCtorEq] at hc) <;> (try (have hT : True := hc; clear hT hc)) <;> (try (exfalso; omega))) | refine nThen ?_ | refine nIn ?_ | refine eThen ?_ | refine eIn ?_ | refine eInNe rfl ?_ | refine rThen ?_ | refine rIn ?_)
        all_goals first | (exfalso; omega) | exact ⟨i + 1, by omega, by omega, les, by simp only [hnx]; exact leh⟩
      · rw [if_pos rfl] at hnx
        repeat' (first | (show W _ _ _ _ _ _; first | refine wseq ?_ | refine wregion rfl ?_ | refine wcondT rfl rfl ?_ | refine wcondF rfl rfl ?_ | refine wblock ?_ | refine wskip ?_ | refine wexit ?_ | refine wret ?_ | refine wdraw (by kernel_rfl) (by kernel_rfl) ?_) | (show O _ _ _ _ _ _ _; first | (show O _ _ _ _ (⟨_, .alloc _, _, _, _, _⟩ :: _) _ _; first | refine ao_alloc (id := 13) rfl rfl rfl rfl rfl rfl rfl ?_) | (show O _ _ _ _ (⟨_, .store _ _ _, _, _, _, _⟩ :: _) _ _; refine ao_st rfl rfl rfl rfl rfl rfl rfl rfl rfl rfl rfl ?_) | refine onil ?_) | refine dnil ?_ | ((first | apply ao_k | apply ad_k); (· exact rfl); (· exact rfl); (· exact rfl); (· first | (show Y _ ⟨_, .indexAddr _ _ _, _, _, _, _⟩ _ _ _; first | exact Y.mk (ok_indexE (hd) rfl rfl rfl rfl rfl (by omega))) | (show Y _ ⟨_, .call ⟨.value _, _, _⟩, _, _, _, _⟩ _ _ _; first | exact q_c (c1) rfl) | exact ya)) | refine ogrdN rfl rfl rfl rfl rfl ?_ | refine dgrdN rfl rfl rfl ?_ | ((first | refine wcond rfl rfl (fun hc => ?_) (fun hc => ?_) | refine ogrd rfl rfl rfl rfl rfl (fun hc => ?_) (fun hc => ?_) | refine dgrd rfl rfl rfl (fun hc => ?_) (fun hc => ?_)) <;> (try simp only [KL, cond_true, cond_false, beq_iff_eq, bne_iff_ne, ne_eq, reduceCtorEq] at hc) <;> (try (have hT : True := hc; clear hT hc)) <;> (try (exfalso; omega))) | refine nThen ?_ | refine nIn ?_ | refine eThen ?_ | refine eIn ?_ | refine eInNe rfl ?_ | refine rThen ?_ | refine rIn ?_)
        all_goals first | (exfalso; omega) | skip
        (refine ao_ap (id := 12) (ys := [d]) (by_ := 16) rfl rfl rfl rfl rfl rfl rfl rfl rfl rfl (fun _ _ => rfl) ?_ ?_ rfl rfl rfl rfl rfl ?_; (· (first | omega | ((try simp only [List.length_cons, List.length_nil, List.length_append, List.length_map]) <;> omega))); (· (first | omega | ((try simp only [List.length_cons, List.length_nil, List.length_append, List.length_map]) <;> omega))))
        repeat' (first | (show W _ _ _ _ _ _; first | refine wseq ?_ | refine wregion rfl ?_ | refine wcondT rfl rfl ?_ | refine wcondF rfl rfl ?_ | refine wblock ?_ | refine wskip ?_ | refine wexit ?_ | refine wret ?_ | refine wdraw (by kernel_rfl) (by kernel_rfl) ?_) | (show O _ _ _ _ _ _ _; first | (show O _ _ _ _ (⟨_, .store _ _ _, _, _, _, _⟩ :: _) _ _; refine ao_st rfl rfl rfl rfl rfl rfl rfl rfl rfl rfl rfl ?_) | refine onil ?_) | refine dnil ?_ | ((first | apply ao_k | apply ad_k); (· exact rfl); (· exact rfl); (· exact rfl); (· first | exact ya)) | refine ogrdN rfl rfl rfl rfl rfl ?_ | refine dgrdN rfl rfl rfl ?_ | ((first | refine wcond rfl rfl (fun hc => ?_) (fun hc => ?_) | refine ogrd rfl rfl rfl rfl rfl (fun hc => ?_) (fun hc => ?_) | refine dgrd rfl rfl rfl (fun hc => ?_) (fun hc => ?_)) <;> (try simp only [KL, cond_true, cond_false, beq_iff_eq, bne_iff_ne, ne_eq, reduceCtorEq] at hc) <;> (try (have hT : True := hc; clear hT hc)) <;> (try (exfalso; omega))) | refine nThen ?_ | refine nIn ?_ | refine eThen ?_ | refine eIn ?_ | refine eInNe rfl ?_ | refine rThen ?_ | refine rIn ?_)
        exact ⟨i + 1, by omega, by omega, les, by simp only [hnx, ← List.append_assoc]; exact leh⟩
  subst hil
  rw [List.take_length] at *
  obtain ⟨ex, hexe⟩ : ∃ ex, exL l k more = ex := ⟨_, rfl⟩
  have hex : ∀ d ∈ ex, d.task = k ∨ ahB l k d.task = true := fun d hd => by
    rw [← hexe] at hd
    have := (List.mem_filter.1 hd).2
    simp only [Bool.or_eq_true, decide_eq_true_eq] at this
    exact this
  rw [hexe] at hel ⊢
  have hlaw := fun u => ahead_law l lt ex dm ticks k ⟨h2, h3⟩ hex u
  have c1 := timeline_fn l lt dm ticks (by omega) (by omega)
  have c2 := timeline_fn l (lt ++ ex) dm ticks (by omega) (by omega)
  have la : (layF l lt dm ticks).T.length = ticksN ticks := by rw [layF, layTo_len]; exact List.length_replicate ..
  have lb : (layF l (lt ++ ex) dm ticks).T.length = ticksN ticks := by rw [layF, layTo_len]; exact List.length_replicate ..
  have hN : ticksN ticks ≤ 65536 := by unfold ticksN; omega
  generalize (layF l lt dm ticks).T = A at *
  generalize (layF l (lt ++ ex) dm ticks).T = B at *
  generalize ticksN ticks = N at *
  refine wturn (turn_freeze (t := 7) rfl rfl rfl) ?_
  repeat' (first | (show W _ _ _ _ _ _; first | refine wseq ?_ | refine wregion rfl ?_ | refine wcondT rfl rfl ?_ | refine wcondF rfl rfl ?_ | refine wblock ?_ | refine wskip ?_ | refine wexit ?_ | refine wret ?_ | refine wdraw (by kernel_rfl) (by kernel_rfl) ?_) | (show O _ _ _ _ _ _ _; first | (show O _ _ _ _ (⟨_, .store _ _ _, _, _, _, _⟩ :: _) _ _; refine ao_st rfl rfl rfl rfl rfl rfl rfl rfl rfl rfl rfl ?_) | refine onil ?_) | refine dnil ?_ | ((first | apply ao_k | apply ad_k); (· exact rfl); (· exact rfl); (· exact rfl); (· first | (show Y _ ⟨_, .call ⟨.value _, _, _⟩, _, _, _, _⟩ _ _ _; first | exact q_c (c1) rfl | exact q_c (c2) rfl) | exact ya)) | refine ogrdN rfl rfl rfl rfl rfl ?_ | refine dgrdN rfl rfl rfl ?_ | ((first | refine wcond rfl rfl (fun hc => ?_) (fun hc => ?_) | refine ogrd rfl rfl rfl rfl rfl (fun hc => ?_) (fun hc => ?_) | refine dgrd rfl rfl rfl (fun hc => ?_) (fun hc => ?_)) <;> (try simp only [KL, cond_true, cond_false, beq_iff_eq, bne_iff_ne, ne_eq, reduceCtorEq] at hc) <;> (try (have hT : True := hc; clear hT hc)) <;> (try (exfalso; omega))) | refine nThen ?_ | refine nIn ?_ | refine eThen ?_ | refine eIn ?_ | refine eInNe rfl ?_ | refine rThen ?_ | refine rIn ?_)
  all_goals first | (exfalso; omega) | skip
  refine wloop (fun u : Nat => ([(2, .int .i64 k), (3, .ref [.lst 7 (l.map eTask), .lst 2 (lt.map eDue), .lst 1 (dm.map eLI), .int .i64 ticks]), (10, .lst 1 (A.map eI)), (11, .lst 1 (B.map eI)), (82, .lst 1 (A.map eI)), (83, .int .i64 A.length), (84, .int .i64 u)], [])) (fun u => u ≤ A.length) (fun u => A.length - u) 0 (Nat.zero_le _) les leh (fun u hu => ?_)
  rcases Nat.lt_or_eq_of_le hu with hul | hul
  · obtain ⟨e1, e2⟩ := hlaw u
    obtain ⟨a, hda⟩ : ∃ a, A.getD u default = a := ⟨_, rfl⟩
    obtain ⟨b, hdb⟩ : ∃ b, B.getD u default = b := ⟨_, rfl⟩
    rw [hda] at e1 e2
    rw [hdb] at e1 e2
    have c3 := rahead30_fn l a k (by omega)
    have c4 := rahead30_fn l b k (by omega)
    rw [← e1] at c4
    clear e1 c1 c2 hlaw
    generalize ahB l a k = p at *
    cases p
    · repeat' (first | (show W _ _ _ _ _ _; first | refine wseq ?_ | refine wregion rfl ?_ | refine wcondT rfl rfl ?_ | refine wcondF rfl rfl ?_ | refine wblock ?_ | refine wskip ?_ | refine wexit ?_ | refine wret ?_ | refine wdraw (by kernel_rfl) (by kernel_rfl) ?_) | (show O _ _ _ _ _ _ _; first | (show O _ _ _ _ (⟨_, .store _ _ _, _, _, _, _⟩ :: _) _ _; refine ao_st rfl rfl rfl rfl rfl rfl rfl rfl rfl rfl rfl ?_) | refine onil ?_) | refine dnil ?_ | ((first | apply ao_k | apply ad_k); (· exact rfl); (· exact rfl); (· exact rfl); (· first | (show Y _ ⟨_, .indexAddr _ _ _, _, _, _, _⟩ _ _ _; first | exact Y.mk (ok_indexE (hda) rfl rfl rfl rfl rfl (by omega)) | exact Y.mk (ok_indexE (hdb) rfl rfl rfl rfl rfl (by omega))) | (show Y _ ⟨_, .call ⟨.value _, _, _⟩, _, _, _, _⟩ _ _ _; first | exact q_c (c3) rfl | exact q_c (c4) rfl) | exact ya)) | refine ogrdN rfl rfl rfl rfl rfl ?_ | refine dgrdN rfl rfl rfl ?_ | ((first | refine wcond rfl rfl (fun hc => ?_) (fun hc => ?_) | refine ogrd rfl rfl rfl rfl rfl (fun hc => ?_) (fun hc => ?_) | refine dgrd rfl rfl rfl (fun hc => ?_) (fun hc => ?_)) <;> (try simp only [KL, cond_true, cond_false, beq_iff_eq, bne_iff_ne, ne_eq, reduceCtorEq] at hc) <;> (try (have hT : True := hc; clear hT hc)) <;> (try (exfalso; omega))) | refine nThen ?_ | refine nIn ?_ | refine eThen ?_ | refine eIn ?_ | refine eInNe rfl ?_ | refine rThen ?_ | refine rIn ?_)
      all_goals first | (exfalso; omega) | (exfalso; revert hc; decide) | exact ⟨u + 1, by omega, by omega, les, leh⟩
    · obtain rfl := e2 rfl
      repeat' (first | (show W _ _ _ _ _ _; first | refine wseq ?_ | refine wregion rfl ?_ | refine wcondT rfl rfl ?_ | refine wcondF rfl rfl ?_ | refine wblock ?_ | refine wskip ?_ | refine wexit ?_ | refine wret ?_ | refine wdraw (by kernel_rfl) (by kernel_rfl) ?_) | (show O _ _ _ _ _ _ _; first | (show O _ _ _ _ (⟨_, .store _ _ _, _, _, _, _⟩ :: _) _ _; refine ao_st rfl rfl rfl rfl rfl rfl rfl rfl rfl rfl rfl ?_) | refine onil ?_) | refine dnil ?_ | ((first | apply ao_k | apply ad_k); (· exact rfl); (· exact rfl); (· exact rfl); (· first | (show Y _ ⟨_, .indexAddr _ _ _, _, _, _, _⟩ _ _ _; first | exact Y.mk (ok_indexE (hda) rfl rfl rfl rfl rfl (by omega)) | exact Y.mk (ok_indexE (hdb) rfl rfl rfl rfl rfl (by omega))) | (show Y _ ⟨_, .call ⟨.value _, _, _⟩, _, _, _, _⟩ _ _ _; first | exact q_c (c3) rfl | exact q_c (c4) rfl) | exact ya)) | refine ogrdN rfl rfl rfl rfl rfl ?_ | refine dgrdN rfl rfl rfl ?_ | ((first | refine wcond rfl rfl (fun hc => ?_) (fun hc => ?_) | refine ogrd rfl rfl rfl rfl rfl (fun hc => ?_) (fun hc => ?_) | refine dgrd rfl rfl rfl (fun hc => ?_) (fun hc => ?_)) <;> (try simp only [KL, cond_true, cond_false, beq_iff_eq, bne_iff_ne, ne_eq, reduceCtorEq] at hc) <;> (try (have hT : True := hc; clear hT hc)) <;> (try (exfalso; omega))) | refine nThen ?_ | refine nIn ?_ | refine eThen ?_ | refine eIn ?_ | refine eInNe rfl ?_ | refine rThen ?_ | refine rIn ?_)
      all_goals first | (exfalso; omega) | (exfalso; revert hc; decide) | exact ⟨u + 1, by omega, by omega, les, leh⟩
  · subst hul
    repeat' (first | (show W _ _ _ _ _ _; first | refine wseq ?_ | refine wregion rfl ?_ | refine wcondT rfl rfl ?_ | refine wcondF rfl rfl ?_ | refine wblock ?_ | refine wskip ?_ | refine wexit ?_ | refine wret ?_ | refine wdraw (by kernel_rfl) (by kernel_rfl) ?_) | (show O _ _ _ _ _ _ _; first | (show O _ _ _ _ (⟨_, .store _ _ _, _, _, _, _⟩ :: _) _ _; refine ao_st rfl rfl rfl rfl rfl rfl rfl rfl rfl rfl rfl ?_) | refine onil ?_) | refine dnil ?_ | ((first | apply ao_k | apply ad_k); (· exact rfl); (· exact rfl); (· exact rfl); (· first | (show Y _ ⟨_, .call ⟨.value _, _, _⟩, _, _, _, _⟩ _ _ _; first | exact q_c (ha) rfl) | exact ya)) | refine ogrdN rfl rfl rfl rfl rfl ?_ | refine dgrdN rfl rfl rfl ?_ | ((first | refine wcond rfl rfl (fun hc => ?_) (fun hc => ?_) | refine ogrd rfl rfl rfl rfl rfl (fun hc => ?_) (fun hc => ?_) | refine dgrd rfl rfl rfl (fun hc => ?_) (fun hc => ?_)) <;> (try simp only [KL, cond_true, cond_false, beq_iff_eq, bne_iff_ne, ne_eq, reduceCtorEq] at hc) <;> (try (have hT : True := hc; clear hT hc)) <;> (try (exfalso; omega))) | refine nThen ?_ | refine nIn ?_ | refine eThen ?_ | refine eIn ?_ | refine eInNe rfl ?_ | refine rThen ?_ | refine rIn ?_)
    all_goals first | (exfalso; omega) | exact retq rfl rfl
end Go.Proofs.Ytfjoaeghnfkdlaa
