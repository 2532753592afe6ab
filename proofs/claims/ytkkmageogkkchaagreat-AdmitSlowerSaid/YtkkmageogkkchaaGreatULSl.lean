/- What is admitted is admitted with longer periods, too: the statement AdmitSlower. No condition. -/
import Derived.Test.YtkkmageogkkchaaGreatULX
import Derived.Test.YtkkmageogkkchaaGreatULA3
set_option linter.unusedSimpArgs false
set_option linter.unusedVariables false
set_option maxHeartbeats 1000000
namespace Go.Proofs.YtkkmageogkkchaaGreat
set_option maxRecDepth 100000
set_option maxRecDepth 100000
open Go.RowKit
def setPer (t : Task) (p : Int) : Task := ⟨t.kind, t.prio, p, t.offset, t.deadline, t.own, t.code⟩
structure Slow (S S' : System) : Prop where
  len : S'.tasks.length = S.tasks.length
  obj : S'.objects = S.objects
  at_ : ∀ j, ∃ p, S'.tasks.getD j default = setPer (S.tasks.getD j default) p ∧ (p = (S.tasks.getD j default).period ∨ 1 ≤ (S.tasks.getD j default).period ∧ (S.tasks.getD j default).period ≤ p ∧ p ≤ 1048576)
section
variable {S S' : System}
theorem Slow.code (q : Slow S S') (j : Nat) : (S'.tasks.getD j default).code = (S.tasks.getD j default).code := by obtain ⟨p, h, _⟩ := q.at_ j; rw [h]; rfl
theorem Slow.prio (q : Slow S S') (j : Nat) : (S'.tasks.getD j default).prio = (S.tasks.getD j default).prio := by obtain ⟨p, h, _⟩ := q.at_ j; rw [h]; rfl
theorem Slow.own (q : Slow S S') (j : Nat) : (S'.tasks.getD j default).own = (S.tasks.getD j default).own := by obtain ⟨p, h, _⟩ := q.at_ j; rw [h]; rfl
theorem Slow.dl (q : Slow S S') (j : Nat) : (S'.tasks.getD j default).deadline = (S.tasks.getD j default).deadline := by obtain ⟨p, h, _⟩ := q.at_ j; rw [h]; rfl
theorem Slow.per (q : Slow S S') (j : Nat) : (S'.tasks.getD j default).period = (S.tasks.getD j default).period ∨ 1 ≤ (S.tasks.getD j default).period ∧ (S.tasks.getD j default).period ≤ (S'.tasks.getD j default).period ∧ (S'.tasks.getD j default).period ≤ 1048576 := by
  obtain ⟨p, h, h2⟩ := q.at_ j; rw [h]; exact h2
theorem Slow.ok (q : Slow S S') (h : OkS S) : OkS S' :=
  ⟨by rw [q.len]; exact h.tl, by rw [q.obj]; exact h.ol, fun j => by rw [q.code]; exact h.cl j, fun k => by rw [q.obj]; exact h.il k, fun k => by rw [q.obj]; exact h.rl k, fun j i => by rw [q.code]; exact h.n j i, fun k => by rw [q.obj]; exact h.sl k⟩
theorem Slow.map (q : Slow S S') {α : Type} (g : Task → α) (hg : ∀ j, g (S'.tasks.getD j default) = g (S.tasks.getD j default)) : S'.tasks.map g = S.tasks.map g := by
  refine List.ext_getElem (by rw [List.length_map, List.length_map, q.len]) fun j h1 h2 => ?_
  rw [List.length_map] at h1 h2
  have := hg j
  simpa [h1, h2] using this
theorem tasksF_of : ∀ (m : Nat) (l : List Task), (∀ t ∈ l, (faultF t).2 = 0) → (tasksF m l).2.2 = 0
  | _, [], _ => rfl
  | m, t :: l, h => by
    rw [tasksF, if_pos (h t List.mem_cons_self)]
    exact tasksF_of _ l fun x hx => h x (List.mem_cons_of_mem _ hx)
theorem fault_slow {t : Task} {p : Int} (h : (faultF t).2 = 0) (hp : p = t.period ∨ 1 ≤ t.period ∧ t.period ≤ p ∧ p ≤ 1048576) : (faultF (setPer t p)).2 = 0 := by
  obtain ⟨h1, h2⟩ := fault_0 h
  rw [plainB, decide_eq_true_eq] at h1
  have h3 : plainB (setPer t p) = true := by
    rw [plainB, decide_eq_true_eq]
    simp only [setPer]
    omega
  have h4 : (checkF (setPer t p).code).2 = 0 := h2
  rw [faultF, if_pos h3, if_pos h4]
theorem codeF_at (S : System) : ∀ (i : Nat) (l : List Task), (codeF S i l).2.2.2 = 0 → ∀ j, j < l.length → (codeR S (i + j) 0 (l.getD j default).code).2.2.2 = 0
  | _, [], _ => fun j hj => by simp at hj
  | i, t :: l, h => by
    rw [codeF] at h
    by_cases h1 : (codeR S i 0 t.code).2.2.2 = 0
    · rw [if_pos h1] at h
      intro j hj
      cases j with
      | zero => exact h1
      | succ j =>
        have := codeF_at S (i + 1) l h j (by simpa using hj)
        rw [show i + (j + 1) = i + 1 + j from by omega]
        simpa using this
    · rw [if_neg h1] at h; exact absurd h h1
theorem codeF_of (S : System) : ∀ (i : Nat) (l : List Task), (∀ j, j < l.length → (codeR S (i + j) 0 (l.getD j default).code).2.2.2 = 0) → (codeF S i l).2.2.2 = 0
  | _, [], _ => rfl
  | i, t :: l, h => by
    have h0 : (YtkkmageogkkchaaGreat.codeR S i 0 t.code).2.2.2 = 0 := h 0 (by simp)
    rw [codeF, if_pos h0]
    refine codeF_of S (i + 1) l fun j hj => ?_
    have := h (j + 1) (by simpa using hj)
    rw [show i + (j + 1) = i + 1 + j from by omega] at this
    simpa using this
theorem Slow.role (q : Slow S S') (i k : Int) : roleI S' i k = roleI S i k := by rw [roleI, roleI, q.len, objD, q.obj]
theorem Slow.callE (q : Slow S S') (i : Nat) (c : Instr) : callE S' i c = YtkkmageogkkchaaGreat.callE S i c := by
  rw [YtkkmageogkkchaaGreat.callE, YtkkmageogkkchaaGreat.callE, q.obj, q.role, q.own]
theorem Slow.codeR (q : Slow S S') (i : Nat) : ∀ (m : Nat) (l : List Instr), codeR S' i m l = YtkkmageogkkchaaGreat.codeR S i m l
  | _, [] => rfl
  | m, c :: l => by rw [YtkkmageogkkchaaGreat.codeR, YtkkmageogkkchaaGreat.codeR, q.callE, q.codeR i (m + 1) l]
theorem Slow.sys (q : Slow S S') (h : (sysF S).2.2.2 = 0) : (sysF S').2.2.2 = 0 := by
  obtain ⟨h1, h2, h3, h4, h5⟩ := sys_ok h
  have hl := q.len
  have e0 : ¬ (S'.tasks.length = 0 ∨ 8 < S'.tasks.length ∨ 8 < S'.objects.length) := by rw [q.len, q.obj]; omega
  have e1 : (tasksF 0 S'.tasks).2.2 = 0 := tasksF_of _ _ fun t ht => by
    obtain ⟨j, hj, rfl⟩ := List.getElem_of_mem ht
    obtain ⟨p, hp, hp2⟩ := q.at_ j
    have hx : S'.tasks[j] = setPer (S.tasks.getD j default) p := by rw [← hp]; simp [hj]
    rw [hx]
    exact fault_slow (tasksF_all 0 _ h2 _ (getD_mem (by omega))) hp2
  have e2 : (objF S').2.2 = 0 := by
    have : objF S' = objF S := by rw [objF, objF, q.obj, q.len]
    rw [this]; exact h3
  have e3 : (codeF S' 0 S'.tasks).2.2.2 = 0 := codeF_of _ _ _ fun j hj => by
    rw [q.codeR, q.code]
    exact codeF_at S 0 _ h4 j (by omega)
  have e4 : layE S' = 0 := by
    have hm := q.map (fun t => t.own) q.own
    have hL : lensL S' = lensL S := by rw [lensL, lensL, hm, q.obj]
    have hall : ∀ l : List Task, l.all (fun t => decide (1 ≤ t.own ∧ t.own ≤ 64)) = (l.map (fun t => t.own)).all (fun x => decide (1 ≤ x ∧ x ≤ 64)) := fun l => by rw [List.all_map]; rfl
    have hB : lensB S' = lensB S := by rw [lensB, lensB, hall, hall, hm, q.obj]
    rw [layE, hB, hL]
    exact h5
  rw [sys_lay e0 e1 e2 e3]
  exact e4
theorem Slow.count (q : Slow S S') (i k : Int) (wr : Bool) : countI S' i k wr = countI S i k wr := by
  rw [countI, countI, q.len, q.obj, q.code]
theorem Slow.ahead (q : Slow S S') (a b : Int) : aheadB S'.tasks a b = aheadB S.tasks a b := by
  rw [aheadB, aheadB, q.len, prioAt, prioAt, prioAt, prioAt, q.prio, q.prio]
theorem Slow.reads (q : Slow S S') (i k : Int) : readsB S' i k = readsB S i k := by rw [readsB, readsB, q.role, q.count]
theorem Slow.aheadO (q : Slow S S') (i k : Int) : aheadO S' i k = YtkkmageogkkchaaGreat.aheadO S i k := by
  rw [YtkkmageogkkchaaGreat.aheadO, YtkkmageogkkchaaGreat.aheadO, q.ahead, objD, objD, q.obj]
theorem Slow.hope (q : Slow S S') (i k : Int) : hopeB S' i k = hopeB S i k := by
  rw [hopeB, hopeB, q.reads, q.aheadO, objD, objD, q.obj]
theorem Slow.hopeV (q : Slow S S') : hopeV S' = YtkkmageogkkchaaGreat.hopeV S := by
  have e : ∀ i, hopeK S' i = hopeK S i := fun i => by
    rw [hopeK, hopeK, q.obj]
    congr 1
    funext k
    exact q.hope _ _
  have e2 : hopeT S' = hopeT S := by
    rw [hopeT, hopeT, q.len]
    congr 1
    funext i
    rw [e]
  rw [YtkkmageogkkchaaGreat.hopeV, YtkkmageogkkchaaGreat.hopeV, e2]
  cases hopeT S with
  | none => rfl
  | some i => simp only [e]
theorem ceil_anti {b b' : Int} (a : Int) (h : b' = b ∨ 1 ≤ b ∧ b ≤ b') : ceilI a b' ≤ ceilI a b := by
  rcases h with rfl | ⟨h1, h2⟩
  · exact Int.le_refl _
  unfold ceilI
  by_cases h3 : a < 1
  · rw [if_pos (.inl h3), if_pos (.inl h3)]; exact Int.le_refl _
  rw [if_neg (by omega), if_neg (by omega)]
  have q1 : 0 ≤ (a - 1) / b' := Int.ediv_nonneg (by omega) (by omega)
  have q2 : (a - 1) / b' * b' ≤ a - 1 := Int.ediv_mul_le _ (by omega)
  have q3 : (a - 1) / b' * b ≤ (a - 1) / b' * b' := Int.mul_le_mul_of_nonneg_left h2 q1
  have q4 : (a - 1) / b' ≤ (a - 1) / b := (Int.le_ediv_iff_mul_le (by omega)).2 (by omega)
  omega
theorem Slow.ceil (q : Slow S S') (r : Int) (j : Nat) : ceilI r (S'.tasks.getD j default).period ≤ ceilI r (S.tasks.getD j default).period :=
  ceil_anti r (by rcases q.per j with h | h; exact .inl h; exact .inr ⟨h.1, h.2.1⟩)
theorem Slow.writes (q : Slow S S') (i k r : Int) : writesI S' i k r ≤ writesI S i k r := by
  rw [writesI, writesI, q.reads, q.aheadO]
  split
  · rw [objD, objD, q.obj, q.count, tskD, tskD]
    exact mul_mono (q.ceil r _) (Int.le_refl _)
  · exact Int.le_refl _
theorem Slow.fails (q : Slow S S') (i k r : Int) : failsI S' i k r ≤ failsI S i k r := by
  rw [failsI, failsI]
  have e : objD S' k = objD S k := by rw [objD, objD, q.obj]
  rw [e]
  exact failsO_mono _ (writes_B S' i k r).1 (q.writes i k r)
theorem Slow.dem (q : Slow S S') (i n : Int) : demI S' i n = demI S i n := by rw [demI, demI, q.len, q.code, q.obj]
theorem Slow.jobTo (q : Slow S S') (i r : Int) : ∀ m, jobTo S' i r m ≤ YtkkmageogkkchaaGreat.jobTo S i r m
  | 0 => by rw [YtkkmageogkkchaaGreat.jobTo, YtkkmageogkkchaaGreat.jobTo, q.dem]; exact Int.le_refl _
  | m + 1 => by
    rw [YtkkmageogkkchaaGreat.jobTo, YtkkmageogkkchaaGreat.jobTo, q.obj]
    exact add_mono (q.jobTo i r m) (mul_mono (q.fails i m r) (Int.le_refl _))
theorem Slow.job (q : Slow S S') (i r : Int) : jobI S' i r ≤ jobI S i r := by
  rw [jobI, jobI, q.dem, q.obj]
  split
  · exact Int.le_refl _
  · exact q.jobTo i r _
theorem Slow.load (q : Slow S S') (i r : Int) {c c' : List Int} (hc : ∀ j : Nat, c'.getD j 0 ≤ c.getD j 0) : loadI S' i r c' ≤ loadI S i r c := by
  have key : ∀ m, loadTo S' i r c' m ≤ loadTo S i r c m := by
    intro m
    induction m with
    | zero => exact q.job i r
    | succ m ih =>
      rw [loadTo, loadTo, q.ahead]
      split
      · exact add_mono ih (mul_mono (q.ceil r m) (hc _))
      · exact ih
  rw [loadI, loadI, q.len]
  split
  · exact Int.le_refl _
  · exact key _
theorem Slow.pick (q : Slow S S') (m : Nat) : pickI S' m = pickI S m := by
  have e : priosL S'.tasks = priosL S.tasks := q.map (fun t => t.prio) q.prio
  rw [pickI, pickI, e, q.len]
theorem set_le {l l' : List Int} {p : Nat} {r r' : Int} (hl : l.length = l'.length) (h : ∀ j : Nat, l'.getD j 0 ≤ l.getD j 0) (hr : r' ≤ r) (j : Nat) : (l'.set p r').getD j 0 ≤ (l.set p r).getD j 0 := by
  have := h j
  rw [List.getD_eq_getElem?_getD, List.getD_eq_getElem?_getD] at this ⊢
  rw [List.getElem?_set, List.getElem?_set]
  by_cases e : p = j
  · subst e
    rw [if_pos rfl, if_pos rfl, hl]
    split
    · exact hr
    · exact Int.le_refl _
  · rw [if_neg e, if_neg e]; exact this
theorem Slow.resp (q : Slow S S') (h : OkS S) {p : Int} (hp : 0 ≤ p ∧ p < S.tasks.length) (hd : (tskD S p).deadline ≤ 400) {c c' : List Int} (hc : ∀ j : Nat, c'.getD j 0 ≤ c.getD j 0) (he : (respI S p c).2 = 0) : (respI S' p c').2 = 0 ∧ (respI S' p c').1 ≤ (respI S p c).1 := by
  have e1 : respI S p c = iterF (fun r => loadI S p r c) (tskD S p).deadline (9999 + 2) 1 := by rw [respI, if_neg (by omega), respTo_iter]
  have e2 : respI S' p c' = iterF (fun r => loadI S' p r c') (tskD S p).deadline (9999 + 2) 1 := by
    have : (tskD S' p).deadline = (tskD S p).deadline := q.dl _
    rw [respI, if_neg (by rw [q.len]; omega), respTo_iter, this]
  have := iter_more (f := fun r => loadI S' p r c') (g := fun r => loadI S p r c) (D := (tskD S p).deadline) (n := 9999) (fun a b h => load_mono S' p c' h) (fun a b h => load_mono S p c h)
    (fun a => (load_B (q.ok h) p a c').1) (fun a => (load_B h p a c).1) (fun a => q.load p a hc) (by omega) (by rw [← e1]; exact he)
  rw [← e1, ← e2] at this
  exact this
theorem Slow.all (q : Slow S S') (h : OkS S) (hd : ∀ j : Nat, (S.tasks.getD j default).deadline ≤ 400) : ∀ m, m ≤ S.tasks.length → (allN S m).e = 0 → (allN S' m).e = 0 ∧ (∀ j : Nat, (allN S' m).R.getD j 0 ≤ (allN S m).R.getD j 0) ∧ ∀ j : Nat, (allN S' m).C.getD j 0 ≤ (allN S m).C.getD j 0
  | 0, _, _ => by
    refine ⟨rfl, fun j => ?_, fun j => ?_⟩ <;> rw [allN, allN, q.len] <;> exact Int.le_refl _
  | m + 1, hm, he => by
    have ok1 := allN_ok S m
    have ok2 := allN_ok S' m
    rw [allN] at he
    by_cases h1 : (allN S m).e = 0
    case neg => rw [if_pos h1] at he; exact absurd he h1
    obtain ⟨i1, i2, i3⟩ := q.all h hd m (by omega) h1
    obtain ⟨l1, l2, _⟩ := ok1 h1
    obtain ⟨l3, l4, _⟩ := ok2 i1
    rw [if_neg (by simpa using h1), allS] at he
    by_cases h2 : (respI S (pickI S m) (allN S m).C).2 = 0
    case neg => rw [if_pos h2] at he; exact absurd he h2
    have hb := pick_B S (m := m) (by omega)
    obtain ⟨r1, r2⟩ := q.resp h hb (hd _) i3 h2
    rw [allN, allN, if_neg (by simpa using i1), if_neg (by simpa using h1), allS, allS, q.pick, if_neg (by simpa using r1), if_neg (by simpa using h2)]
    refine ⟨rfl, fun j => ?_, fun j => ?_⟩
    · exact set_le (by rw [l1, l3, q.len]) i2 r2 j
    · exact set_le (by rw [l2, l4, q.len]) i3 (Int.le_trans (q.job _ _) (job_mono S _ r2)) j
theorem rvR_of (S : System) (R : List Int) (o : Object) (k : Nat) : ∀ l, (∀ i ∈ l, spoilO S o i k (R.getD i.toNat default) = 0) → (rvR S R o k l).1 = 0
  | [], _ => rfl
  | a :: l, h => by
    rw [rvR, if_pos (h a List.mem_cons_self)]
    exact rvR_of S R o k l fun i hi => h i (List.mem_cons_of_mem _ hi)
theorem rvO_of (S : System) (R : List Int) : ∀ (m : Nat) (l : List Object), (∀ j, j < l.length → (rvR S R (l.getD j default) (m + j) (l.getD j default).readers).1 = 0) → (rvO S R m l).1 = 0
  | _, [], _ => rfl
  | m, o :: l, h => by
    have h0 : (rvR S R o m o.readers).1 = 0 := h 0 (by simp)
    rw [rvO, if_pos h0]
    refine rvO_of S R (m + 1) l fun j hj => ?_
    have := h (j + 1) (by simpa using hj)
    rw [show m + (j + 1) = m + 1 + j from by omega] at this
    simpa using this
theorem Slow.spoil (q : Slow S S') (o : Object) (i k : Int) {r r' : Int} (hr : r' ≤ r) (h : spoilO S o i k r = 0) : spoilO S' o i k r' = 0 := by
  have h1 : writesI S' i k r' ≤ writesI S i k r := Int.le_trans (q.writes i k r') (writes_mono S i k hr)
  have h2 : failsI S' i k r' ≤ failsI S i k r := Int.le_trans (q.fails i k r') (fails_mono S i k hr)
  rw [spoilO] at h ⊢
  by_cases e4 : o.kind = 4
  · rw [if_pos e4] at h ⊢
    by_cases e5 : o.slots < 2 + writesI S i k r
    · rw [if_pos e5] at h; simp at h
    · rw [if_neg (by omega)]
  rw [if_neg e4] at h ⊢
  by_cases e3 : o.kind = 3 ∨ o.kind = 5
  · rw [if_pos e3] at h ⊢
    by_cases e5 : o.cap ≤ failsI S i k r
    · rw [if_pos e5] at h; simp at h
    · rw [if_neg (by omega)]
  · rw [if_neg e3]
theorem Slow.verd (q : Slow S S') (h : OkS S) (hd : ∀ j : Nat, (S.tasks.getD j default).deadline ≤ 400) (hv : (verd S).e = 0) : (YtkkmageogkkchaaGreat.verd S').e = 0 := by
  obtain ⟨k1, k2, k3, k4⟩ := verd_ok hv
  have hh : (YtkkmageogkkchaaGreat.hopeV S).2.2 = false := by
    cases hx : (YtkkmageogkkchaaGreat.hopeV S).2.2
    · rfl
    · rw [YtkkmageogkkchaaGreat.verd, if_neg (by simpa using k1), if_pos hx] at hv; simp at hv
  obtain ⟨a1, a2, a3⟩ := q.all h hd S.tasks.length (Nat.le_refl _) k2
  have a1' : (allI S').e = 0 := by rw [allI, q.len]; exact a1
  have hR : ∀ j : Nat, (allI S').R.getD j 0 ≤ (allI S).R.getD j 0 := fun j => by rw [allI, allI, q.len]; exact a2 j
  have hrv : (rvO S' (allI S').R 0 S'.objects).1 = 0 := rvO_of _ _ _ _ fun j hj => rvR_of _ _ _ _ _ fun i hi => by
    rw [q.obj] at hj hi ⊢
    have := rvR_all S (allI S).R _ _ _ (rvO_all S (allI S).R 0 S.objects k3 j hj) i hi
    exact q.spoil _ _ _ (hR i.toNat) this
  have hs := q.sys k1
  rw [YtkkmageogkkchaaGreat.verd, if_neg (by simpa using hs), if_neg (by rw [q.hopeV, hh]; simp), if_neg (by simpa using a1'), if_neg (by simpa using hrv)]
end
theorem slow_set (ts : List Task) (os : List Object) (i : Nat) (hi : i < ts.length) (hp : (ts.getD i default).period < 1048576) (hp1 : 1 ≤ (ts.getD i default).period) : Slow ⟨ts, os⟩ ⟨ts.set i (setPer (ts.getD i default) ((ts.getD i default).period + 1)), os⟩ := by
  refine ⟨by simp, rfl, fun j => ?_⟩
  dsimp only
  by_cases e : i = j
  · subst e
    refine ⟨(ts.getD i default).period + 1, ?_, .inr ⟨hp1, by omega, by omega⟩⟩
    rw [List.getD_eq_getElem?_getD, List.getElem?_set, if_pos rfl, if_pos hi]; rfl
  · refine ⟨(ts.getD j default).period, ?_, .inl rfl⟩
    rw [List.getD_eq_getElem?_getD, List.getElem?_set, if_neg e, ← List.getD_eq_getElem?_getD]; rfl
set_option maxHeartbeats 4000000 in
theorem admitSlower_fn (S : System) (i : Int) : Fn Tryz.prog 11 [.agg (eSystem S), .int .i64 i] (.bool true) := by
  have c0 := awake40_fn
  have c1 := few31_fn S 20 (by omega)
  refine fnb Tryz.func11 (entered_of (by kernel_rfl)) rfl rfl rfl ?_
  refine wsys 0 rfl (fun hn => ?_)
  cases hf : fewS S 20
  case false =>
    rw [hf] at c1
    repeat' (first | refine sA ?_ | ((first | apply kM | apply kN); (iterate 3 (· exact rfl)); (· first | exact ya | exact q_c (c0) rfl | exact q_c (c1) rfl)) | refine sG ?_ | (refine sK ?_ ?_ <;> intro hc <;> (try simp only [KL, sL, reduceCtorEq] at hc) <;> (try (exfalso; omega))))
    all_goals exact retq rfl rfl
  have h := fewS_ok (by omega) hf hn
  have h1 := h.tl
  rw [hf] at c1
  by_cases hi : i < 0 ∨ (S.tasks.length : Int) ≤ i
  · repeat' (first | refine sA ?_ | ((first | apply kM | apply kN); (iterate 3 (· exact rfl)); (· first | exact ya | exact q_c (c0) rfl | exact q_c (c1) rfl)) | refine sG ?_ | (refine sK ?_ ?_ <;> intro hc <;> (try simp only [KL, sL, reduceCtorEq] at hc) <;> (try (exfalso; omega))))
    all_goals first | (exfalso; omega) | exact retq rfl rfl
  obtain ⟨p, rfl⟩ : ∃ p : Nat, i = p := ⟨i.toNat, by omega⟩
  obtain ⟨t, ht⟩ : ∃ t, S.tasks.getD p default = t := ⟨_, rfl⟩
  by_cases hp : 1048576 ≤ t.period
  · repeat' (first | refine sA ?_ | ((first | apply kM | apply kN); (iterate 3 (· exact rfl)); (· first | (show Y _ ⟨_, .indexAddr _ _ _, _, _, _, _⟩ _ _ _; first | exact Y.mk (ok_indexE (ht) rfl rfl rfl rfl rfl (by omega))) | exact ya | exact q_c (c0) rfl | exact q_c (c1) rfl)) | refine sG ?_ | (refine sK ?_ ?_ <;> intro hc <;> (try simp only [KL, sL, reduceCtorEq] at hc) <;> (try (exfalso; omega))))
    all_goals first | (exfalso; omega) | exact retq rfl rfl
  repeat' (first | refine sA ?_ | ((first | apply kM | apply kN); (iterate 3 (· exact rfl)); (· first | (show Y _ ⟨_, .indexAddr _ _ _, _, _, _, _⟩ _ _ _; first | exact Y.mk (ok_indexE (ht) rfl rfl rfl rfl rfl (by omega))) | exact ya | exact q_c (c0) rfl | exact q_c (c1) rfl)) | refine sG ?_ | (refine sK ?_ ?_ <;> intro hc <;> (try simp only [KL, sL, reduceCtorEq] at hc) <;> (try (exfalso; omega))))
  all_goals first | (exfalso; omega) | skip
  refine wloop (fun m : Nat => ([(1, .int .i64 p), (2, .ref (eSystem S)), (33, .lst 7 (S.tasks.map eTask)), (34, .int .i64 S.tasks.length), (35, .int .i64 m)], [])) (fun m => m ≤ S.tasks.length ∧ ∀ j, j < m → (S.tasks.getD j default).deadline ≤ 400) (fun m => S.tasks.length - m) 0 ⟨Nat.zero_le _, fun j hj => by omega⟩ les leh (fun m hm => ?_)
  obtain ⟨hm, hd⟩ := hm
  rcases Nat.lt_or_eq_of_le hm with hml | hml
  · obtain ⟨u, hu⟩ : ∃ u, S.tasks.getD m default = u := ⟨_, rfl⟩
    repeat' (first | refine sA ?_ | (show O _ _ _ _ _ _ _; first | refine ao_alloc (id := 10) rfl rfl rfl rfl rfl rfl rfl ?_) | ((first | apply kM | apply kN); (iterate 3 (· exact rfl)); (· first | (show Y _ ⟨_, .indexAddr _ _ _, _, _, _, _⟩ _ _ _; first | exact Y.mk (ok_indexE (hu) rfl rfl rfl rfl rfl (by omega))) | exact ya | exact q_c (c0) rfl)) | refine sG ?_ | (refine sK ?_ ?_ <;> intro hc <;> (try simp only [KL, sL, reduceCtorEq] at hc) <;> (try (exfalso; omega))))
    all_goals first | (exfalso; omega) | exact retq rfl rfl | skip
    refine ⟨m + 1, ⟨by omega, fun j hj => ?_⟩, by omega, les, leh⟩
    by_cases e : j = m
    · subst e; rw [hu]; omega
    · exact hd j (by omega)
  subst hml
  have hdl : ∀ j : Nat, (S.tasks.getD j default).deadline ≤ 400 := fun j => by
    by_cases hj : j < S.tasks.length
    · exact hd j hj
    · rw [List.getD_eq_getElem?_getD, List.getElem?_eq_none (by omega)]; decide
  obtain ⟨ts, os⟩ := S
  dsimp only at h1 hdl hd hi ht
  obtain ⟨S', hS'⟩ : ∃ S' : System, S' = ⟨ts.set p (setPer (ts.getD p default) ((ts.getD p default).period + 1)), os⟩ := ⟨_, rfl⟩
  have h' : OkS S' := by
    have hat : ∀ j, (S'.tasks.getD j default).code = (ts.getD j default).code := fun j => by
      rw [hS']
      show ((ts.set p _).getD j default).code = _
      rw [List.getD_eq_getElem?_getD, List.getElem?_set]
      by_cases e : p = j
      · subst e
        rw [if_pos rfl, if_pos (by omega)]; rfl
      · rw [if_neg e, ← List.getD_eq_getElem?_getD]
    refine ⟨by rw [hS']; simpa using h.tl, by rw [hS']; exact h.ol, fun j => by rw [hat]; exact h.cl j, fun k => by rw [hS']; exact h.il k, fun k => by rw [hS']; exact h.rl k, fun j n => by rw [hat]; exact h.n j n, fun k => by rw [hS']; exact h.sl k⟩
  have c2 := admits_fn ⟨ts, os⟩ h
  have c3 := admits_fn S' h'
  have himp : (verd ⟨ts, os⟩).e = 0 → (verd S').e = 0 := fun hv => by
    have hs := verd_ok hv
    have hpl := (fault_0 (tasksF_all 0 ts (sys_ok hs.1).2.1 _ (getD_mem (l := ts) (k := p) (by omega)))).1
    rw [plainB, decide_eq_true_eq] at hpl
    have q := slow_set ts os p (by omega) (by rw [ht]; omega) (by omega)
    rw [← hS'] at q
    exact q.verd h hdl hv
  generalize verd ⟨ts, os⟩ = v at *
  generalize verd S' = v' at *
  subst hS'
  have hper : (ts.getD p default).period < 1048576 := by rw [ht]; omega
  refine wlist 33 rfl (fun hall => ?_)
  have hlow := hall (ts.getD p default) (getD_mem (l := ts) (k := p) (by omega)) .i64 (ts.getD p default).period (by simp [eTask])
  simp only [rangeP] at hlow
  clear hall
  repeat' (first | refine sA ?_ | (show O _ _ _ _ _ _ _; first | refine ao_alloc (id := 10) rfl rfl rfl rfl rfl rfl rfl ?_) | ((first | apply kM | apply kN); (iterate 3 (· exact rfl)); (· first | exact yag)) | refine sG ?_ | (refine sK ?_ ?_ <;> intro hc <;> (try simp only [KL, sL, reduceCtorEq] at hc) <;> (try (exfalso; omega))))
  all_goals first | (exfalso; omega) | skip
  refine o_blit (f := eTask) (l := []) (id := 11) (sz := 7) rfl rfl rfl rfl rfl rfl rfl rfl rfl rfl rfl rfl rfl rfl ?_
  repeat' (first | refine sA ?_ | ((first | apply kM | apply kN); (iterate 3 (· exact rfl)); (· first | exact ya)) | refine sG ?_ | (refine sK ?_ ?_ <;> intro hc <;> (try simp only [KL, sL, reduceCtorEq] at hc) <;> (try (exfalso; omega))))
  (refine ao_ap (id := 11) (ys := ts) (by_ := 72) rfl rfl rfl rfl rfl rfl rfl rfl rfl rfl (fun _ _ => rfl) ?_ ?_ rfl rfl rfl rfl rfl ?_; (· (first | omega | ((try simp only [List.length_cons, List.length_nil, List.length_append, List.length_map]) <;> omega))); (· (first | omega | ((try simp only [List.length_cons, List.length_nil, List.length_append, List.length_map]) <;> omega))))
  refine ole (h' := [(11, .row 44 7 (ts.map eTask)), (10, .blk 25 (eSystem ⟨ts, os⟩))]) (LeS.refl _) leh ?_
  repeat' (first | refine sA ?_ | ((first | apply kM | apply kN); (iterate 3 (· exact rfl)); (· first | (show Y _ ⟨_, .indexAddr _ _ _, _, _, _, _⟩ _ _ _; first | exact q_ioE (p) rfl rfl rfl rfl rfl rfl (by omega) (by omega)) | exact ya)) | refine sG ?_ | (refine sK ?_ ?_ <;> intro hc <;> (try simp only [KL, sL, reduceCtorEq] at hc) <;> (try (exfalso; omega))))
  all_goals first | (exfalso; omega) | skip
  (refine ao_se (x' := setPer (ts.getD p default) ((ts.getD p default).period + 1)) rfl rfl rfl rfl rfl rfl rfl rfl rfl ?_ rfl rfl rfl ?_; (· (first | omega | ((try simp only [List.length_set, List.length_cons, List.length_nil, List.length_append, List.length_map]) <;> omega))))
  by_cases hv : v.e = 0
  · rw [decide_eq_true hv] at c2
    rw [decide_eq_true (himp hv)] at c3
    repeat' (first | refine sA ?_ | ((first | apply kM | apply kN); (iterate 3 (· exact rfl)); (· first | exact ya | exact q_c (c2) rfl | exact q_c (c0) rfl | exact Y.mk (ok_lend c3 rfl rfl rfl))) | refine sG ?_ | (refine sK ?_ ?_ <;> intro hc <;> (try simp only [KL, sL, reduceCtorEq] at hc) <;> (try (exfalso; omega))))
    all_goals first | (exfalso; omega) | exact retq rfl rfl
  · rw [decide_eq_false hv] at c2
    repeat' (first | refine sA ?_ | ((first | apply kM | apply kN); (iterate 3 (· exact rfl)); (· first | exact ya | exact q_c (c2) rfl | exact q_c (c0) rfl)) | refine sG ?_ | (refine sK ?_ ?_ <;> intro hc <;> (try simp only [KL, sL, reduceCtorEq] at hc) <;> (try (exfalso; omega))))
    all_goals first | (exfalso; omega) | exact retq rfl rfl
end Go.Proofs.YtkkmageogkkchaaGreat
