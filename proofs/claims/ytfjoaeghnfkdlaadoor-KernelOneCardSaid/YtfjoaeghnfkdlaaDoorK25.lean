/- Law 29, one step a tick: plain. No condition. -/
import Derived.Test.YtfjoaeghnfkdlaaDoorK24
import Derived.Test.YtfjoaeghnfkdlaaDoorK18
set_option linter.unusedSimpArgs false
set_option linter.unusedVariables false
set_option maxHeartbeats 1000000
namespace Go.Proofs.YtfjoaeghnfkdlaaDoor
set_option maxRecDepth 100000
open Go.RowKit
/-! What the law looks at. -/
structure St29 where
  A : List Bool
  G : List Due
  n : Int
def okEv (l : List Task) (s : St29) (x : Event) : Bool :=
  decide (x.kind = 2) || ((if x.kind = 6 then decide (x.task = -1) else decide (0 ≤ x.task ∧ x.task < l.length)) &&
    (!decide (x.kind = 5 ∨ x.kind = 6) || (decide (x.t = s.n) && (List.range s.A.length).all fun i : Nat => !(s.A.getD i false) || (decide (x.kind = 5) && (decide ((i : Int) = x.task) || !ahK l i x.task)))))
def stEv (s : St29) (x : Event) : St29 :=
  if x.kind = 1 then ⟨s.A.set x.task.toNat true, s.G ++ [⟨x.t, x.task⟩], s.n⟩
  else if x.kind = 3 then ⟨s.A, s.G ++ [⟨x.t, x.task⟩], s.n⟩
  else if x.kind = 5 ∨ x.kind = 6 then ⟨s.A, s.G, s.n + 1⟩
  else if x.kind = 7 then ⟨s.A.set x.task.toNat false, s.G, s.n⟩
  else s
def runO (l : List Task) : St29 → List Event → Option St29
  | s, [] => some s
  | s, x :: r => if okEv l s x then runO l (stEv s x) r else none
theorem runO_cons (l : List Task) (s : St29) (x : Event) (r : List Event) : runO l s (x :: r) = if okEv l s x then runO l (stEv s x) r else none := rfl
theorem runO_app (l : List Task) : ∀ (a b : List Event) (s s' : St29), runO l s a = some s' → runO l s (a ++ b) = runO l s' b
  | [], b, s, s', h => by cases h; rfl
  | x :: r, b, s, s', h => by
    rw [runO_cons] at h
    rw [List.cons_append, runO_cons]
    split at h
    · rename_i hx; rw [if_pos hx]; exact runO_app l r b _ _ h
    · cases h
def ActR (l : List Task) (A : List Bool) (B : Bk) : Prop := A.length = l.length ∧ ∀ i : Nat, i < l.length → A.getD i false = hasN B.act i
theorem getD_setB {A : List Bool} {p k : Nat} {b : Bool} (hp : p < A.length) : (A.set p b).getD k false = if p = k then b else A.getD k false := by
  rw [List.getD_eq_getElem?_getD, List.getD_eq_getElem?_getD, List.getElem?_set]
  by_cases h : p = k
  · subst h; rw [if_pos rfl, if_pos hp, if_pos rfl]; rfl
  · rw [if_neg h, if_neg h]
theorem let_kind (l : List Task) (B : Bk) (t i : Int) : (letB l B t i).t = t ∧ (letB l B t i).task = i ∧ ((relOk l B i = true ∧ (letB l B t i).kind = 1) ∨ (relOk l B i = false ∧ (letB l B t i).kind = 3)) := by
  unfold letB letE
  simp only
  cases h : relOk l B i
  · exact ⟨rfl, rfl, .inr ⟨rfl, rfl⟩⟩
  · exact ⟨rfl, rfl, .inl ⟨rfl, rfl⟩⟩
theorem act_rel {l : List Task} (B : Bk) {i : Int} (hi : 0 ≤ i ∧ i < l.length) (h64 : l.length ≤ 64) (t : Int) : (relOk l B i = true → ∀ j, hasN (relBk l B i t).act j = (decide (j = i) || hasN B.act j)) ∧ (relOk l B i = false → (relBk l B i t).act = B.act) := by
  unfold relOk relBk
  rw [decide_eq_false (show ¬ (i < 0 ∨ (l.length : Int) ≤ i) by omega), if_neg (show ¬ (i < 0 ∨ (l.length : Int) ≤ i) by omega), Bool.not_false, Bool.true_and]
  constructor
  · intro h
    rw [Bool.not_eq_true'] at h
    rw [if_neg (by rw [h]; decide)]
    intro j
    rw [Bool.eq_iff_iff, hasN_put ⟨hi.1, by omega⟩, Bool.or_eq_true, decide_eq_true_eq]
  · intro h
    rw [Bool.not_eq_false'] at h
    rw [if_pos h]
theorem let_step {l : List Task} {A : List Bool} {G : List Due} {n t : Int} {B : Bk} (h : ActR l A B) {i : Int} (hi : 0 ≤ i ∧ i < l.length) (h64 : l.length ≤ 64) :
    okEv l ⟨A, G, n⟩ (letB l B t i) = true ∧ ∃ A', stEv ⟨A, G, n⟩ (letB l B t i) = ⟨A', G ++ [⟨t, i⟩], n⟩ ∧ ActR l A' (relBk l B i t) := by
  obtain ⟨e1, e2, e3⟩ := let_kind l B t i
  obtain ⟨a1, a2⟩ := act_rel B hi h64 t
  rcases e3 with ⟨r1, r2⟩ | ⟨r1, r2⟩
  · refine ⟨?_, A.set i.toNat true, ?_, ?_⟩
    · unfold okEv
      rw [r2, e2, if_neg (by decide), decide_eq_true hi]; rfl
    · unfold stEv
      rw [if_pos r2, e1, e2]
    · refine ⟨by rw [List.length_set]; exact h.1, fun j hj => ?_⟩
      rw [getD_setB (by rw [h.1]; omega), a1 r1]
      by_cases e : i.toNat = j
      · rw [if_pos e, decide_eq_true (by omega), Bool.true_or]
      · rw [if_neg e, decide_eq_false (by omega), Bool.false_or]; exact h.2 j hj
  · refine ⟨?_, A, ?_, ?_⟩
    · unfold okEv
      rw [r2, e2, if_neg (by decide), decide_eq_true hi]; rfl
    · unfold stEv
      rw [if_neg (by rw [r2]; decide), if_pos r2, e1, e2]
    · refine ⟨h.1, fun j hj => ?_⟩
      rw [a2 r1]; exact h.2 j hj
theorem tasks_run {l : List Task} (h64 : l.length ≤ 64) {n t : Int} : ∀ (D : List Nat) (B : Bk) (A : List Bool) (G : List Due) (es : List Event), (∀ i ∈ D, i < l.length) → ActR l A B →
    ∃ es' A', (D.foldl (rT l t) (B, es)).2 = es ++ es' ∧ runO l ⟨A, G, n⟩ es' = some ⟨A', G ++ D.map (fun i : Nat => (⟨t, i⟩ : Due)), n⟩ ∧ ActR l A' (D.foldl (rT l t) (B, es)).1
  | [], B, A, G, es, _, h => ⟨[], A, by simp, by simp [runO], h⟩
  | i :: D, B, A, G, es, hD, h => by
    obtain ⟨h1, A1, h2, h3⟩ := let_step (G := G) (n := n) (t := t) h (i := i) ⟨by omega, by have := hD i List.mem_cons_self; omega⟩ h64
    obtain ⟨es', A', k1, k2, k3⟩ := tasks_run h64 D (relBk l B i t) A1 (G ++ [⟨t, i⟩]) (es ++ [letB l B t i]) (fun j hj => hD j (List.mem_cons_of_mem _ hj)) h3
    rw [List.foldl_cons]
    refine ⟨letB l B t i :: es', A', ?_, ?_, k3⟩
    · show (D.foldl (rT l t) (relBk l B i t, es ++ [letB l B t i])).2 = _
      rw [k1]; simp
    · unfold runO
      rw [if_pos h1, h2, k2]; simp
/-! Who is let through of those that are asked for. -/
def passL : (Int → Bool) → List Int → List Int
  | _, [] => []
  | q, i :: xs => if q i then i :: passL (fun j => q j && !decide (j = i)) xs else passL q xs
theorem passL_congr : ∀ (xs : List Int) {q q' : Int → Bool}, (∀ i ∈ xs, q i = q' i) → passL q xs = passL q' xs
  | [], _, _, _ => rfl
  | i :: xs, q, q', h => by
    unfold passL
    rw [h i List.mem_cons_self, passL_congr xs (q := q) (q' := q') fun j hj => h j (List.mem_cons_of_mem _ hj), passL_congr xs (q := fun j => q j && !decide (j = i)) (q' := fun j => q' j && !decide (j = i)) fun j hj => by rw [h j (List.mem_cons_of_mem _ hj)]]
theorem mem_passL : ∀ (xs : List Int) {q : Int → Bool} {i : Int}, i ∈ passL q xs ↔ i ∈ xs ∧ q i = true
  | [], q, i => by simp [passL]
  | a :: xs, q, i => by
    unfold passL
    split
    · rename_i ha
      rw [List.mem_cons, List.mem_cons, mem_passL xs, Bool.and_eq_true, Bool.not_eq_true', decide_eq_false_iff_not]
      constructor
      · rintro (rfl | ⟨h1, h2, _⟩)
        · exact ⟨.inl rfl, ha⟩
        · exact ⟨.inr h1, h2⟩
      · rintro ⟨h1, h2⟩
        by_cases e : i = a
        · exact .inl e
        · exact .inr ⟨h1.resolve_left e, h2, e⟩
    · rename_i ha
      rw [List.mem_cons, mem_passL xs]
      constructor
      · rintro ⟨h1, h2⟩; exact ⟨.inr h1, h2⟩
      · rintro ⟨h1, h2⟩
        refine ⟨h1.resolve_left fun e => ?_, h2⟩
        subst e; exact ha h2
theorem nodup_passL : ∀ (xs : List Int) {q : Int → Bool}, (passL q xs).Nodup
  | [], q => List.nodup_nil
  | a :: xs, q => by
    unfold passL
    split
    · rw [List.nodup_cons]
      refine ⟨fun h => ?_, nodup_passL xs⟩
      have := ((mem_passL xs).1 h).2
      simp at this
    · exact nodup_passL xs
theorem perm_passL {xs ys : List Int} (h : xs.Perm ys) (q : Int → Bool) : (passL q xs).Perm (passL q ys) :=
  (List.perm_ext_iff_of_nodup (nodup_passL xs) (nodup_passL ys)).2 fun i => by rw [mem_passL, mem_passL, h.mem_iff]
theorem rpQ_set {l : List Task} (hok : okK l = true) {LL : List (List Int)} (hL : LL.length = l.length) {t i : Int} (hi : rpQ l LL t i = true) (j : Int) : rpQ l (LL.set i.toNat (LL.getD i.toNat [] ++ [t])) t j = (rpQ l LL t j && !decide (j = i)) := by
  have hin := pass_in hi
  by_cases hj : 0 ≤ j ∧ j < l.length
  · unfold rpQ
    rw [decide_eq_true hj]
    simp only [Bool.true_and]
    by_cases e : j = i
    · subst e
      have hp := plain_per hok j hj.1 hj.2
      rw [decide_eq_true rfl, Bool.not_true, Bool.and_false]
      rw [List.getD_eq_getElem?_getD (l := LL.set _ _), List.getElem?_set, if_pos rfl, if_pos (by rw [hL]; omega), Option.getD_some]
      simp only [List.getLast?_concat]
      rw [decide_eq_false (show ¬ (l.getD j.toNat default).period ≤ t - t by omega), Bool.and_false]
    · rw [decide_eq_false e, Bool.not_false, Bool.and_true]
      congr 1
      rw [List.getD_eq_getElem?_getD (l := LL.set _ _), List.getElem?_set, if_neg (by omega), ← List.getD_eq_getElem?_getD]
  · unfold rpQ
    rw [decide_eq_false hj]; simp
theorem asks_run {l : List Task} (hok : okK l = true) (h64 : l.length ≤ 64) {n t : Int} : ∀ (D : List Int) (B : Bk) (LL : List (List Int)) (A : List Bool) (G : List Due) (es : List Event), LL.length = l.length → ActR l A B →
    ∃ es' A', (D.foldl (rAsk l t) ⟨B, LL, es⟩).es = es ++ es' ∧ runO l ⟨A, G, n⟩ es' = some ⟨A', G ++ (passL (rpQ l LL t) D).map (fun i => (⟨t, i⟩ : Due)), n⟩ ∧ ActR l A' (D.foldl (rAsk l t) ⟨B, LL, es⟩).B
  | [], B, LL, A, G, es, _, h => ⟨[], A, by simp, by simp [runO, passL], h⟩
  | i :: D, B, LL, A, G, es, hL, h => by
    rw [List.foldl_cons]
    cases hq : rpQ l LL t i
    · have e2 : rAsk l t ⟨B, LL, es⟩ i = ⟨B, LL, es ++ [⟨t, 2, i, 0, 0⟩]⟩ := by unfold rAsk; rw [if_neg (by simp only [hq]; decide)]
      obtain ⟨es', A', k1, k2, k3⟩ := asks_run hok h64 (n := n) (t := t) D B LL A G (es ++ [⟨t, 2, i, 0, 0⟩]) hL h
      rw [e2]
      refine ⟨⟨t, 2, i, 0, 0⟩ :: es', A', by rw [k1]; simp, ?_, k3⟩
      unfold runO passL
      rw [if_pos (show okEv l ⟨A, G, n⟩ ⟨t, 2, i, 0, 0⟩ = true from rfl), if_neg (by rw [hq]; decide)]
      exact k2
    · have e2 : rAsk l t ⟨B, LL, es⟩ i = ⟨relBk l B i t, LL.set i.toNat (LL.getD i.toNat [] ++ [t]), es ++ [letB l B t i]⟩ := by unfold rAsk; rw [if_pos hq]
      obtain ⟨h1, A1, h2, h3⟩ := let_step (G := G) (n := n) (t := t) h (pass_in hq) h64
      obtain ⟨es', A', k1, k2, k3⟩ := asks_run hok h64 (n := n) (t := t) D (relBk l B i t) (LL.set i.toNat (LL.getD i.toNat [] ++ [t])) A1 (G ++ [⟨t, i⟩]) (es ++ [letB l B t i]) (by rw [List.length_set]; exact hL) h3
      rw [e2]
      refine ⟨letB l B t i :: es', A', by rw [k1]; simp, ?_, k3⟩
      unfold runO
      rw [if_pos h1, h2, k2]
      conv => rhs; unfold passL
      rw [if_pos hq, passL_congr D (q := rpQ l (LL.set i.toNat (LL.getD i.toNat [] ++ [t])) t) (q' := fun j => rpQ l LL t j && !decide (j = i)) fun j _ => rpQ_set hok hL hq j]
      simp
/-! Who is late. -/
theorem late_run {l : List Task} {n : Nat} {B : Bk} (h : GoodB l n B) {t m : Int} {A : List Bool} {G : List Due} : ∀ (D : List Int), (∀ i ∈ D, hasN B.act i = true) → runO l ⟨A, G, m⟩ (D.map (lateE B t)) = some ⟨A, G, m⟩
  | [], _ => rfl
  | i :: D, hD => by
    have hi := act_lt h (hD i List.mem_cons_self)
    rw [List.map_cons, runO_cons]
    have e : lateE B t i = ⟨t, 4, i, (if hasN B.act i then jobAt B i else default).no, 0⟩ := rfl
    have eo : okEv l ⟨A, G, m⟩ ⟨t, 4, i, (if hasN B.act i then jobAt B i else default).no, 0⟩ = (decide (0 ≤ i ∧ i < l.length) && true) := rfl
    rw [e, if_pos (by rw [eo, decide_eq_true hi]; rfl)]
    exact late_run h D fun j hj => hD j (List.mem_cons_of_mem _ hj)
/-! Nobody goes ahead of whoever is picked. -/
theorem befN_tot (prio : List Int) {a b : Int} (h : a ≠ b) : befB prio a b = !befB prio b a := by
  unfold befB
  rw [Bool.eq_iff_iff, Bool.not_eq_true', decide_eq_true_eq, decide_eq_false_iff_not]; omega
theorem befN_trans (prio : List Int) {a b c : Int} (h1 : befB prio a b = true) (h2 : befB prio b c = true) : befB prio a c = true := by
  unfold befB at *
  rw [decide_eq_true_eq] at *; omega
theorem rpick_best {l : List Task} {B : Bk} : ∀ k, k ≤ l.length → ∀ i : Nat, i < k → hasN B.act i = true → 0 ≤ rpickTo l B k ∧ ((i : Int) ≠ rpickTo l B k → ahK l i (rpickTo l B k) = false)
  | 0, _, i, hi, _ => by omega
  | k + 1, hk, i, hi, hh => by
    have hpk := rpick_has (l := l) (B := B) k
    rw [rpick_next]
    have ih := fun (j : Nat) hj hjh => rpick_best (l := l) (B := B) k (by omega) j hj hjh
    split
    · rename_i hc
      rw [Bool.and_eq_true, Bool.or_eq_true, decide_eq_true_eq] at hc
      refine ⟨by omega, fun hne => ?_⟩
      have hik : i < k := by omega
      obtain ⟨i1, i2⟩ := ih i hik hh
      have hc2 := hc.2.resolve_left (by omega)
      by_cases e : (i : Int) = rpickTo l B k
      · rw [← e] at hc2
        unfold ahK at hc2 ⊢
        rw [Bool.and_eq_true] at hc2
        rw [befN_tot _ hne, hc2.2, Bool.not_true, Bool.and_false]
      · have h3 := i2 e
        unfold ahK at hc2 h3 ⊢
        rw [Bool.and_eq_true, decide_eq_true_eq] at hc2
        rw [decide_eq_true (show 0 ≤ (i : Int) ∧ (i : Int) < l.length ∧ 0 ≤ rpickTo l B k ∧ rpickTo l B k < l.length by omega), Bool.true_and] at h3
        cases hb : befB (prios l) i k
        · rw [Bool.and_false]
        · have := befN_trans _ hb hc2.2
          rw [h3] at this; cases this
    · rename_i hc
      by_cases hik : i < k
      · exact ih i hik hh
      · have e : i = k := by omega
        subst e
        rw [hh, Bool.true_and, Bool.or_eq_true, decide_eq_true_eq] at hc
        refine ⟨by omega, fun _ => ?_⟩
        cases ha : ahK l i (rpickTo l B i)
        · rfl
        · exact absurd (.inr ha) hc
theorem act_drop {l : List Task} {n : Nat} {B : Bk} (h : GoodB l n B) (t pv : Int) (e : Bool) (hp : hasN B.act pv = true) (j : Int) : hasN (stepB B t pv e).act j = if e then (hasN B.act j && !decide (j = pv)) else hasN B.act j := by
  have hs : (stepBk B pv t).act = B.act := by unfold stepBk; split <;> rfl
  unfold stepB
  cases e
  · simp only [Bool.false_eq_true, if_false]; rw [hs]
  · simp only [if_true]
    have : (endBk (stepBk B pv t) pv t).act = dropN B.act pv := by unfold endBk; rw [hs, if_pos hp]
    rw [this, Bool.eq_iff_iff, Bool.and_eq_true, Bool.not_eq_true', decide_eq_false_iff_not]
    exact ⟨fun h => hasN_drop h, fun h => drop_hasN h.1 h.2⟩
theorem end_run {l : List Task} {n : Nat} {B : Bk} (h : GoodB l n B) {A : List Bool} {G : List Due} {t : Int} (ha : ActR l A B) (at_ : Int) (ended : Bool) :
    ∃ A', runO l ⟨A, G, t⟩ (rendE l B t at_ ended) = some ⟨A', G, t + 1⟩ ∧ ActR l A' (rendB l B t ended) := by
  have hpk := rpick_has (l := l) (B := B) l.length
  have hbest := rpick_best (l := l) (B := B) l.length (Nat.le_refl _)
  unfold rendE rendB
  generalize rpickTo l B l.length = pv at *
  by_cases hp : 0 ≤ pv
  · obtain ⟨hh, hlt⟩ := hpk hp
    rw [if_pos hp, if_pos hp]
    have hok1 : ∀ no : Int, okEv l ⟨A, G, t⟩ ⟨t, 5, pv, no, at_⟩ = true := fun no => by
      have eo : okEv l ⟨A, G, t⟩ ⟨t, 5, pv, no, at_⟩ = (decide (0 ≤ pv ∧ pv < l.length) && (decide (t = t) && (List.range A.length).all fun i : Nat => !(A.getD i false) || (decide ((5 : Int) = 5) && (decide ((i : Int) = pv) || !ahK l i pv)))) := rfl
      rw [eo, decide_eq_true (show 0 ≤ pv ∧ pv < l.length from ⟨hp, hlt⟩), decide_eq_true rfl]
      have : ((List.range A.length).all fun i : Nat => !(A.getD i false) || (decide ((5 : Int) = 5) && (decide ((i : Int) = pv) || !ahK l i pv))) = true := by
        rw [List.all_eq_true]
        intro i hi
        rw [List.mem_range, ha.1] at hi
        rw [ha.2 i hi]
        cases hA : hasN B.act i
        · rfl
        · by_cases e : (i : Int) = pv
          · rw [decide_eq_true e]; rfl
          · rw [(hbest i hi hA).2 e]; simp
      rw [this]; rfl
    rw [runO_cons, if_pos (hok1 _)]
    have e1 : ∀ no : Int, stEv ⟨A, G, t⟩ ⟨t, 5, pv, no, at_⟩ = ⟨A, G, t + 1⟩ := fun _ => rfl
    rw [e1]
    have hdr := act_drop h t pv ended hh
    cases ended
    · refine ⟨A, rfl, ha.1, fun i hi => ?_⟩
      rw [hdr]; exact ha.2 i hi
    · refine ⟨A.set pv.toNat false, ?_, by rw [List.length_set]; exact ha.1, fun i hi => ?_⟩
      · simp only [if_true]
        have eo : okEv l ⟨A, G, t + 1⟩ ⟨t, 7, pv, (jobAt B pv).no, t + 1 - (jobAt B pv).release⟩ = (decide (0 ≤ pv ∧ pv < l.length) && true) := rfl
        rw [runO_cons, if_pos (by rw [eo, decide_eq_true (show 0 ≤ pv ∧ pv < l.length from ⟨hp, hlt⟩)]; rfl)]
        rfl
      · rw [hdr, getD_setB (by rw [ha.1]; omega), if_pos rfl]
        by_cases e : pv.toNat = i
        · rw [if_pos e, decide_eq_true (by omega)]; simp
        · rw [if_neg e, decide_eq_false (by omega), ha.2 i hi]; simp
  · rw [if_neg hp, if_neg hp]
    have hno : ∀ i : Nat, i < l.length → hasN B.act i = false := fun i hi => by
      cases hA : hasN B.act i
      · rfl
      · exact absurd (hbest i hi hA).1 hp
    refine ⟨A, ?_, ha⟩
    rw [runO_cons, if_pos]
    · rfl
    · have eo : okEv l ⟨A, G, t⟩ ⟨t, 6, -1, 0, 0⟩ = (decide ((-1 : Int) = -1) && (decide (t = t) && (List.range A.length).all fun i : Nat => !(A.getD i false) || (decide ((6 : Int) = 5) && (decide ((i : Int) = -1) || !ahK l i (-1))))) := rfl
      have : ((List.range A.length).all fun i : Nat => !(A.getD i false) || (decide ((6 : Int) = 5) && (decide ((i : Int) = -1) || !ahK l i (-1)))) = true := by
        rw [List.all_eq_true]
        intro i hi
        rw [List.mem_range, ha.1] at hi
        rw [ha.2 i hi, hno i hi]; rfl
      rw [eo, this, decide_eq_true rfl, decide_eq_true rfl]; rfl
/-! A tick, and all of them. -/
def gotT (l : List Task) (LL : List (List Int)) (asks : List Due) (t : Int) : List Due := (nowL l t).map (fun i : Nat => (⟨t, i⟩ : Due)) ++ (passL (rpQ l LL t) (asksAt asks t)).map fun i => (⟨t, i⟩ : Due)
theorem tick_run {l : List Task} (hok : okK l = true) (asks : List Due) (dm : List (List Int)) {t : Nat} (ht : t ≤ 100000) {A : List Bool} {G : List Due} (ha : ActR l A (rRun l asks dm t).B) :
    ∃ es A', (rRun l asks dm (t + 1)).es = (rRun l asks dm t).es ++ es ∧ runO l ⟨A, G, t⟩ es = some ⟨A', G ++ gotT l (rRun l asks dm t).LL asks t, (t : Int) + 1⟩ ∧ ActR l A' (rRun l asks dm (t + 1)).B := by
  have h8 : l.length ≤ 8 := by rw [okK, Bool.and_eq_true, decide_eq_true_eq] at hok; omega
  have hI := rRun_inv h8 asks dm t ht
  rw [rRun_next]
  generalize rRun l asks dm t = p at *
  obtain ⟨B, LL, es0⟩ := p
  obtain ⟨hri, hjr, _⟩ := hI
  simp only at hri hjr ha ⊢
  have hg := hri.good.late t (setL B.act) (setL B.act).length
  have hbg := (hri.begin_ ⟨by omega, by omega⟩ hjr (asksAt asks t)).1.good
  have e1 : rLate B t = ((rLate B t).1, (rLate B t).2) := rfl
  have ha1 : ActR l A (rLate B t).1 := ⟨ha.1, fun i hi => by rw [show (rLate B t).1.act = B.act from hg.2.1]; exact ha.2 i hi⟩
  have hlr : runO l ⟨A, G, t⟩ (rLate B t).2 = some ⟨A, G, t⟩ := late_run (B := (rLate B t).1) hg.1 _ fun i hi => by
    rw [show (rLate B t).1.act = B.act from hg.2.1]; exact late_mem B t i hi
  obtain ⟨es1, A1, k1, k2, k3⟩ := tasks_run (by omega) (n := t) (t := t) (nowL l t) (rLate B t).1 A G (rLate B t).2 nowL_in ha1
  obtain ⟨es2, A2, k4, k5, k6⟩ := asks_run hok (by omega) (n := t) (t := t) (asksAt asks t) ((nowL l t).foldl (rT l t) ((rLate B t).1, (rLate B t).2)).1 LL A1 (G ++ (nowL l t).map (fun i : Nat => (⟨(t : Int), i⟩ : Due))) ((nowL l t).foldl (rT l t) ((rLate B t).1, (rLate B t).2)).2 hri.len k3
  have eB : rBegin l B LL t (asksAt asks t) = (asksAt asks t).foldl (rAsk l t) ⟨((nowL l t).foldl (rT l t) ((rLate B t).1, (rLate B t).2)).1, LL, ((nowL l t).foldl (rT l t) ((rLate B t).1, (rLate B t).2)).2⟩ := by
    unfold rBegin
    simp only
    rw [rTask_filter l hok t ⟨by omega, by omega⟩]
  rw [← eB] at k4 k6
  obtain ⟨A3, k7, k8⟩ := end_run hbg (G := G ++ gotT l LL asks t) (t := t) k6 (rHad l (rBegin l B LL t (asksAt asks t)).B) (rEnded l dm (rBegin l B LL t (asksAt asks t)).B)
  refine ⟨(rLate B t).2 ++ es1 ++ es2 ++ rendE l (rBegin l B LL t (asksAt asks t)).B t (rHad l (rBegin l B LL t (asksAt asks t)).B) (rEnded l dm (rBegin l B LL t (asksAt asks t)).B), A3, ?_, ?_, k8⟩
  · unfold rTick
    simp only
    rw [k4, k1]; simp
  · have r1 : runO l ⟨A, G, t⟩ ((rLate B t).2 ++ es1) = some ⟨A1, G ++ (nowL l t).map (fun i : Nat => (⟨(t : Int), i⟩ : Due)), t⟩ := by rw [runO_app l _ _ _ _ hlr]; exact k2
    have r2 : runO l ⟨A, G, t⟩ ((rLate B t).2 ++ es1 ++ es2) = some ⟨A2, G ++ gotT l LL asks t, t⟩ := by
      rw [runO_app l _ _ _ _ r1, k5]; unfold gotT; rw [List.append_assoc]
    rw [runO_app l _ _ _ _ r2]
    exact k7
def gotAll (l : List Task) (asks : List Due) (dm : List (List Int)) (T : Nat) : List Due := (List.range T).flatMap fun t : Nat => gotT l (rRun l asks dm t).LL asks t
theorem all_run {l : List Task} (hok : okK l = true) (asks : List Due) (dm : List (List Int)) : ∀ T : Nat, T ≤ 100000 →
    ∃ A', runO l ⟨List.replicate l.length false, [], 0⟩ (rRun l asks dm T).es = some ⟨A', gotAll l asks dm T, T⟩ ∧ ActR l A' (rRun l asks dm T).B
  | 0, _ => ⟨_, rfl, List.length_replicate, fun i hi => (by
      rw [List.getD_eq_getElem?_getD, List.getElem?_replicate, if_pos hi]
      show false = hasN 0 i
      unfold hasN; simp)⟩
  | T + 1, hT => by
    obtain ⟨A, h1, h2⟩ := all_run hok asks dm T (by omega)
    obtain ⟨es, A', k1, k2, k3⟩ := tick_run hok asks dm (t := T) (by omega) (G := gotAll l asks dm T) h2
    refine ⟨A', ?_, k3⟩
    rw [k1, runO_app l _ _ _ _ h1, k2]
    unfold gotAll
    rw [List.range_succ, List.flatMap_append]
    simp
end Go.Proofs.YtfjoaeghnfkdlaaDoor
namespace Go.Proofs.YtfjoaeghnfkdlaaDoor
set_option maxRecDepth 100000
open Go.RowKit
/-! Periodic ones. -/
def perA (l : List Task) (T : Nat) : List Due := (List.range T).flatMap fun t : Nat => (nowL l t).map fun i : Nat => (⟨t, i⟩ : Due)
theorem perL_nodup (l : List Task) : (perL l).Nodup := List.nodup_range.filter _
theorem perA_perm {l : List Task} (hok : okK l = true) (T : Nat) : (perA l T).Perm (letT l T l.length) := by
  refine (List.perm_ext_iff_of_nodup ?_ ?_).2 fun d => ?_
  · unfold perA
    rw [List.Nodup, List.pairwise_flatMap]
    refine ⟨fun t ht => ?_, List.pairwise_lt_range.imp fun {a b} hab x hx y hy e => ?_⟩
    · rw [List.pairwise_map]
      exact ((perL_nodup l).filter _).imp fun {a b} hab e => hab (by have := congrArg Due.task e; simp only at this; omega)
    · obtain ⟨i, _, rfl⟩ := List.mem_map.1 hx
      obtain ⟨j, _, rfl⟩ := List.mem_map.1 hy
      have := congrArg Due.at_ e
      simp only at this; omega
  · unfold letT
    rw [List.Nodup, List.pairwise_flatMap]
    refine ⟨fun j hj => ?_, List.pairwise_lt_range.imp fun {a b} hab x hx y hy e => ?_⟩
    · unfold letO
      rw [List.pairwise_map]
      by_cases hp : plainB (l.getD j default) = true ∧ (l.getD j default).kind = 1
      · obtain ⟨_, _, h3, _⟩ := plainB_spec hp.1
        refine List.pairwise_lt_range.imp fun {a b} hab e => ?_
        have := congrArg Due.at_ e
        unfold dueAt at this
        simp only at this
        have h4 : ((a : Int) + 1) * (l.getD j default).period ≤ b * (l.getD j default).period := Int.mul_le_mul_of_nonneg_right (by omega) (by omega)
        rw [Int.add_mul, Int.one_mul] at h4
        omega
      · rw [timesN_no hp]; exact List.Pairwise.nil
    · unfold letO at hx hy
      obtain ⟨i, _, rfl⟩ := List.mem_map.1 hx
      obtain ⟨j, _, rfl⟩ := List.mem_map.1 hy
      have := congrArg Due.task e
      unfold dueAt at this
      simp only at this; omega
  · unfold perA letT letO
    rw [List.mem_flatMap, List.mem_flatMap]
    constructor
    · rintro ⟨t, ht, hd⟩
      rw [List.mem_range] at ht
      obtain ⟨i, hi, rfl⟩ := List.mem_map.1 hd
      obtain ⟨h1, h2⟩ := List.mem_filter.1 hi
      rw [decide_eq_true_eq] at h2
      obtain ⟨h3, h4⟩ := perL_per hok h1
      have hoff : (l.getD i default).offset ≤ t := by
        unfold nx at h2; split at h2 <;> omega
      have hm := (nx_mod h4 hoff).1 h2
      obtain ⟨q, hq⟩ := Int.dvd_of_emod_eq_zero hm
      rw [Int.mul_comm] at hq
      have hq0 : 0 ≤ q := by
        refine Classical.byContradiction fun hc => ?_
        have : q * (l.getD i default).period ≤ (-1) * (l.getD i default).period := Int.mul_le_mul_of_nonneg_right (by omega) (by have := h4.per; omega)
        have := h4.per; omega
      refine ⟨i, List.mem_range.2 h3, List.mem_map.2 ⟨q.toNat, List.mem_range.2 ?_, ?_⟩⟩
      · rw [timesN_pos h4.plain h4.kind, show ((q.toNat : Nat) : Int) = q by omega]; omega
      · unfold dueAt
        rw [show ((q.toNat : Nat) : Int) = q by omega]
        congr 1; omega
    · rintro ⟨j, hj, hd⟩
      rw [List.mem_range] at hj
      obtain ⟨k, hk, rfl⟩ := List.mem_map.1 hd
      rw [List.mem_range] at hk
      have hp : plainB (l.getD j default) = true ∧ (l.getD j default).kind = 1 := by
        refine Classical.byContradiction fun hc => ?_
        rw [timesN_no hc] at hk; omega
      rw [timesN_pos hp.1 hp.2] at hk
      have hjp : j ∈ perL l := List.mem_filter.2 ⟨List.mem_range.2 hj, by simpa using hp.2⟩
      obtain ⟨_, h4⟩ := perL_per hok hjp
      have h0 : 0 ≤ (k : Int) * (l.getD j default).period := Int.mul_nonneg (by omega) (by have := h4.per; omega)
      have ho := h4.off
      refine ⟨((l.getD j default).offset + k * (l.getD j default).period).toNat, List.mem_range.2 (by omega), List.mem_map.2 ⟨j, List.mem_filter.2 ⟨hjp, ?_⟩, ?_⟩⟩
      · rw [decide_eq_true_eq, show ((((l.getD j default).offset + k * (l.getD j default).period).toNat : Nat) : Int) = (l.getD j default).offset + k * (l.getD j default).period by omega]
        rw [nx_mod h4 (by omega), show (l.getD j default).offset + k * (l.getD j default).period - (l.getD j default).offset = k * (l.getD j default).period by omega]
        exact Int.mul_emod_left _ _
      · unfold dueAt
        congr 1; omega
theorem passL_yes {q : Int → Bool} {i : Int} {xs : List Int} (h : q i = true) : passL q (i :: xs) = i :: passL (fun j => q j && !decide (j = i)) xs := by rw [passL, if_pos h]
theorem passL_no {q : Int → Bool} {i : Int} {xs : List Int} (h : q i = false) : passL q (i :: xs) = passL q xs := by rw [passL, if_neg (by rw [h]; decide)]
theorem getD_setG {α : Type} {L : List α} (d : α) {p k : Nat} {x : α} (hp : p < L.length) : (L.set p x).getD k d = if p = k then x else L.getD k d := by
  rw [List.getD_eq_getElem?_getD, List.getD_eq_getElem?_getD, List.getElem?_set]
  by_cases h : p = k
  · subst h; rw [if_pos rfl, if_pos hp, if_pos rfl]; rfl
  · rw [if_neg h, if_neg h]
/-! Sporadic ones. -/
def GR (l : List Task) (gs : List Gt) (LL : List (List Int)) : Prop := gs.length = l.length ∧ LL.length = l.length ∧ ∀ i : Nat, i < l.length → (gs.getD i default).per = perG (l.getD i default) ∧ (if (gs.getD i default).op then some (gs.getD i default).last else none) = (LL.getD i []).getLast?
theorem ok_rpQ {l : List Task} (hok : okK l = true) {T : Int} {s : S27} {LL : List (List Int)} (h : GR l s.gs LL) {t : Int} (ht : 0 ≤ t ∧ t < T) (i : Int) : okA T s ⟨t, i⟩ = rpQ l LL t i := by
  obtain ⟨h1, h2, h3⟩ := h
  unfold okA rpQ
  simp only
  rw [h1]
  by_cases hi : 0 ≤ i ∧ i < l.length
  · rw [decide_eq_true (show 0 ≤ i ∧ i < (l.length : Int) ∧ t < T from ⟨hi.1, hi.2, ht.2⟩), decide_eq_true hi, Bool.true_and, Bool.true_and]
    obtain ⟨g1, g2⟩ := h3 i.toNat (by omega)
    have hpl : plainB (l.getD i.toNat default) = true := by
      rw [okK, Bool.and_eq_true] at hok
      exact List.all_eq_true.1 hok.2 _ (getD_mem (by omega))
    obtain ⟨_, _, hp, _⟩ := plainB_spec hpl
    rw [← g2]
    unfold passD
    rw [g1]
    unfold perG
    by_cases hk : (l.getD i.toNat default).kind = 2
    · rw [if_pos ⟨hpl, hk⟩, decide_eq_true hk, decide_eq_true (show 0 ≤ t ∧ 1 ≤ (l.getD i.toNat default).period from ⟨ht.1, hp.1⟩), Bool.true_and, Bool.true_and]
      cases (s.gs.getD i.toNat default).op
      · rfl
      · simp only [Bool.not_true, Bool.false_or, if_true]
        rw [Bool.eq_iff_iff, decide_eq_true_eq, decide_eq_true_eq]; omega
    · rw [if_neg (fun h => hk h.2), decide_eq_false hk, decide_eq_false (by omega)]; rfl
  · rw [decide_eq_false hi, decide_eq_false (fun h => hi ⟨h.1, h.2.1⟩)]; rfl
theorem ask_last {l : List Task} (hok : okK l = true) {t : Int} : ∀ (D : List Int) (B : Bk) (LL : List (List Int)) (es : List Event), LL.length = l.length →
    (D.foldl (rAsk l t) ⟨B, LL, es⟩).LL.length = l.length ∧ ∀ i : Nat, i < l.length → ((D.foldl (rAsk l t) ⟨B, LL, es⟩).LL.getD i []).getLast? = if (i : Int) ∈ passL (rpQ l LL t) D then some t else (LL.getD i []).getLast?
  | [], B, LL, es, hL => ⟨hL, fun i hi => by simp [passL]⟩
  | a :: D, B, LL, es, hL => by
    rw [List.foldl_cons]
    cases hq : rpQ l LL t a
    · have e2 : rAsk l t ⟨B, LL, es⟩ a = ⟨B, LL, es ++ [⟨t, 2, a, 0, 0⟩]⟩ := by unfold rAsk; rw [if_neg (by simp only [hq]; decide)]
      rw [e2]
      have := ask_last hok (t := t) D B LL (es ++ [⟨t, 2, a, 0, 0⟩]) hL
      refine ⟨this.1, fun i hi => ?_⟩
      rw [this.2 i hi, passL_no hq]
    · have e2 : rAsk l t ⟨B, LL, es⟩ a = ⟨relBk l B a t, LL.set a.toNat (LL.getD a.toNat [] ++ [t]), es ++ [letB l B t a]⟩ := by unfold rAsk; rw [if_pos hq]
      rw [e2]
      have hin := pass_in hq
      have := ask_last hok (t := t) D (relBk l B a t) (LL.set a.toNat (LL.getD a.toNat [] ++ [t])) (es ++ [letB l B t a]) (by rw [List.length_set]; exact hL)
      refine ⟨this.1, fun i hi => ?_⟩
      rw [this.2 i hi, passL_congr D (q := rpQ l (LL.set a.toNat (LL.getD a.toNat [] ++ [t])) t) (q' := fun j => rpQ l LL t j && !decide (j = a)) fun j _ => rpQ_set hok hL hq j]
      have hset : ((LL.set a.toNat (LL.getD a.toNat [] ++ [t])).getD i []).getLast? = if a.toNat = i then some t else (LL.getD i []).getLast? := by
        rw [List.getD_eq_getElem?_getD, List.getElem?_set]
        by_cases e : a.toNat = i
        · rw [if_pos e, if_pos e, if_pos (by rw [hL]; omega), Option.getD_some]; simp
        · rw [if_neg e, if_neg e, ← List.getD_eq_getElem?_getD]
      rw [passL_yes hq, hset]
      by_cases e : a.toNat = i
      · have e3 : (i : Int) = a := by omega
        rw [if_pos e, if_pos (show (i : Int) ∈ a :: passL (fun j => rpQ l LL t j && !decide (j = a)) D from by rw [e3]; exact List.mem_cons_self)]
        split <;> rfl
      · have e3 : (i : Int) ≠ a := by omega
        rw [if_neg e]
        by_cases hm : (i : Int) ∈ passL (fun j => rpQ l LL t j && !decide (j = a)) D
        · rw [if_pos hm, if_pos (List.mem_cons_of_mem _ hm)]
        · rw [if_neg hm, if_neg (fun h => by rcases List.mem_cons.1 h with h | h; exact e3 h; exact hm h)]
theorem blk_step {l : List Task} (hok : okK l = true) {T t : Int} (ht : 0 ≤ t ∧ t < T) : ∀ (D : List Due) (s : S27) (LL : List (List Int)), (∀ d ∈ D, d.at_ = t) → GR l s.gs LL →
    (D.foldl (stepA T) s).lt = s.lt ++ (passL (rpQ l LL t) (D.map Due.task)).map (fun i => (⟨t, i⟩ : Due)) ∧
    GR l (D.foldl (stepA T) s).gs ((D.map Due.task).foldl (rAsk l t) ⟨newB, LL, []⟩).LL
  | [], s, LL, _, h => ⟨by simp [passL], h⟩
  | d :: D, s, LL, hD, h => by
    have hd : d = ⟨t, d.task⟩ := by have := hD d List.mem_cons_self; cases d; simp only at this; subst this; rfl
    have ho := ok_rpQ hok h ht d.task
    rw [List.foldl_cons, List.map_cons, List.foldl_cons]
    have hD' : ∀ x ∈ D, x.at_ = t := fun x hx => hD x (List.mem_cons_of_mem _ hx)
    have hLLirr : ∀ (E : List Int) (B B' : Bk) (L : List (List Int)) (es es' : List Event), (E.foldl (rAsk l t) ⟨B, L, es⟩).LL = (E.foldl (rAsk l t) ⟨B', L, es'⟩).LL := by
      intro E
      induction E with
      | nil => intro B B' L es es'; rfl
      | cons a E ih =>
        intro B B' L es es'
        rw [List.foldl_cons, List.foldl_cons]
        cases hq : rpQ l L t a
        · rw [show rAsk l t ⟨B, L, es⟩ a = ⟨B, L, es ++ [⟨t, 2, a, 0, 0⟩]⟩ by unfold rAsk; rw [if_neg (by simp only [hq]; decide)], show rAsk l t ⟨B', L, es'⟩ a = ⟨B', L, es' ++ [⟨t, 2, a, 0, 0⟩]⟩ by unfold rAsk; rw [if_neg (by simp only [hq]; decide)]]
          exact ih _ _ _ _ _
        · rw [show rAsk l t ⟨B, L, es⟩ a = ⟨relBk l B a t, L.set a.toNat (L.getD a.toNat [] ++ [t]), es ++ [letB l B t a]⟩ by unfold rAsk; rw [if_pos hq], show rAsk l t ⟨B', L, es'⟩ a = ⟨relBk l B' a t, L.set a.toNat (L.getD a.toNat [] ++ [t]), es' ++ [letB l B' t a]⟩ by unfold rAsk; rw [if_pos hq]]
          exact ih _ _ _ _ _
    cases hq : rpQ l LL t d.task
    · rw [hq, ← hd] at ho
      have e1 : stepA T s d = ⟨s.gs, s.lt, s.rf ++ [d]⟩ := by unfold stepA; rw [if_neg (by rw [ho]; decide)]
      have e2 : rAsk l t ⟨newB, LL, []⟩ d.task = ⟨newB, LL, [⟨t, 2, d.task, 0, 0⟩]⟩ := by unfold rAsk; rw [if_neg (by simp only [hq]; decide)]; rfl
      obtain ⟨i1, i2⟩ := blk_step hok ht D ⟨s.gs, s.lt, s.rf ++ [d]⟩ LL hD' h
      rw [e1, e2, i1, hLLirr _ _ newB _ _ []]
      refine ⟨?_, i2⟩
      rw [passL_no hq]
    · rw [hq, ← hd] at ho
      have hin := pass_in hq
      have hat : d.at_ = t := hD d List.mem_cons_self
      have e1 : stepA T s d = ⟨s.gs.set d.task.toNat ⟨(s.gs.getD d.task.toNat default).per, t, true⟩, s.lt ++ [⟨t, d.task⟩], s.rf⟩ := by unfold stepA; rw [if_pos ho, hat, ← hd]
      have e2 : rAsk l t ⟨newB, LL, []⟩ d.task = ⟨relBk l newB d.task t, LL.set d.task.toNat (LL.getD d.task.toNat [] ++ [t]), [letB l newB t d.task]⟩ := by unfold rAsk; rw [if_pos hq]; rfl
      obtain ⟨h1, h2, h3⟩ := h
      have hGR : GR l (s.gs.set d.task.toNat ⟨(s.gs.getD d.task.toNat default).per, t, true⟩) (LL.set d.task.toNat (LL.getD d.task.toNat [] ++ [t])) := by
        refine ⟨by rw [List.length_set]; exact h1, by rw [List.length_set]; exact h2, fun i hi => ?_⟩
        rw [getD_setG _ (by rw [h1]; omega), getD_setG _ (by rw [h2]; omega)]
        by_cases e : d.task.toNat = i
        · subst e
          rw [if_pos rfl, if_pos rfl]
          exact ⟨(h3 _ hi).1, by simp⟩
        · rw [if_neg e, if_neg e]
          exact h3 i hi
      obtain ⟨i1, i2⟩ := blk_step hok ht D ⟨s.gs.set d.task.toNat ⟨(s.gs.getD d.task.toNat default).per, t, true⟩, s.lt ++ [⟨t, d.task⟩], s.rf⟩ _ hD' hGR
      rw [e1, e2, i1, hLLirr _ _ newB _ _ []]
      refine ⟨?_, i2⟩
      rw [passL_yes hq, passL_congr (D.map Due.task) (q := rpQ l (LL.set d.task.toNat (LL.getD d.task.toNat [] ++ [t])) t) (q' := fun j => rpQ l LL t j && !decide (j = d.task)) fun j _ => rpQ_set hok h2 hq j]
      simp
theorem GR.last {l : List Task} {gs : List Gt} {LL L2 : List (List Int)} (h : GR l gs LL) (h2 : L2.length = l.length) (h3 : ∀ i : Nat, i < l.length → (L2.getD i []).getLast? = (LL.getD i []).getLast?) : GR l gs L2 :=
  ⟨h.1, h2, fun i hi => ⟨(h.2.2 i hi).1, by rw [(h.2.2 i hi).2, h3 i hi]⟩⟩
theorem sorted_cut {S : List Due} (hs : S.Pairwise leD) (t : Int) : S.filter (fun d => decide (d.at_ < t + 1)) = S.filter (fun d => decide (d.at_ < t)) ++ S.filter (fun d => decide (d.at_ = t)) ∧ S = S.filter (fun d => decide (d.at_ < t)) ++ S.filter (fun d => !decide (d.at_ < t)) := by
  have cut : ∀ R : List Due, R.Pairwise leD → R = R.filter (fun d => decide (d.at_ < t)) ++ R.filter (fun d => !decide (d.at_ < t)) := fun R hR => by
    have hp : R.Pairwise (fun a b => (fun d : Due => decide (d.at_ < t)) b = true → (fun d : Due => decide (d.at_ < t)) a = true) := hR.imp fun {a b} hab hb => by
      simp only [decide_eq_true_eq] at hb ⊢
      unfold leD at hab; omega
    obtain ⟨h1, h2⟩ := tw_filter hp
    rw [← h1, ← h2, List.takeWhile_append_dropWhile]
  refine ⟨?_, cut S hs⟩
  have h := cut _ (hs.filter fun d => decide (d.at_ < t + 1))
  rw [List.filter_filter, List.filter_filter] at h
  rw [h]
  congr 1
  · refine List.filter_congr fun d _ => ?_
    rw [Bool.eq_iff_iff, Bool.and_eq_true, decide_eq_true_eq, decide_eq_true_eq]; omega
  · refine List.filter_congr fun d _ => ?_
    rw [Bool.eq_iff_iff, Bool.and_eq_true, Bool.not_eq_true', decide_eq_false_iff_not, decide_eq_true_eq, decide_eq_true_eq]; omega
theorem step_no {T : Int} : ∀ (D : List Due) (s : S27), (∀ d ∈ D, d.at_ < 0 ∨ T ≤ d.at_) → (D.foldl (stepA T) s).lt = s.lt ∧ (D.foldl (stepA T) s).gs = s.gs
  | [], s, _ => ⟨rfl, rfl⟩
  | d :: D, s, h => by
    have hd := h d List.mem_cons_self
    have e : stepA T s d = ⟨s.gs, s.lt, s.rf ++ [d]⟩ := by
      unfold stepA
      rw [if_neg]
      unfold okA passD
      rcases hd with hd | hd
      · rw [decide_eq_false (show ¬ (0 ≤ d.at_ ∧ 1 ≤ (s.gs.getD d.task.toNat default).per) by omega)]; simp
      · rw [decide_eq_false (show ¬ (0 ≤ d.task ∧ d.task < s.gs.length ∧ d.at_ < T) by omega)]; simp
    rw [List.foldl_cons, e]
    exact step_no D ⟨s.gs, s.lt, s.rf ++ [d]⟩ fun x hx => h x (List.mem_cons_of_mem _ hx)
def sporA (l : List Task) (asks : List Due) (dm : List (List Int)) (S : List Due) (T : Nat) : List Due := (List.range T).flatMap fun u : Nat => (passL (rpQ l (rRun l asks dm u).LL u) ((S.filter fun d => decide (d.at_ = (u : Int))).map Due.task)).map fun i => (⟨u, i⟩ : Due)
theorem spor_run {l : List Task} (hok : okK l = true) (asks : List Due) (dm : List (List Int)) {T : Nat} {S : List Due} (hS : S.Pairwise leD) (hp : S.Perm asks) (s0 : S27) (h0 : GR l s0.gs (List.replicate l.length [])) : ∀ t : Nat, t ≤ T → t ≤ 100000 →
    ((S.filter fun d => decide (d.at_ < (t : Int))).foldl (stepA T) s0).lt = s0.lt ++ sporA l asks dm S t ∧ GR l ((S.filter fun d => decide (d.at_ < (t : Int))).foldl (stepA T) s0).gs (rRun l asks dm t).LL
  | 0, _, _ => by
    obtain ⟨h1, h2⟩ := step_no (T := T) (S.filter fun d => decide (d.at_ < ((0 : Nat) : Int))) s0 fun d hd => .inl (by have := (List.mem_filter.1 hd).2; simpa using this)
    rw [h1, h2]
    exact ⟨by simp [sporA], h0⟩
  | t + 1, ht, hb => by
    obtain ⟨i1, i2⟩ := spor_run hok asks dm (T := T) hS hp s0 h0 t (by omega) (by omega)
    have hc := (sorted_cut hS (t : Int)).1
    rw [show (((t + 1 : Nat)) : Int) = (t : Int) + 1 by push_cast; rfl, hc, List.foldl_append]
    generalize (S.filter fun d => decide (d.at_ < (t : Int))).foldl (stepA T) s0 = s at i1 i2 ⊢
    have h8 : l.length ≤ 8 := by rw [okK, Bool.and_eq_true, decide_eq_true_eq] at hok; omega
    have hri := (rRun_inv h8 asks dm t (by omega)).ri
    obtain ⟨b1, b2⟩ := blk_step hok (T := (T : Int)) (t := (t : Int)) ⟨by omega, by omega⟩ (S.filter fun d => decide (d.at_ = (t : Int))) s (rRun l asks dm t).LL (fun d hd => by simpa using (List.mem_filter.1 hd).2) i2
    refine ⟨?_, ?_⟩
    · rw [b1, i1]
      unfold sporA
      rw [List.range_succ, List.flatMap_append]
      simp
    · rw [rRun_next]
      have e : (rTick l asks dm (rRun l asks dm t) t).LL = (rBegin l (rRun l asks dm t).B (rRun l asks dm t).LL t (asksAt asks t)).LL := rfl
      rw [e]
      unfold rBegin
      simp only
      have a1 := ask_last hok (t := t) (asksAt asks t) ((List.range l.length).foldl (rTask l t) (rLate (rRun l asks dm t).B t)).1 (rRun l asks dm t).LL ((List.range l.length).foldl (rTask l t) (rLate (rRun l asks dm t).B t)).2 hri.len
      have a2 := ask_last hok (t := t) ((S.filter fun d => decide (d.at_ = (t : Int))).map Due.task) newB (rRun l asks dm t).LL [] hri.len
      refine b2.last a1.1 fun i hi => ?_
      rw [a1.2 i hi, a2.2 i hi]
      have hm : ((i : Int) ∈ passL (rpQ l (rRun l asks dm t).LL t) (asksAt asks t)) ↔ ((i : Int) ∈ passL (rpQ l (rRun l asks dm t).LL t) ((S.filter fun d => decide (d.at_ = (t : Int))).map Due.task)) := by
        rw [mem_passL, mem_passL]
        unfold asksAt
        rw [((hp.filter fun d => decide (d.at_ = (t : Int))).map Due.task).mem_iff]
      by_cases hx : (i : Int) ∈ passL (rpQ l (rRun l asks dm t).LL t) (asksAt asks t)
      · rw [if_pos hx, if_pos (hm.1 hx)]
      · rw [if_neg hx, if_neg (fun h => hx (hm.2 h))]
theorem got_perm {l : List Task} (hok : okK l = true) (asks : List Due) (dm : List (List Int)) (T : Nat) (hT : T ≤ 100000) : sortD (gotAll l asks dm T) = (allA l asks T).1 := by
  have hgr : GR l (gates0 l) (List.replicate l.length []) := by
    refine ⟨by simp [gates0], List.length_replicate, fun i hi => ?_⟩
    have e1 : (gates0 l).getD i default = ⟨perG (l.getD i default), 0, false⟩ := by
      unfold gates0
      rw [List.getD_eq_getElem?_getD, List.getElem?_map, List.getElem?_eq_getElem hi, List.getD_eq_getElem?_getD, List.getElem?_eq_getElem hi]; rfl
    have e2 : (List.replicate l.length ([] : List Int)).getD i [] = [] := by rw [List.getD_eq_getElem?_getD, List.getElem?_replicate, if_pos hi]; rfl
    rw [e1, e2]
    exact ⟨rfl, rfl⟩
  have hS := sortD_srt asks
  obtain ⟨h1, h2⟩ := spor_run hok asks dm (T := T) hS (sortD_perm asks) ⟨gates0 l, letT l T l.length, []⟩ hgr T (Nat.le_refl _) hT
  have hrun : (runA l (sortD asks) T).lt = letT l T l.length ++ sporA l asks dm (sortD asks) T := by
    unfold runA
    conv => lhs; rw [(sorted_cut hS (T : Int)).2]
    rw [List.foldl_append, (step_no (T := T) ((sortD asks).filter fun d => !decide (d.at_ < (T : Int))) _ fun d hd => .inr (by have := (List.mem_filter.1 hd).2; simp at this; omega)).1, h1]
  unfold allA
  rw [hrun]
  refine sortD_congr ?_
  have key : ∀ t : Nat, (gotAll l asks dm t).Perm (perA l t ++ sporA l asks dm (sortD asks) t) := by
    intro t
    induction t with
    | zero => exact List.Perm.refl _
    | succ t ih =>
      have e1 : gotAll l asks dm (t + 1) = gotAll l asks dm t ++ gotT l (rRun l asks dm t).LL asks t := by unfold gotAll; rw [List.range_succ, List.flatMap_append]; simp
      have e2 : perA l (t + 1) = perA l t ++ (nowL l t).map (fun i : Nat => (⟨(t : Int), i⟩ : Due)) := by unfold perA; rw [List.range_succ, List.flatMap_append]; simp
      have e3 : sporA l asks dm (sortD asks) (t + 1) = sporA l asks dm (sortD asks) t ++ (passL (rpQ l (rRun l asks dm t).LL t) (((sortD asks).filter fun d => decide (d.at_ = (t : Int))).map Due.task)).map (fun i => (⟨(t : Int), i⟩ : Due)) := by unfold sporA; rw [List.range_succ, List.flatMap_append]; simp
      rw [e1, e2, e3]
      unfold gotT
      have hpp : ((passL (rpQ l (rRun l asks dm t).LL t) (asksAt asks t)).map fun i => (⟨(t : Int), i⟩ : Due)).Perm ((passL (rpQ l (rRun l asks dm t).LL t) (((sortD asks).filter fun d => decide (d.at_ = (t : Int))).map Due.task)).map fun i => (⟨(t : Int), i⟩ : Due)) :=
        (perm_passL (((sortD_perm asks).symm.filter fun d => decide (d.at_ = (t : Int))).map Due.task) _).map _
      generalize ((passL (rpQ l (rRun l asks dm t).LL t) (asksAt asks t)).map fun i => (⟨(t : Int), i⟩ : Due)) = b at hpp ⊢
      generalize ((passL (rpQ l (rRun l asks dm t).LL t) (((sortD asks).filter fun d => decide (d.at_ = (t : Int))).map Due.task)).map fun i => (⟨(t : Int), i⟩ : Due)) = b' at hpp ⊢
      generalize (nowL l t).map (fun i : Nat => (⟨(t : Int), i⟩ : Due)) = a
      refine (ih.append ((List.Perm.refl a).append hpp)).trans ?_
      rw [List.append_assoc, List.append_assoc]
      refine List.Perm.append_left _ ?_
      rw [← List.append_assoc, ← List.append_assoc]
      exact List.Perm.append_right _ List.perm_append_comm
  exact (key T).trans ((perA_perm hok T).append_right _)
end Go.Proofs.YtfjoaeghnfkdlaaDoor
namespace Go.Proofs.YtfjoaeghnfkdlaaDoor
set_option maxRecDepth 100000
set_option maxRecDepth 100000
open Go.RowKit
theorem rsort_fn (l : List Due) (hn : l.length ≤ 1000000) : Fn Tryd.prog 14 [.lst 2 (l.map eDue)] (.lst 2 ((sortD l).map eDue)) := by
  refine fnb Tryd.func14 (entered_of (by kernel_rfl)) rfl rfl rfl ?_
  repeat' (first | refine sA ?_ | ((first | apply kM | apply kN); (iterate 3 (· exact rfl)); (· first | exact ya)) | refine sG ?_ | (refine sK ?_ ?_ <;> intro hc <;> (try simp only [KL, sL, reduceCtorEq] at hc) <;> (try (have hT : True := hc; clear hT hc)) <;> (try (exfalso; omega))))
  refine wloop (fun k : Nat => ([(3, .lst 2 ((sortD (l.take k)).map eDue)), (6, .lst 2 (l.map eDue)), (7, .int .i64 l.length), (8, .int .i64 k)], [])) (fun k => k ≤ l.length) (fun k => l.length - k) 0 (by omega) les leh (fun k hk => ?_)
  have hl : (sortD (l.take k)).length ≤ 1000000 := by rw [sortD_len, List.length_take]; omega
  repeat' (first | refine sA ?_ | (show O _ _ _ _ _ _ _; first | refine ao_alloc (id := 12) rfl rfl rfl rfl rfl rfl rfl ?_) | ((first | apply kM | apply kN); (iterate 3 (· exact rfl)); (· first | exact ya | exact q_c (rput_fn _ _ hl) rfl)) | refine sG ?_ | (refine sK ?_ ?_ <;> intro hc <;> (try simp only [KL, sL, reduceCtorEq] at hc) <;> (try (have hT : True := hc; clear hT hc)) <;> (try (exfalso; omega))))
  · exact ⟨k + 1, by omega, by omega, by rw [sortD_next l k (by omega)]; exact les, leh⟩
  · obtain rfl : k = l.length := by omega
    rw [List.take_length]
    exact retq rfl rfl
end Go.Proofs.YtfjoaeghnfkdlaaDoor
