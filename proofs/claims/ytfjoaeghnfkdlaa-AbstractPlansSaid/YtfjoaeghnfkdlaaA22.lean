/- The plan by ranks and the run tick by tick: plain. No condition. -/
import Derived.Test.YtfjoaeghnfkdlaaA21
import Derived.Test.YtfjoaeghnfkdlaaA20
import Derived.Test.YtfjoaeghnfkdlaaA19
import Derived.Test.YtfjoaeghnfkdlaaA6
import Derived.Test.YtfjoaeghnfkdlaaA7
set_option linter.unusedSimpArgs false
set_option linter.unusedVariables false
set_option maxHeartbeats 1000000
namespace Go.Proofs.Ytfjoaeghnfkdlaa
set_option maxRecDepth 100000
open Go.RowKit
theorem foldl_congrL {α β : Type} {f g : β → α → β} : ∀ (l : List α) (b : β), (∀ b a, a ∈ l → f b a = g b a) → l.foldl f b = l.foldl g b
  | [], _, _ => rfl
  | a :: l, b, h => by
    rw [List.foldl_cons, List.foldl_cons, h b a List.mem_cons_self]
    exact foldl_congrL l _ fun b a ha => h b a (List.mem_cons_of_mem _ ha)
theorem parts_map {α β : Type} {n : Nat} {id : Nat → Int} (tk : α → Int) (f : α → β) (P : Nat → List (Nat × α)) {L : List (Nat × α)} (hL : (L.map Prod.fst).Pairwise (· < ·)) (hs : ∀ p ∈ L, ∃ r < n, tk p.2 = id r) (hinj : ∀ r r', r < n → r' < n → id r = id r' → r = r')
    (hP : ∀ r < n, P r = L.filter fun p => decide (tk p.2 = id r)) :
    (((List.range n).foldl (fun m r => (P r).foldl (fun m p => setM m p.1 (f p.2)) m) ([] : List (Int × β))).map Prod.fst).Perm (L.map fun p => (p.1 : Int)) ∧ ∀ p ∈ L, getM ((List.range n).foldl (fun m r => (P r).foldl (fun m p => setM m p.1 (f p.2)) m) []) p.1 = some (f p.2) := by
  obtain ⟨h1, h2, h3⟩ := parts_keys tk hL hs hinj
  have e : (List.range n).foldl (fun m r => (P r).foldl (fun m p => setM m p.1 (f p.2)) m) ([] : List (Int × β)) = ((List.range n).flatMap fun r => L.filter fun p => decide (tk p.2 = id r)).map fun p => ((p.1 : Int), f p.2) := by
    rw [foldl_congrL (g := fun m r => (L.filter fun p => decide (tk p.2 = id r)).foldl (fun m p => setM m p.1 (f p.2)) m) _ _ fun b a ha => by rw [hP a (List.mem_range.1 ha)]]
    rw [foldl_parts f (fun r => L.filter fun p => decide (tk p.2 = id r)), foldl_setM f _ _ h1 (fun p _ => noK_nil _), List.nil_append]
  rw [e]
  have hk : ((((List.range n).flatMap fun r => L.filter fun p => decide (tk p.2 = id r)).map fun p => ((p.1 : Int), f p.2)).map Prod.fst) = ((((List.range n).flatMap fun r => L.filter fun p => decide (tk p.2 = id r)).map Prod.fst).map fun k : Nat => (k : Int)) := by
    rw [List.map_map, List.map_map]; rfl
  refine ⟨?_, fun p hp => ?_⟩
  · rw [hk]
    have := h2.map fun k : Nat => (k : Int)
    rw [List.map_map (l := L)] at this
    exact this
  · refine getM_of ?_ (List.mem_map.2 ⟨p, (h3 p).2 hp, rfl⟩)
    rw [hk]
    unfold List.Nodup at h1 ⊢
    rw [List.pairwise_map]
    exact h1.imp fun h e => h (by omega)
theorem relL_mem {n : Nat} {lt : List Due} {N : Int} {d : Due} (h : d ∈ sortD (relL n lt N)) : (0 ≤ d.task ∧ d.task < n) ∧ 0 ≤ d.at_ ∧ d.at_ < N := by
  have := (sortD_perm _).mem_iff.1 h
  unfold relL at this
  exact of_decide_eq_true (List.mem_filter.1 this).2
theorem plan_book (l : List Task) (lt : List Due) (dm : List (List Int)) (ticks : Int) (hl : l.length ≤ 64) : ∃ (JL : List (Nat × Job)) (OL : List (Nat × Due)),
    (layF l lt dm ticks).T = (runB (befB (priosL l)) l dm (sortD (relL l.length lt (ticksN ticks))) (ticksN ticks)).2 ∧
    (((layF l lt dm ticks).m1.map Prod.fst).Perm (JL.map fun p : Nat × Job => (p.1 : Int)) ∧ (JL.map Prod.fst).Pairwise (· < ·) ∧ (∀ p ∈ JL, getM (layF l lt dm ticks).m1 p.1 = some (missJ (ticksN ticks) p.2)) ∧ (runB (befB (priosL l)) l dm (sortD (relL l.length lt (ticksN ticks))) (ticksN ticks)).1.all.map (missJ (ticksN ticks)) = JL.map fun p => missJ (ticksN ticks) p.2) ∧
    (((layF l lt dm ticks).m2.map Prod.fst).Perm (OL.map fun p : Nat × Due => (p.1 : Int)) ∧ (OL.map Prod.fst).Pairwise (· < ·) ∧ (∀ p ∈ OL, getM (layF l lt dm ticks).m2 p.1 = some p.2) ∧ (runB (befB (priosL l)) l dm (sortD (relL l.length lt (ticksN ticks))) (ticksN ticks)).1.overs = OL.map Prod.snd) ∧
    GoodB l ((sortD (relL l.length lt (ticksN ticks))).length * ticksN ticks + 2 * ticksN ticks) (runB (befB (priosL l)) l dm (sortD (relL l.length lt (ticksN ticks))) (ticksN ticks)).1 := by
  obtain ⟨N, hN⟩ : ∃ N, N = ticksN ticks := ⟨_, rfl⟩
  obtain ⟨S, hSe⟩ : ∃ S, S = sortD (relL l.length lt (ticksN ticks)) := ⟨_, rfl⟩
  have hNb : N ≤ 1000000 := by rw [hN]; unfold ticksN; omega
  have hS : S.Pairwise leD := by rw [hSe]; exact sortD_srt _
  have hm : ∀ d ∈ S, (0 ≤ d.task ∧ d.task < l.length) ∧ 0 ≤ d.at_ ∧ d.at_ < N := fun d hd => by rw [hSe] at hd; have := relL_mem hd; rw [hN]; exact this
  have hk := rki l
  obtain ⟨r1, JL, OL, r2, r3, r4⟩ := run_plan (dm := dm) (S := S) hl (rkL (priosL l) l.length) hk hS (fun d hd => ⟨(hm d hd).2.1, (hm d hd).1⟩) N hNb
  have hlay := lay_pl l dm S (rkL (priosL l) l.length) N (fun d hd => (hm d hd).2) l.length
  have hF : layF l lt dm ticks = layTo l dm S (rkL (priosL l) l.length) ⟨List.replicate N (-1), [], []⟩ l.length := by
    unfold layF; rw [hSe, hN]
  rw [← hSe, ← hN, hF, hlay]
  have hJs : ∀ p ∈ JL, ∃ r < l.length, p.2.task = idxFrom (rkL (priosL l) l.length) r 0 := fun p hp => by
    obtain ⟨i, hi, e⟩ := List.getElem_of_mem hp
    have hi' : i < (runB (befB (priosL l)) l dm S N).1.all.length := by rw [← r2.len]; exact hi
    obtain ⟨q, q1, q2⟩ := r2.at_ hi'
    rw [List.getElem?_eq_getElem hi, e] at q1
    cases q1
    have ht := r2.good.task i hi'
    have ht2 : p.2.task = ((runB (befB (priosL l)) l dm S N).1.all.getD i default).task := by rw [q2]; rfl
    obtain ⟨r, hr, er⟩ := hk.sur p.2.task.toNat (by omega)
    exact ⟨r, hr, by omega⟩
  have hkey : ∀ p ∈ OL, ∃ r < l.length, p.2.task = idxFrom (rkL (priosL l) l.length) r 0 := r2.ot
  have hJ := parts_map (fun j : Job => j.task) (missJ N) (fun r => (qR l dm S (rkL (priosL l) l.length) N r).js ++ (qR l dm S (rkL (priosL l) l.length) N r).cur.toList) r3.lt hJs hk.inj (fun r hr => (r2.js r hr).symm)
  have hO := parts_map (fun d : Due => d.task) (fun d => d) (fun r => (qR l dm S (rkL (priosL l) l.length) N r).ov) r4.lt hkey hk.inj (fun r hr => (r2.ov r hr).symm)
  refine ⟨JL, OL, r1.symm, ⟨hJ.1, r3.lt, hJ.2, ?_⟩, ⟨hO.1, r4.lt, hO.2, r2.ovs⟩, ?_⟩
  · have := congrArg (List.map (missJ N)) r2.all
    rw [List.map_map, List.map_map] at this
    exact this
  · have e : (S.length + 2) * N = S.length * N + 2 * N := Nat.add_mul _ _ _
    rw [← e]; exact r2.good
end Go.Proofs.Ytfjoaeghnfkdlaa
namespace Go.Proofs.Ytfjoaeghnfkdlaa
set_option maxRecDepth 100000
open Go.RowKit
def relF (l : List Task) (t : Nat) (B : Bk) (d : Due) : Bk := if d.at_ = (t : Int) then relBk l B d.task t else B
def relR (l : List Task) (S : List Due) (t : Nat) (B : Bk) (k : Nat) : Bk := (S.take k).foldl (relF l t) B
theorem relR_next (l : List Task) (S : List Due) (t : Nat) (B : Bk) (k : Nat) (h : k < S.length) : relR l S t B (k + 1) = relF l t (relR l S t B k) (S.getD k default) := by
  have e : S.getD k default = S[k] := by simp [h]
  rw [relR, List.take_succ_eq_append_getElem h, List.foldl_append, e]; rfl
def cntR (S : List Due) (t : Nat) : Nat := (S.filter fun d => decide (d.at_ < (t : Int))).length
def cntK (S : List Due) (t k : Nat) : Nat := ((S.take k).filter fun d => decide (d.at_ = (t : Int))).length
theorem cntR_next : ∀ (S : List Due) (t : Nat), cntR S (t + 1) = cntR S t + (S.filter fun d => decide (d.at_ = (t : Int))).length
  | [], t => rfl
  | d :: S, t => by
    have ih := cntR_next S t
    unfold cntR at *
    simp only [List.filter_cons]
    by_cases h1 : d.at_ < (t : Int)
    · rw [if_pos (by simp; omega), if_pos (by simp; omega), if_neg (by simp; omega)]
      simp only [List.length_cons]; omega
    · by_cases h2 : d.at_ = (t : Int)
      · rw [if_pos (by simp; omega), if_neg (by simp; omega), if_pos (by simp; omega)]
        simp only [List.length_cons]; omega
      · rw [if_neg (by simp; omega), if_neg (by simp; omega), if_neg (by simp; omega)]
        exact ih
theorem cntR_le (S : List Due) (t : Nat) : cntR S t ≤ S.length := List.length_filter_le _ _
theorem cntK_next (S : List Due) (t k : Nat) (h : k < S.length) : cntK S t (k + 1) = cntK S t k + if (S.getD k default).at_ = (t : Int) then 1 else 0 := by
  have e : S.getD k default = S[k] := by simp [h]
  rw [cntK, List.take_succ_eq_append_getElem h, List.filter_append, List.length_append, e]
  simp only [List.filter_cons, List.filter_nil, decide_eq_true_eq]
  split <;> rfl
theorem cntK_all (S : List Due) (t : Nat) : cntK S t S.length = (S.filter fun d => decide (d.at_ = (t : Int))).length := by rw [cntK, List.take_length]
theorem cntK_mono (S : List Due) (t : Nat) : ∀ k, k ≤ S.length → cntK S t k ≤ cntK S t S.length := fun k _ => by
  unfold cntK
  rw [List.take_length]
  exact (List.Sublist.filter _ (List.take_sublist k S)).length_le
def runR (ah : Int → Int → Bool) (l : List Task) (dm : List (List Int)) (S : List Due) : Nat → Bk × List Int
  | 0 => (newB, [])
  | t + 1 =>
    let B := relR l S t (runR ah l dm S t).1 S.length
    (dayB ah l dm t B, (runR ah l dm S t).2 ++ [pkA ah B l.length])
theorem relR_good {l : List Task} {S : List Due} {t n : Nat} {B : Bk} (h : GoodB l n B) : ∀ k, k ≤ S.length → GoodB l (n + cntK S t k) (relR l S t B k)
  | 0, _ => h
  | k + 1, hk => by
    have ih := relR_good (S := S) (t := t) h k (by omega)
    rw [relR_next _ _ _ _ _ (by omega), cntK_next _ _ _ (by omega), relF]
    split
    · exact ih.rel _ _
    · exact ih
theorem dayB_good {ah : Int → Int → Bool} {l : List Task} {dm : List (List Int)} {t n : Nat} {B : Bk} (h : GoodB l n B) : GoodB l (n + 2) (dayB ah l dm t B) := by
  unfold dayB
  simp only
  split
  · exact h.mono.mono
  · split
    · exact (h.step _ _).fin _ _
    · exact (h.step _ _).mono
theorem GoodB.le {l : List Task} {n : Nat} {B : Bk} (h : GoodB l n B) : ∀ k, GoodB l (n + k) B
  | 0 => h
  | k + 1 => (h.le k).mono
theorem runR_good {ah : Int → Int → Bool} {l : List Task} {dm : List (List Int)} {S : List Due} (hl : l.length ≤ 64) : ∀ t, GoodB l (cntR S t + 2 * t) (runR ah l dm S t).1
  | 0 => by
    have := (good_new hl).le (cntR S 0)
    rwa [Nat.zero_add] at this
  | t + 1 => by
    have ih := runR_good (ah := ah) (dm := dm) (S := S) hl t
    have h2 := relR_good (S := S) (t := t) ih S.length (Nat.le_refl _)
    have h3 := dayB_good (ah := ah) (dm := dm) (t := t) h2
    rw [cntK_all] at h3
    rw [cntR_next, show cntR S t + (S.filter fun d => decide (d.at_ = (t : Int))).length + 2 * (t + 1) = cntR S t + 2 * t + (S.filter fun d => decide (d.at_ = (t : Int))).length + 2 by omega]
    exact h3
theorem runR_len {ah : Int → Int → Bool} {l : List Task} {dm : List (List Int)} {S : List Due} : ∀ t, (runR ah l dm S t).2.length = t
  | 0 => rfl
  | t + 1 => by rw [runR]; simp only [List.length_append, List.length_cons, List.length_nil, runR_len t]
theorem pkA_congr {ah ah' : Int → Int → Bool} {B : Bk} {n : Nat} (h : ∀ a b : Int, 0 ≤ a → a < n → 0 ≤ b → b < n → ah a b = ah' a b) : ∀ k, k ≤ n → pkA ah B k = pkA ah' B k ∧ (pkA ah B k < 0 ∨ pkA ah B k < k)
  | 0, _ => ⟨rfl, .inl (by show (-1 : Int) < 0; omega)⟩
  | k + 1, hk => by
    obtain ⟨ih, h2⟩ := pkA_congr h k (by omega)
    rw [pkA_next, pkA_next, ← ih]
    have e : (decide (pkA ah B k < 0) || ah k (pkA ah B k)) = (decide (pkA ah B k < 0) || ah' k (pkA ah B k)) := by
      by_cases h3 : pkA ah B k < 0
      · rw [decide_eq_true h3]; rfl
      · rw [decide_eq_false h3, h k (pkA ah B k) (by omega) (by omega) (by omega) (by omega)]
    rw [e]
    refine ⟨rfl, ?_⟩
    split
    · right; omega
    · omega
theorem foldl_pairs (g : Bk → Due → Bk) : ∀ (ps : List (Nat × Due)) (B : Bk), ps.foldl (fun B p => g B p.2) B = (ps.map Prod.snd).foldl g B
  | [], _ => rfl
  | p :: ps, B => by rw [List.foldl_cons, List.map_cons, List.foldl_cons, foldl_pairs g ps]
theorem newK_snd (S : List Due) (t : Nat) : (newK S t).map Prod.snd = S.filter fun d => decide (d.at_ = (t : Int)) := by
  have e : S = (List.range S.length).map fun k => S.getD k default := by
    apply List.ext_getElem
    · simp
    · intro i h1 h2; simp at h2; simp [h2]
  unfold newK
  conv => rhs; rw [e]
  rw [List.filter_map, List.filter_map, List.map_map]
  rfl
theorem foldl_relF (l : List Task) (t : Nat) : ∀ (S : List Due) (B : Bk), S.foldl (relF l t) B = ((S.filter fun d => decide (d.at_ = (t : Int)))).foldl (fun B d => relBk l B d.task t) B
  | [], _ => rfl
  | d :: S, B => by
    rw [List.foldl_cons, List.filter_cons, relF]
    by_cases h : d.at_ = (t : Int)
    · rw [if_pos h, if_pos (by simp [h]), List.foldl_cons]; exact foldl_relF l t S _
    · rw [if_neg h, if_neg (by simp [h])]; exact foldl_relF l t S _
theorem foldl_in (l : List Task) (t : Int) (p : Due → Bool) : ∀ (S : List Due) (B : Bk), (∀ d ∈ S, p d = false → d.task < 0 ∨ (l.length : Int) ≤ d.task) → S.foldl (fun B d => relBk l B d.task t) B = (S.filter p).foldl (fun B d => relBk l B d.task t) B
  | [], _, _ => rfl
  | d :: S, B, hp => by
    have hp' := fun e he => hp e (List.mem_cons_of_mem _ he)
    rw [List.foldl_cons, List.filter_cons]
    cases h : p d
    · rw [relBk, if_pos (hp d List.mem_cons_self h), if_neg (by decide)]; exact foldl_in l t p S B hp'
    · rw [if_pos rfl, List.foldl_cons]; exact foldl_in l t p S _ hp'
theorem sortD_filt (p : Due → Bool) (l : List Due) : (sortD l).filter p = sortD (l.filter p) := sortD_eq ((sortD_perm l).filter p) ((sortD_srt l).filter p)
theorem runR_eq {ah ah' : Int → Int → Bool} (l : List Task) (dm : List (List Int)) (lt : List Due) (N : Nat) (h : ∀ a b : Int, 0 ≤ a → a < l.length → 0 ≤ b → b < l.length → ah a b = ah' a b) : ∀ t, t ≤ N → runR ah l dm (sortD lt) t = runB ah' l dm (sortD (relL l.length lt N)) t
  | 0, _ => rfl
  | t + 1, ht => by
    have ih := runR_eq l dm lt N h t (by omega)
    rw [runR, runB, ih]
    have e : relR l (sortD lt) t (runB ah' l dm (sortD (relL l.length lt N)) t).1 (sortD lt).length = relsB l (sortD (relL l.length lt N)) t (runB ah' l dm (sortD (relL l.length lt N)) t).1 := by
      unfold relR relsB
      rw [List.take_length, foldl_relF, foldl_pairs (fun B d => relBk l B d.task t), newK_snd]
      rw [show sortD (relL l.length lt N) = (sortD lt).filter (relB l.length N) from (sortD_filt _ _).symm]
      rw [foldl_in l t (relB l.length N)]
      · rw [List.filter_filter, List.filter_filter]
        congr 1
        apply List.filter_congr
        intro d _
        exact Bool.and_comm _ _
      · intro d hd hf
        have h1 : d.at_ = (t : Int) := by simpa using (List.mem_filter.1 hd).2
        unfold relB at hf
        have h2 := of_decide_eq_false hf
        omega
    simp only [e]
    have e2 := (pkA_congr (B := relsB l (sortD (relL l.length lt N)) t (runB ah' l dm (sortD (relL l.length lt N)) t).1) h l.length (Nat.le_refl _)).1
    rw [dayB, dayB]
    simp only [e2]
end Go.Proofs.Ytfjoaeghnfkdlaa
namespace Go.Proofs.Ytfjoaeghnfkdlaa
set_option maxRecDepth 100000
open Go.RowKit
theorem srtI_eq {L : List Nat} (hL : L.Pairwise (· < ·)) {l : List Int} (hp : l.Perm (L.map fun k : Nat => (k : Int))) : srtI l = L.map fun k : Nat => (k : Int) := by
  have h1 : (srtI l).Perm (L.map fun k : Nat => (k : Int)) := (srtI_perm l).trans hp
  have h2 : (srtI l).Pairwise (· ≤ ·) := by
    have := List.pairwise_mergeSort (le := fun x y : Int => decide (x ≤ y)) (fun a b c => by simp only [decide_eq_true_eq]; omega) (fun a b => by simp only [Bool.or_eq_true, decide_eq_true_eq]; omega) l
    exact this.imp fun h => of_decide_eq_true h
  have h3 : (L.map fun k : Nat => (k : Int)).Pairwise (· ≤ ·) := by
    rw [List.pairwise_map]
    exact hL.imp fun h => by omega
  exact h1.eq_of_pairwise (fun a b _ _ h1 h2 => Int.le_antisymm h1 h2) h2 h3
theorem ordM_eq {α β : Type} [Inhabited β] {m : List (Int × β)} (JL : List (Nat × α)) (f : α → β) (h1 : (m.map Prod.fst).Perm (JL.map fun p => (p.1 : Int))) (h2 : (JL.map Prod.fst).Pairwise (· < ·)) (h3 : ∀ p ∈ JL, getM m p.1 = some (f p.2)) : ordM m = JL.map fun p => f p.2 := by
  have e : (JL.map fun p => (p.1 : Int)) = (JL.map Prod.fst).map fun k : Nat => (k : Int) := by rw [List.map_map]; rfl
  rw [e] at h1
  rw [ordM, srtI_eq h2 h1, List.map_map, List.map_map]
  apply List.map_congr_left
  intro p hp
  simp only [Function.comp]
  rw [h3 p hp]; rfl
theorem befB_ahB {l : List Task} {a b : Int} (ha : 0 ≤ a) (ha2 : a < l.length) (hb : 0 ≤ b) (hb2 : b < l.length) : ahB l a b = befB (priosL l) a b := by
  rw [ahB, decide_eq_true (by omega), Bool.true_and]
theorem plan_run (l : List Task) (lt : List Due) (dm : List (List Int)) (ticks : Int) (hl : l.length ≤ 64) :
    (layF l lt dm ticks).T = (runR (ahB l) l dm (sortD lt) (ticksN ticks)).2 ∧
    ordM (layF l lt dm ticks).m1 = (runR (ahB l) l dm (sortD lt) (ticksN ticks)).1.all.map (missJ (ticksN ticks)) ∧
    ordM (layF l lt dm ticks).m2 = (runR (ahB l) l dm (sortD lt) (ticksN ticks)).1.overs := by
  obtain ⟨JL, OL, h1, ⟨j1, j2, j3, j4⟩, ⟨o1, o2, o3, o4⟩, hg⟩ := plan_book l lt dm ticks hl
  rw [runR_eq (ah' := befB (priosL l)) l dm lt (ticksN ticks) (fun a b ha ha2 hb hb2 => befB_ahB ha ha2 hb hb2) _ (Nat.le_refl _)]
  refine ⟨h1, ?_, ?_⟩
  · rw [j4]; exact ordM_eq JL _ j1 j2 j3
  · rw [o4]; exact ordM_eq OL (fun d => d) o1 o2 o3
theorem plan_lens (l : List Task) (lt : List Due) (dm : List (List Int)) (ticks : Int) (hl : l.length ≤ 64) (hlt : lt.length ≤ 200) (ht : ticks ≤ 500) :
    (layF l lt dm ticks).m1.length ≤ 1000000 ∧ (layF l lt dm ticks).m2.length ≤ 1000000 := by
  obtain ⟨JL, OL, h1, ⟨j1, j2, j3, j4⟩, ⟨o1, o2, o3, o4⟩, hg⟩ := plan_book l lt dm ticks hl
  have hN : ticksN ticks ≤ 500 := by unfold ticksN; omega
  have hS : (sortD (relL l.length lt (ticksN ticks))).length ≤ 200 := by
    rw [sortD_len]; exact Nat.le_trans (List.length_filter_le _ _) hlt
  have hb : (sortD (relL l.length lt (ticksN ticks))).length * ticksN ticks ≤ 200 * 500 := Nat.mul_le_mul hS hN
  have ha := hg.alen
  have ho := hg.olen
  have e1 := j1.length_eq
  have e2 := o1.length_eq
  have e3 := congrArg List.length j4
  have e4 := congrArg List.length o4
  simp only [List.length_map] at e1 e2 e3 e4
  omega
end Go.Proofs.Ytfjoaeghnfkdlaa
namespace Go.Proofs.Ytfjoaeghnfkdlaa
set_option maxRecDepth 100000
open Go.RowKit
variable {P : Program} {s : Slots} {h : Heap} {o : Oper}
theorem q_dec {side : Prop} {p c : Bool} (hp : p = c) (hs : stepO P s h o = some (side, .bool p)) (hside : side) : Y P o s h (.bool c) := hp ▸ q_s hs hside
end Go.Proofs.Ytfjoaeghnfkdlaa
namespace Go.Proofs.Ytfjoaeghnfkdlaa
set_option maxRecDepth 100000
set_option maxRecDepth 100000
open Go.RowKit
section
variable {n : Md} {s : Slots} {h : Heap}
theorem frz_core {E : Env} {σ : Sig} {ι : Nat → Value} {w : World} {id sz : Nat} {e : TypeId} {xs : List (List AV)} (hr : Rel E σ ι h w) (hg : hget h id = some (.row e sz xs)) (h10 : 10 ≤ id ∧ id < 100) : ∃ σ', Sig.le σ σ' ∧ Rel E σ' ι (hdel id h) w ∧ VR σ' ι (.lst sz xs) (ι id) := by
  obtain ⟨hsz0, hsz, vs, hown, hL⟩ := hr.ch id _ hg
  rcases hown.2 with ⟨h1, h2⟩ | ⟨g, cap, cur, h1, _, h2, h3, h4, h5, h6⟩
  · have hnil : xs = [] := List.eq_nil_of_length_eq_zero h2
    subst hnil
    refine ⟨σ, Sig.le.refl σ, hr.le fun i c hc => ?_, ?_⟩
    · rw [hget_hdel] at hc
      split at hc
      · cases hc
      · exact hc
    · rw [h1]; exact .base _ _ (.empty _ _ _ (by simp))
  · obtain ⟨h7, h8⟩ := hr.letGo hg (g := g) (by rw [h1]; rfl) h10 (xs.length * sz)
    refine ⟨_, h7, h8, ?_⟩
    rw [h1]
    have hfl := flatten_length hsz
    refine .base _ _ (.lst _ _ _ 0 _ (fun j => (vs[j]?).getD undef) h3 h4 hsz (fun j c hc => ?_) fun j c hc => ?_)
    · obtain ⟨u, hu, _⟩ := hL.get hc
      have hj : j < xs.length * sz := by rw [← hfl]; exact (List.getElem?_eq_some_iff.1 hc).1
      unfold sigRow
      rw [if_pos ⟨rfl, rfl, by simpa using hj⟩]
      rw [hu]
      rw [← h6, List.getElem?_take] at hu
      rw [if_pos hj] at hu
      simp only [World.cell?, h2, Option.isSome_none, Bool.false_eq_true, if_false, Nat.zero_add, Option.getD_some]
      rw [← Array.getElem?_toList]; exact hu
    · obtain ⟨u, hu, hR⟩ := hL.get hc
      rw [hu]; exact hR.mono h7
theorem turn_frzJ {b id sz : Nat} {ty e : TypeId} {cs : List AV} {xs : List (List AV)} (j : Nat) (hg : hget h b = some (.blk ty cs)) (hj : cs[j]? = some (.own id)) (hi : hget h id = some (.row e sz xs)) (h10 : locQ id = true) : Turns n s h s ((b, .blk ty (cs.set j (.lst sz xs))) :: hdel id h) := by
  intro E σ ι a w hr ht
  have hbi : b ≠ id := fun e => by rw [e, hi] at hg; cases hg
  obtain ⟨σ', q1, r1, q3⟩ := frz_core hr hi (locQ_spec h10)
  have hgb : hget (hdel id h) b = some (.blk ty cs) := by rw [hget_hdel, if_neg (by first | exact hbi | exact fun e => hbi e.symm)]; exact hg
  obtain ⟨g, cur, e1, e2, e3⟩ := r1.ch b _ hgb
  have hsame : Ytfjoaeghnfkdlaa.upd ι b (ι b) = ι := by funext i; unfold Ytfjoaeghnfkdlaa.upd; split <;> simp_all
  have hnew := r1.turn (id := b) (u := ι b) (h' := (b, .blk ty (cs.set j (.lst sz xs))) :: hdel id h) (c' := .blk ty (cs.set j (.lst sz xs))) (w' := w)
    (fun i c hi hc => by rw [hget_cons, if_neg (fun e => hi e.symm)] at hc; exact ⟨hc, .inl rfl⟩) (by rw [hget_cons, if_pos rfl])
    (by rw [hsame]; exact ⟨g, cur, e1, e2, by rw [List.length_set]; exact e3.1, fun k x y hx hy => by
      rw [List.getElem?_set] at hx
      by_cases hjk : j = k
      · subst hjk
        have h5 := e3.2 j (.own id) y hj hy
        have hjl := (List.getElem?_eq_some_iff.1 hj).1
        rw [if_pos rfl, if_pos hjl] at hx
        cases hx
        rw [h5.own_inv]; exact q3
      · rw [if_neg hjk] at hx
        exact e3.2 k x y hx hy⟩)
    rfl rfl rfl (Nat.le_refl _) (fun _ _ _ => rfl) (fun g hv => .inl ⟨_, hgb, hv⟩) (.inr rfl)
  rw [hsame] at hnew
  exact ⟨σ', ι, hnew, ⟨ht.size, ht.defers, fun u => (ht.at_ u).mono q1⟩⟩
end
end Go.Proofs.Ytfjoaeghnfkdlaa
