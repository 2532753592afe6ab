/- The kernel's run is the document's. No condition. -/
import Derived.Test.YtfjoaeghnfkdlaaGreatDoorC23
import Derived.Test.YtfjoaeghnfkdlaaGreatDoorC20
set_option linter.unusedSimpArgs false
set_option linter.unusedVariables false
set_option maxHeartbeats 1000000
namespace Go.Proofs.YtfjoaeghnfkdlaaGreatDoor
set_option maxRecDepth 100000
open Go.RowKit
/-! When periodic tasks come. -/
def nx (t : Task) (now : Int) : Int := if now ≤ t.offset then t.offset else t.offset + ceilZ (now - t.offset) t.period * t.period
structure Per (t : Task) : Prop where
  plain : plainB t = true
  kind : t.kind = 1
  off : 0 ≤ t.offset ∧ t.offset ≤ 1048576
  per : 1 ≤ t.period ∧ t.period ≤ 1048576
theorem nx_ge {t : Task} (h : Per t) {now : Int} : now ≤ nx t now := by
  have := h.per
  unfold nx; split
  · assumption
  · have := ceil_mul (now - t.offset) t.period (by omega) (by omega); omega
theorem nx_mod {t : Task} (h : Per t) {now : Int} (h1 : t.offset ≤ now) : nx t now = now ↔ (now - t.offset) % t.period = 0 := by
  have hp := h.per
  unfold nx
  by_cases hlo : now ≤ t.offset
  · rw [if_pos hlo]
    have e : now - t.offset = 0 := by omega
    rw [e]; simp; omega
  · rw [if_neg hlo]
    have hc := ceil_mul (now - t.offset) t.period (by omega) (by omega)
    generalize hq : ceilZ (now - t.offset) t.period = q at hc
    constructor
    · intro e
      have : now - t.offset = q * t.period := by omega
      rw [this]; exact Int.mul_emod_left _ _
    · intro e
      obtain ⟨d, hd⟩ := Int.dvd_of_emod_eq_zero e
      rw [Int.mul_comm] at hd
      rw [hd] at hc
      have h2 : d = q := by
        rcases Int.lt_trichotomy d q with h3 | h3 | h3
        · have : (d + 1) * t.period ≤ q * t.period := Int.mul_le_mul_of_nonneg_right (by omega) (by omega)
          rw [Int.add_mul, Int.one_mul] at this; omega
        · exact h3
        · have : (q + 1) * t.period ≤ d * t.period := Int.mul_le_mul_of_nonneg_right (by omega) (by omega)
          rw [Int.add_mul, Int.one_mul] at this; omega
      rw [h2] at hd; omega
theorem at_iff {t : Task} (h : Per t) {now : Int} (hn : 0 ≤ now ∧ now ≤ 1000000) : atB t now = true ↔ nx t now = now := by
  unfold atB
  rw [h.plain, Bool.true_and, decide_eq_true_eq]
  by_cases h1 : t.offset ≤ now
  · rw [nx_mod h h1]
    exact ⟨fun h => h.2.2.2, fun h2 => ⟨h.kind, h1, by omega, h2⟩⟩
  · constructor
    · intro h2; omega
    · intro h2
      unfold nx at h2
      rw [if_pos (by omega)] at h2; omega
theorem nx_next {t : Task} (h : Per t) {now : Int} : nx t (now + 1) = if nx t now = now then now + t.period else nx t now := by
  have hp := h.per
  by_cases h1 : t.offset ≤ now
  · have e1 : nx t (now + 1) = t.offset + ceilZ (now + 1 - t.offset) t.period * t.period := by unfold nx; rw [if_neg (by omega)]
    have c1 := ceil_mul (now + 1 - t.offset) t.period (by omega) (by omega)
    rw [e1]
    generalize ceilZ (now + 1 - t.offset) t.period = q at c1
    split
    · rename_i h2
      rw [nx_mod h h1] at h2
      obtain ⟨d, hd⟩ := Int.dvd_of_emod_eq_zero h2
      rw [Int.mul_comm] at hd
      have h3 : q = d + 1 := by
        rcases Int.lt_trichotomy q (d + 1) with h3 | h3 | h3
        · have : q * t.period ≤ d * t.period := Int.mul_le_mul_of_nonneg_right (by omega) (by omega)
          omega
        · exact h3
        · have : (d + 2) * t.period ≤ q * t.period := Int.mul_le_mul_of_nonneg_right (by omega) (by omega)
          rw [Int.add_mul] at this; omega
      rw [h3, Int.add_mul, Int.one_mul]; omega
    · rename_i h2
      have hg := nx_ge h (now := now)
      unfold nx at h2 hg ⊢
      by_cases hlo : now ≤ t.offset
      · rw [if_pos hlo] at h2; omega
      · rw [if_neg hlo] at h2 hg ⊢
        have c2 := ceil_mul (now - t.offset) t.period (by omega) (by omega)
        generalize ceilZ (now - t.offset) t.period = d at c2 h2 hg
        have h3 : q = d := by
          rcases Int.lt_trichotomy q d with h3 | h3 | h3
          · have : (q + 1) * t.period ≤ d * t.period := Int.mul_le_mul_of_nonneg_right (by omega) (by omega)
            rw [Int.add_mul, Int.one_mul] at this; omega
          · exact h3
          · have : (d + 1) * t.period ≤ q * t.period := Int.mul_le_mul_of_nonneg_right (by omega) (by omega)
            rw [Int.add_mul, Int.one_mul] at this; omega
        rw [h3]
  · have e1 : nx t (now + 1) = t.offset := by unfold nx; rw [if_pos (by omega)]
    have e2 : nx t now = t.offset := by unfold nx; rw [if_pos (by omega)]
    rw [e1, e2, if_neg (by omega)]
theorem nx_zero {t : Task} (h : Per t) : nx t 0 = t.offset := by unfold nx; rw [if_pos h.off.1]
theorem nextZ_per {t : Task} (h : Per t) : nextZ t 0 = t.offset := by
  have := h.off
  unfold nextZ
  rw [if_pos ⟨h.plain, h.kind, by omega⟩]
  simp only [if_pos h.off.1]
  rw [if_neg (by omega)]
theorem nextZ_not {t : Task} (h : t.kind ≠ 1) : nextZ t 0 = -1 := by unfold nextZ; rw [if_neg (fun h2 => h h2.2.1)]
theorem at_not {t : Task} {now : Int} (h : t.kind ≠ 1) : atB t now = false := by
  unfold atB
  rw [decide_eq_false (fun h2 => h h2.1), Bool.and_false]
/-! The agenda. -/
def perL (l : List Task) : List Nat := (List.range l.length).filter fun i => decide ((l.getD i default).kind = 1)
def nxS (l : List Task) (now : Int) : List Due := (perL l).map fun i => ⟨nx (l.getD i default) now, i⟩
theorem perL_per {l : List Task} (hok : okK l = true) {i : Nat} (h : i ∈ perL l) : i < l.length ∧ Per (l.getD i default) := by
  obtain ⟨h1, h2⟩ := List.mem_filter.1 h
  rw [List.mem_range] at h1
  rw [okK, Bool.and_eq_true] at hok
  have hp := List.all_eq_true.1 hok.2 (l.getD i default) (getD_mem h1)
  have hs := plainB_spec hp
  exact ⟨h1, hp, by simpa using h2, hs.2.2.2.1, hs.2.2.1⟩
theorem first_nx {l : List Task} (hok : okK l = true) : firstS l l.length = nxS l 0 := by
  have e : ((List.range l.length).filter fun i => decide (0 ≤ nextZ (l.getD i default) 0)) = perL l := by
    unfold perL
    refine List.filter_congr fun i hi => ?_
    rw [List.mem_range] at hi
    by_cases hk : (l.getD i default).kind = 1
    · have hp := (perL_per hok (i := i) (List.mem_filter.2 ⟨List.mem_range.2 hi, by simpa using hk⟩)).2
      rw [nextZ_per hp, decide_eq_true hp.off.1, decide_eq_true hk]
    · rw [nextZ_not hk, decide_eq_false hk]; rfl
  unfold firstS nxS
  rw [e]
  refine List.map_congr_left fun i hi => ?_
  have hp := (perL_per hok hi).2
  rw [nextZ_per hp, nx_zero hp]
theorem tw_filter {p : Due → Bool} : ∀ {S : List Due}, S.Pairwise (fun a b => p b = true → p a = true) → S.takeWhile p = S.filter p ∧ S.dropWhile p = S.filter fun d => !p d
  | [], _ => ⟨rfl, rfl⟩
  | a :: S, h => by
    rw [List.pairwise_cons] at h
    obtain ⟨i1, i2⟩ := tw_filter h.2
    rw [List.takeWhile_cons, List.dropWhile_cons, List.filter_cons, List.filter_cons]
    cases hp : p a
    · have hno : ∀ b ∈ S, p b = false := fun b hb => by
        cases hb2 : p b
        · rfl
        · have := h.1 b hb hb2; rw [hp] at this; cases this
      refine ⟨?_, ?_⟩
      · simp only [Bool.false_eq_true, if_false]
        exact (List.filter_eq_nil_iff.2 fun b hb => by rw [hno b hb]; decide).symm
      · simp only [Bool.false_eq_true, if_false, Bool.not_false, if_true]
        congr 1
        exact (List.filter_eq_self.2 fun b hb => by rw [hno b hb]; rfl).symm
    · simp only [if_true, Bool.not_true, Bool.false_eq_true, if_false, i1, i2, and_self]
theorem dueU_filter (now : Int) (S : List Due) : dueU now (sortD S) = sortD (S.filter fun d => decide (d.at_ ≤ now)) ∧ (restU now (sortD S)).Perm (S.filter fun d => !decide (d.at_ ≤ now)) := by
  have hs : (sortD S).Pairwise (fun a b => (fun d : Due => decide (d.at_ ≤ now)) b = true → (fun d : Due => decide (d.at_ ≤ now)) a = true) :=
    (sortD_srt S).imp fun {a b} hab hb => by
      simp only [decide_eq_true_eq] at hb ⊢
      unfold leD at hab
      omega
  obtain ⟨h1, h2⟩ := tw_filter hs
  unfold dueU restU
  rw [h1, h2]
  exact ⟨sortD_eq ((sortD_perm S).filter _) ((sortD_srt S).filter _), (sortD_perm S).filter _⟩
def nowL (l : List Task) (now : Int) : List Nat := (perL l).filter fun i => decide (nx (l.getD i default) now = now)
theorem due_nx {l : List Task} (hok : okK l = true) {now : Int} {S : List Due} (h : S.Perm (nxS l now)) :
    dueU now (sortD S) = (nowL l now).map (fun i : Nat => (⟨now, i⟩ : Due)) ∧ (restU now (sortD S)).Perm (((perL l).filter fun i => !decide (nx (l.getD i default) now = now)).map fun i => ⟨nx (l.getD i default) now, i⟩) := by
  obtain ⟨h1, h2⟩ := dueU_filter now S
  have hq : ∀ i ∈ perL l, decide (nx (l.getD i default) now ≤ now) = decide (nx (l.getD i default) now = now) := fun i hi => by
    have := nx_ge (perL_per hok hi).2 (now := now)
    by_cases e : nx (l.getD i default) now = now
    · rw [decide_eq_true e, decide_eq_true (by omega)]
    · rw [decide_eq_false e, decide_eq_false (by omega)]
  refine ⟨?_, h2.trans ?_⟩
  · rw [h1, sortD_congr (h.filter _)]
    symm
    have e : (nxS l now).filter (fun d => decide (d.at_ ≤ now)) = (nowL l now).map (fun i : Nat => (⟨now, i⟩ : Due)) := by
      unfold nxS nowL
      rw [List.filter_map]
      have : (perL l).filter ((fun d : Due => decide (d.at_ ≤ now)) ∘ fun i : Nat => (⟨nx (l.getD i default) now, i⟩ : Due)) = (perL l).filter fun i => decide (nx (l.getD i default) now = now) := List.filter_congr fun i hi => hq i hi
      rw [this]
      refine List.map_congr_left fun i hi => ?_
      have := (List.mem_filter.1 hi).2
      rw [decide_eq_true_eq] at this
      rw [this]
    rw [e]
    refine sortD_eq (List.Perm.refl _) ?_
    rw [List.pairwise_map]
    have hlt : (nowL l now).Pairwise (· < ·) := (List.pairwise_lt_range.filter _).filter _
    refine hlt.imp fun {a b} hab => ?_
    exact .inr ⟨rfl, (by show (a : Int) ≤ b; omega)⟩
  · refine (h.filter _).trans ?_
    unfold nxS
    rw [List.filter_map]
    have : (perL l).filter ((fun d : Due => !decide (d.at_ ≤ now)) ∘ fun i : Nat => (⟨nx (l.getD i default) now, i⟩ : Due)) = (perL l).filter fun i => !decide (nx (l.getD i default) now = now) := List.filter_congr fun i hi => by
      show (!decide (nx (l.getD i default) now ≤ now)) = _
      rw [hq i hi]
    rw [this]
theorem next_nx {l : List Task} (hok : okK l = true) {now : Int} {R : List Due} (h : R.Perm (((perL l).filter fun i => !decide (nx (l.getD i default) now = now)).map fun i => (⟨nx (l.getD i default) now, i⟩ : Due))) :
    (R ++ (nowL l now).map (fun i : Nat => (⟨now + (l.getD i default).period, i⟩ : Due))).Perm (nxS l (now + 1)) := by
  have h1 : ((perL l).filter fun i => !decide (nx (l.getD i default) now = now)).map (fun i => (⟨nx (l.getD i default) now, i⟩ : Due)) = ((perL l).filter fun i => !decide (nx (l.getD i default) now = now)).map (fun i => (⟨nx (l.getD i default) (now + 1), i⟩ : Due)) :=
    List.map_congr_left fun i hi => by
      obtain ⟨h2, h3⟩ := List.mem_filter.1 hi
      rw [nx_next (perL_per hok h2).2, if_neg (by simpa using h3)]
  have h2 : (nowL l now).map (fun i : Nat => (⟨now + (l.getD i default).period, i⟩ : Due)) = (nowL l now).map (fun i => (⟨nx (l.getD i default) (now + 1), i⟩ : Due)) :=
    List.map_congr_left fun i hi => by
      obtain ⟨h2, h3⟩ := List.mem_filter.1 hi
      rw [nx_next (perL_per hok h2).2, if_pos (by simpa using h3)]
  rw [h1] at h
  rw [h2]
  refine (h.append_right _).trans ?_
  rw [← List.map_append]
  unfold nxS
  refine List.Perm.map _ ?_
  exact List.perm_append_comm.trans (List.filter_append_perm _ _)
/-! A tick's beginning. -/
def rT (l : List Task) (now : Int) (p : Bk × List Event) (i : Nat) : Bk × List Event := (relBk l p.1 i now, p.2 ++ [letB l p.1 now i])
theorem rTask_filter (l : List Task) (hok : okK l = true) (now : Int) (hn : 0 ≤ now ∧ now ≤ 1000000) (p : Bk × List Event) : (List.range l.length).foldl (rTask l now) p = (nowL l now).foldl (rT l now) p := by
  have e : nowL l now = (List.range l.length).filter fun i => atB (l.getD i default) now := by
    unfold nowL perL
    rw [List.filter_filter]
    refine List.filter_congr fun i hi => ?_
    by_cases hk : (l.getD i default).kind = 1
    · have hp := (perL_per hok (i := i) (List.mem_filter.2 ⟨hi, by simpa using hk⟩)).2
      rw [decide_eq_true hk, Bool.and_true, Bool.eq_iff_iff, decide_eq_true_eq, at_iff hp hn]
    · rw [decide_eq_false hk, Bool.and_false, at_not hk]
  rw [e, List.foldl_filter]
  rfl
theorem letE_B (l : List Task) (K : Kn) (i : Int) : letE l K i = letB l K.B K.now i := rfl
theorem dues_fold (l : List Task) (hok : okK l = true) (last : List (Int × Int)) (now : Int) (hn : 0 ≤ now ∧ now ≤ 1000000) (opn : Bool) : ∀ (D : List Nat) (p : Bk × List Event) (S : List Due), (∀ i ∈ D, i < l.length) → S.length + D.length ≤ l.length →
    (D.map fun i : Nat => (⟨now, i⟩ : Due)).foldl (dueS l l.length) ((⟨p.1, S, last, now, opn⟩ : Kn), p.2) = ((⟨(D.foldl (rT l now) p).1, S ++ D.map (fun i : Nat => (⟨now + (l.getD i default).period, i⟩ : Due)), last, now, opn⟩ : Kn), (D.foldl (rT l now) p).2)
  | [], p, S, _, _ => by simp
  | i :: D, p, S, hD, hl => by
    have hi := hD i List.mem_cons_self
    have hp := plain_per hok i (by omega) (by omega)
    rw [Int.toNat_natCast] at hp
    rw [List.map_cons, List.foldl_cons, List.map_cons, List.foldl_cons]
    have e : dueS l l.length ((⟨p.1, S, last, now, opn⟩ : Kn), p.2) ⟨now, i⟩ = ((⟨(rT l now p i).1, S ++ [⟨now + (l.getD i default).period, i⟩], last, now, opn⟩ : Kn), (rT l now p i).2) := by
      unfold dueS rT
      rw [List.length_cons] at hl
      have hpe : pushE l.length S.length (nextD l ⟨now, i⟩) = 0 := by
        unfold pushE nextD
        simp only [Int.toNat_natCast]
        rw [if_neg (by omega), if_neg (by omega)]
      have hps : pushL l.length S (nextD l ⟨now, i⟩) = S ++ [nextD l ⟨now, i⟩] := by rw [pushL, hpe, if_pos rfl]
      have hnd : nextD l ⟨now, i⟩ = ⟨now + (l.getD i default).period, i⟩ := by unfold nextD; simp only [Int.toNat_natCast]
      rw [hnd] at hps
      unfold letK
      simp only [hnd, hps, letE_B]
    rw [e, dues_fold l hok last now hn opn D (rT l now p i) _ (fun j hj => hD j (List.mem_cons_of_mem _ hj)) (by rw [List.length_cons] at hl; simp; omega)]
    simp
def LastR (l : List Task) (last : List (Int × Int)) (LL : List (List Int)) : Prop := LL.length = l.length ∧ ∀ i : Nat, i < l.length → getM last (i : Int) = (LL.getD i []).getLast?
theorem pass_eq {l : List Task} {K : Kn} {LL : List (List Int)} (h : LastR l K.last LL) (i : Int) : passQ l K i = rpQ l LL K.now i := by
  unfold passQ rpQ
  by_cases hi : 0 ≤ i ∧ i < l.length
  · have e := h.2 i.toNat (by omega)
    rw [show ((i.toNat : Nat) : Int) = i by omega] at e
    rw [e]
    congr 1
    cases (LL.getD i.toNat []).getLast? with
    | none => rfl
    | some v =>
      simp only
      rw [Bool.eq_iff_iff, Bool.not_eq_true', decide_eq_false_iff_not, decide_eq_true_eq]
      omega
  · rw [decide_eq_false hi]; rfl
theorem last_set {l : List Task} {last : List (Int × Int)} {LL : List (List Int)} (h : LastR l last LL) {i : Int} (hi : 0 ≤ i ∧ i < l.length) (now : Int) : LastR l (setM last i now) (LL.set i.toNat (LL.getD i.toNat [] ++ [now])) := by
  refine ⟨by rw [List.length_set]; exact h.1, fun j hj => ?_⟩
  rw [getM_set]
  have hil : i.toNat < LL.length := by rw [h.1]; omega
  by_cases e : (j : Int) = i
  · have e2 : i.toNat = j := by omega
    rw [if_pos e, e2, List.getD_eq_getElem?_getD, List.getElem?_set, if_pos rfl, if_pos (by omega), Option.getD_some]
    simp
  · rw [if_neg e, h.2 j hj, List.getD_eq_getElem?_getD, List.getD_eq_getElem?_getD, List.getElem?_set, if_neg (by omega)]
theorem pass_in {l : List Task} {LL : List (List Int)} {now i : Int} (h : rpQ l LL now i = true) : 0 ≤ i ∧ i < l.length := by
  unfold rpQ at h
  rw [Bool.and_eq_true, Bool.and_eq_true, decide_eq_true_eq] at h
  exact h.1.1
theorem asks_fold (l : List Task) (S : List Due) (now : Int) (opn : Bool) : ∀ (D : List Int) (last : List (Int × Int)) (q : Rk), LastR l last q.LL →
    ∃ last', D.foldl (askS l) ((⟨q.B, S, last, now, opn⟩ : Kn), q.es) = ((⟨(D.foldl (rAsk l now) q).B, S, last', now, opn⟩ : Kn), (D.foldl (rAsk l now) q).es) ∧ LastR l last' (D.foldl (rAsk l now) q).LL
  | [], last, q, h => ⟨last, rfl, h⟩
  | i :: D, last, q, h => by
    rw [List.foldl_cons, List.foldl_cons]
    have hp : passQ l (⟨q.B, S, last, now, opn⟩ : Kn) i = rpQ l q.LL now i := pass_eq (K := ⟨q.B, S, last, now, opn⟩) h i
    cases hq : rpQ l q.LL now i
    · rw [hq] at hp
      have e1 : askS l ((⟨q.B, S, last, now, opn⟩ : Kn), q.es) i = ((⟨q.B, S, last, now, opn⟩ : Kn), q.es ++ [⟨now, 2, i, 0, 0⟩]) := by
        unfold askS passK
        simp only [hp, Bool.false_eq_true, if_false]
      have e2 : rAsk l now q i = ⟨q.B, q.LL, q.es ++ [⟨now, 2, i, 0, 0⟩]⟩ := by unfold rAsk; rw [if_neg (by rw [hq]; decide)]
      rw [e1, e2]
      exact asks_fold l S now opn D last ⟨q.B, q.LL, q.es ++ [⟨now, 2, i, 0, 0⟩]⟩ h
    · rw [hq] at hp
      have e1 : askS l ((⟨q.B, S, last, now, opn⟩ : Kn), q.es) i = ((⟨relBk l q.B i now, S, setM last i now, now, opn⟩ : Kn), q.es ++ [letB l q.B now i]) := by
        unfold askS passK letK
        simp only [hp, if_true]
        rfl
      have e2 : rAsk l now q i = ⟨relBk l q.B i now, q.LL.set i.toNat (q.LL.getD i.toNat [] ++ [now]), q.es ++ [letB l q.B now i]⟩ := by unfold rAsk; rw [if_pos hq]
      rw [e1, e2]
      exact asks_fold l S now opn D (setM last i now) ⟨relBk l q.B i now, q.LL.set i.toNat (q.LL.getD i.toNat [] ++ [now]), q.es ++ [letB l q.B now i]⟩ (last_set h (pass_in hq) now)
theorem nowL_in {l : List Task} {now : Int} : ∀ i ∈ nowL l now, i < l.length := fun i hi => by
  have := (List.mem_filter.1 (List.mem_filter.1 hi).1).1
  simpa using this
structure Sim (l : List Task) (K : Kn) (B : Bk) (LL : List (List Int)) : Prop where
  bk : K.B = B
  last : LastR l K.last LL
  due : K.S.Perm (nxS l K.now)
theorem open_sim {l : List Task} (hok : okK l = true) {K : Kn} {B : Bk} {LL : List (List Int)} (h : Sim l K B LL) (hn : 0 ≤ K.now ∧ K.now ≤ 1000000) (ho : K.opn = false) (asks : List Int) :
    (openP l l.length K asks).2 = (rBegin l B LL K.now asks).es ∧ (openP l l.length K asks).1.B = (rBegin l B LL K.now asks).B ∧ LastR l (openP l l.length K asks).1.last (rBegin l B LL K.now asks).LL ∧ (openP l l.length K asks).1.S.Perm (nxS l (K.now + 1)) := by
  obtain ⟨hb, hl, hd⟩ := h
  obtain ⟨B0, S, last, now, opn⟩ := K
  simp only at hb hl hd hn ho ⊢
  subst hb ho
  obtain ⟨d1, d2⟩ := due_nx hok hd
  have hlenR : (restU now (sortD S)).length + (nowL l now).length ≤ l.length := by
    have h1 := d2.length_eq
    rw [List.length_map] at h1
    have h2 := List.Perm.length_eq (List.filter_append_perm (fun i => decide (nx (l.getD i default) now = now)) (perL l))
    rw [List.length_append] at h2
    have h3 : (perL l).length ≤ l.length := by
      have := List.length_filter_le (fun i => decide ((l.getD i default).kind = 1)) (List.range l.length)
      rw [List.length_range] at this; exact this
    have h4 : (nowL l now).length = ((perL l).filter fun i => decide (nx (l.getD i default) now = now)).length := rfl
    omega
  have e1 : openP l l.length (⟨B0, S, last, now, false⟩ : Kn) asks = asks.foldl (askS l) ((dueU now (sortD S)).foldl (dueS l l.length) ((⟨(rLate B0 now).1, restU now (sortD S), last, now, true⟩ : Kn), (rLate B0 now).2)) := rfl
  rw [d1, dues_fold l hok last now hn true (nowL l now) (rLate B0 now) _ nowL_in hlenR] at e1
  have e2 : rBegin l B0 LL now asks = asks.foldl (rAsk l now) ⟨((List.range l.length).foldl (rTask l now) (rLate B0 now)).1, LL, ((List.range l.length).foldl (rTask l now) (rLate B0 now)).2⟩ := rfl
  rw [rTask_filter l hok now hn] at e2
  obtain ⟨last', a1, a2⟩ := asks_fold l (restU now (sortD S) ++ (nowL l now).map (fun i : Nat => (⟨now + (l.getD i default).period, i⟩ : Due))) now true asks last ⟨((nowL l now).foldl (rT l now) (rLate B0 now)).1, LL, ((nowL l now).foldl (rT l now) (rLate B0 now)).2⟩ hl
  simp only at a1 a2
  rw [e1, a1, e2]
  exact ⟨rfl, rfl, a2, next_nx hok d2⟩
/-! Who is picked, and a tick's end. -/
theorem act_lt {l : List Task} {n : Nat} {B : Bk} (h : GoodB l n B) {i : Int} (hi : hasN B.act i = true) : 0 ≤ i ∧ i < l.length := by
  obtain ⟨_, h1, h2, _⟩ := h.pos hi
  have := h.task _ h1
  unfold jobAt at h2
  rw [h2] at this
  exact this
theorem pick_eq_r {l : List Task} {n : Nat} {B : Bk} (h : GoodB l n B) : pickV l B = rpickTo l B l.length := by
  have hl := h.hl
  have hset : setL B.act = ((List.range l.length).filter fun i : Nat => hasN B.act (i : Int)).map fun i : Nat => (i : Int) := by
    unfold setL bitsL
    congr 1
    have hb : ∀ i, i < 64 → B.act.testBit i = hasN B.act (i : Int) := fun i hi => by
      rw [hasN_eq, Bool.eq_iff_iff, decide_eq_true_eq]
      unfold setL bitsL
      rw [List.mem_map]
      constructor
      · intro hb; exact ⟨i, List.mem_filter.2 ⟨List.mem_range.2 hi, hb⟩, rfl⟩
      · rintro ⟨j, hj, e⟩
        have e : j = i := by omega
        subst e; exact (List.mem_filter.1 hj).2
    have e : List.range 64 = List.range l.length ++ (List.range (64 - l.length)).map (l.length + ·) := by
      rw [← List.range_add]; congr 1; omega
    rw [e, List.filter_append]
    have e2 : ((List.range (64 - l.length)).map (l.length + ·)).filter B.act.testBit = [] := by
      rw [List.filter_eq_nil_iff]
      intro i hi
      obtain ⟨j, hj, rfl⟩ := List.mem_map.1 hi
      rw [List.mem_range] at hj
      rw [hb _ (by omega)]
      intro hc
      have := act_lt h hc
      omega
    rw [e2, List.append_nil]
    refine List.filter_congr fun i hi => hb i ?_
    rw [List.mem_range] at hi; omega
  unfold pickV pickTo
  rw [List.take_length, hset, List.foldl_map]
  unfold rpickTo
  rw [List.foldl_filter]
  have key : ∀ k, k ≤ l.length → ((List.range k).foldl (fun (b : Int) (i : Nat) => if hasN B.act (i : Int) = true then pick1 (prios l) b i else b) (-1) = (List.range k).foldl (fun (b : Int) (i : Nat) => if (hasN B.act (i : Int) && (decide (b < 0) || ahK l (i : Int) b)) = true then (i : Int) else b) (-1)) ∧ (List.range k).foldl (fun (b : Int) (i : Nat) => if (hasN B.act (i : Int) && (decide (b < 0) || ahK l (i : Int) b)) = true then (i : Int) else b) (-1) < k := by
    intro k
    induction k with
    | zero => intro _; exact ⟨rfl, by simp⟩
    | succ k ih =>
      intro hk
      obtain ⟨i1, i2⟩ := ih (by omega)
      rw [List.range_succ, List.foldl_append, List.foldl_append, i1]
      simp only [List.foldl_cons, List.foldl_nil]
      generalize (List.range k).foldl (fun (b : Int) (i : Nat) => if (hasN B.act (i : Int) && (decide (b < 0) || ahK l (i : Int) b)) = true then (i : Int) else b) (-1) = b at i2 ⊢
      have hpl : (prios l).length = l.length := by simp [prios]
      constructor
      · cases hh : hasN B.act (k : Int)
        · simp
        · simp only [Bool.true_and, if_true, pick1]
          by_cases hb : b < 0
          · rw [if_pos ⟨by omega, by omega, .inl hb⟩, decide_eq_true hb, Bool.true_or, if_pos rfl]
          · rw [decide_eq_false hb, Bool.false_or]
            unfold ahK
            rw [decide_eq_true (show 0 ≤ (k : Int) ∧ (k : Int) < l.length ∧ 0 ≤ b ∧ b < l.length by omega), Bool.true_and]
            cases hbf : befB (prios l) k b
            · rw [if_neg (fun hc => by rcases hc.2.2 with h5 | h5; exact hb h5; cases h5), if_neg (by decide)]
            · rw [if_pos ⟨by omega, by omega, .inr rfl⟩, if_pos rfl]
      · split <;> omega
  exact (key l.length (Nat.le_refl _)).1
theorem jobAt_step {l : List Task} {n : Nat} {B : Bk} (h : GoodB l n B) {i : Int} (hi : hasN B.act i = true) (t : Int) : jobAt (stepBk B i t) i = stepJb t (jobAt B i) := by
  obtain ⟨_, h1, _, _⟩ := h.pos hi
  have e : posB (stepBk B i t) i = posB B i := by unfold stepBk; rw [if_pos hi]; rfl
  unfold jobAt
  rw [e]
  unfold stepBk
  rw [if_pos hi]
  show (B.all.set (posB B i) _).getD (posB B i) default = _
  rw [getD_set _ h1, if_pos rfl]; rfl
theorem close_sim {l : List Task} {n : Nat} {K : Kn} (h : GoodB l n K.B) (hn : 0 ≤ K.now ∧ K.now ≤ 1000000) (ho : K.opn = true) (dm : List (List Int)) :
    closeE l K (jobK K.B (whoK l K)).steps (endQ l dm K) = rendE l K.B K.now (rHad l K.B) (rEnded l dm K.B) ∧ (closeK l K (endQ l dm K)).B = rendB l K.B K.now (rEnded l dm K.B) := by
  have hp := pick_eq_r h
  obtain ⟨B, S, last, now, opn⟩ := K
  simp only at h hn ho hp ⊢
  subst ho
  have hw : whoK l ⟨B, S, last, now, true⟩ = max (rpickTo l B l.length) 0 := by rw [← hp]; rfl
  unfold closeE closeK rendE rendB rEnded endQ
  unfold rHad
  rw [hw]
  simp only [if_true, hp]
  have hpk := rpick_has (l := l) (B := B) l.length
  generalize rpickTo l B l.length = pv at *
  by_cases h0 : 0 ≤ pv
  · have hh := (hpk h0).1
    have hm : max pv 0 = pv := by omega
    have hj : jobK B pv = jobAt B pv := by unfold jobK; rw [if_pos hh]
    rw [hm, hj, if_pos h0, if_pos h0, if_pos h0, if_pos h0, if_pos h0, decide_eq_true h0, Bool.true_and]
    refine ⟨?_, rfl⟩
    unfold stepE
    congr 1
    rw [jobAt_step h hh]
    have : inT now = now := by unfold inT; omega
    simp only [endJb, stepJb, this]
  · rw [if_neg h0, if_neg h0, if_neg h0, if_neg h0]
    exact ⟨rfl, rfl⟩
theorem run_same {l : List Task} (hok : okK l = true) (asks : List Due) (dm : List (List Int)) : ∀ t : Nat, t ≤ 100000 → Sim l (runP l asks dm t).1 (rRun l asks dm t).B (rRun l asks dm t).LL ∧ (runP l asks dm t).2 = (rRun l asks dm t).es
  | 0, _ => ⟨⟨rfl, ⟨List.length_replicate, fun i hi => (by
      show none = (((List.replicate l.length []).getD i [] : List Int)).getLast?
      rw [List.getD_eq_getElem?_getD, List.getElem?_replicate, if_pos hi]; rfl)⟩, (by rw [show (runP l asks dm 0).1.S = firstS l l.length from rfl, first_nx hok]; exact List.Perm.refl _)⟩, rfl⟩
  | t + 1, ht => by
    obtain ⟨hs, he⟩ := run_same hok asks dm t (by omega)
    have hI := run_inv hok asks dm t (by omega)
    rw [runP_next, rRun_next]
    unfold tickP rTick
    simp only
    have hnow := hI.now_
    obtain ⟨o1, o2, o3, o4⟩ := open_sim hok hs (by rw [hnow]; omega) hI.opn (asksAt asks t)
    obtain ⟨k1, k2⟩ := KI.open_ hok (room := l.length) rfl hI.ki (asksAt asks t)
    have hop : (openP l l.length (runP l asks dm t).1 (asksAt asks t)).1.opn = true := open_opn
    obtain ⟨c1, c2⟩ := close_sim k1.good (by rw [k2, hnow]; omega) hop dm
    rw [c1, he, o1]
    rw [o2, k2] at c1 c2 ⊢
    rw [hnow] at *
    refine ⟨⟨c2, ?_, ?_⟩, rfl⟩
    · show LastR l (closeK l _ _).last _
      unfold closeK; rw [if_pos hop]; exact o3
    · show (closeK l _ _).S.Perm (nxS l (closeK l _ _).now)
      unfold closeK; rw [if_pos hop]
      simp only [k2]
      exact o4
end Go.Proofs.YtfjoaeghnfkdlaaGreatDoor
namespace Go.Proofs.YtfjoaeghnfkdlaaGreatDoor
set_option maxRecDepth 100000
open Go.RowKit
structure PI (l : List Task) (n : Nat) (K : Kn) (LL : List (List Int)) : Prop where
  ki : KI l n K
  ri : RI l n K.now K.B LL
  last : LastR l K.last LL
  due : K.S.Perm (nxS l (if K.opn then K.now + 1 else K.now))
theorem PI.new {l : List Task} (hok : okK l = true) : PI l 0 (newK l) (List.replicate l.length []) := by
  have hl8 : l.length ≤ 8 := by rw [okK, Bool.and_eq_true, decide_eq_true_eq] at hok; omega
  have h1 := (rRun_inv hl8 [] [] 0 (by omega)).ri
  have h2 := (run_same hok [] [] 0 (by omega)).1
  exact ⟨KI.new hok, h1, h2.last, h2.due⟩
theorem PI.open_ {l : List Task} (hok : okK l = true) {n : Nat} {K : Kn} {LL : List (List Int)} (h : PI l n K LL) (ho : K.opn = false) (asks : List Int) :
    PI l (n + l.length + asks.length) (openP l l.length K asks).1 (rBegin l K.B LL K.now asks).LL ∧ (openP l l.length K asks).2 = (rBegin l K.B LL K.now asks).es ∧ (openP l l.length K asks).1.B = (rBegin l K.B LL K.now asks).B ∧ (openP l l.length K asks).1.now = K.now ∧ (openP l l.length K asks).1.opn = true := by
  have hd := h.due
  rw [ho, if_neg (by decide)] at hd
  obtain ⟨o1, o2, o3, o4⟩ := open_sim hok ⟨rfl, h.last, hd⟩ h.ki.now_ ho asks
  have k := KI.open_ hok (room := l.length) rfl h.ki asks
  have r := (h.ri.begin_ h.ki.now_ h.ki.jr asks).1
  have hop : (openP l l.length K asks).1.opn = true := open_opn
  refine ⟨⟨k.1, ?_, o3, ?_⟩, o1, o2, k.2, hop⟩
  · rw [k.2, o2]; exact r
  · rw [hop, if_pos rfl, k.2]; exact o4
theorem close_any {l : List Task} {n : Nat} {K : Kn} (h : GoodB l n K.B) (hn : 0 ≤ K.now ∧ K.now ≤ 1000000) (ho : K.opn = true) (at_ : Int) (ended : Bool) :
    closeE l K at_ ended = rendE l K.B K.now at_ ended ∧ closeK l K ended = ⟨rendB l K.B K.now ended, K.S, K.last, K.now + 1, false⟩ := by
  have hp := pick_eq_r h
  obtain ⟨B, S, last, now, opn⟩ := K
  simp only at h hn ho hp ⊢
  subst ho
  unfold closeE closeK rendE rendB
  simp only [if_true, hp]
  have hpk := rpick_has (l := l) (B := B) l.length
  generalize rpickTo l B l.length = pv at *
  by_cases h0 : 0 ≤ pv
  · have hh := (hpk h0).1
    simp only [if_pos h0]
    refine ⟨?_, trivial⟩
    unfold stepE
    congr 1
    rw [jobAt_step h hh]
    have : inT now = now := by unfold inT; omega
    simp only [endJb, stepJb, this]
  · simp only [if_neg h0]
    exact ⟨trivial, trivial⟩
theorem PI.close {l : List Task} {n : Nat} {K : Kn} {LL : List (List Int)} (h : PI l n K LL) (ho : K.opn = true) (hn : K.now < 1000000) (ended : Bool) : PI l (n + 2) (closeK l K ended) LL := by
  have hk := KI.close h.ki hn ended
  have hc := (close_any h.ki.good h.ki.now_ ho 0 ended).2
  have hd := h.due
  rw [ho, if_pos rfl] at hd
  have hg := (rendB_good h.ki.good h.ki.jr K.now ended).1
  rw [hc] at hk ⊢
  exact ⟨hk, h.ri.next hg (by omega), h.last, hd⟩
theorem PI.up {l : List Task} {n m : Nat} {K : Kn} {LL : List (List Int)} (h : PI l n K LL) (hm : n ≤ m) : PI l m K LL :=
  ⟨h.ki.mono hm, ⟨h.ri.good.up hm, h.ri.len, fun r hr => ⟨Nat.le_trans (h.ri.rows r hr).1 hm, (h.ri.rows r hr).2⟩⟩, h.last, h.due⟩
end Go.Proofs.YtfjoaeghnfkdlaaGreatDoor
namespace Go.Proofs.YtfjoaeghnfkdlaaGreatDoor
set_option linter.unusedSimpArgs false
set_option linter.unusedVariables false
set_option maxRecDepth 100000
set_option linter.unusedSimpArgs false
set_option linter.unusedVariables false
set_option maxRecDepth 100000
open Go.RowKit
theorem LeH_ke {h h' : Heap} (e : h = h') : LeH h h' := e ▸ LeH.refl _
theorem leH_ke {h h1 h2 : Heap} (e : h = h1) (hl : LeH h1 h2) : LeH h h2 := e ▸ hl
theorem asksA_len (asks : List Due) (now : Int) : (asksAt asks now).length ≤ asks.length := by
  unfold asksAt; rw [List.length_map]; exact List.length_filter_le _ _
theorem asksA_next {asks : List Due} {now : Int} {k : Nat} (hk : k < asks.length) : asksAt (asks.take (k + 1)) now = asksAt (asks.take k) now ++ (if (asks.getD k default).at_ = now then [(asks.getD k default).task] else []) := by
  have e : asks.getD k default = asks[k] := by simp [hk]
  unfold asksAt
  rw [List.take_succ_eq_append_getElem hk, List.filter_append, List.map_append, ← e]
  congr 1
  rw [List.filter_cons]
  by_cases h : (asks.getD k default).at_ = now
  · rw [if_pos (by simpa using h), if_pos h]; rfl
  · rw [if_neg (by simpa using h), if_neg h]; rfl
def enQ (t : Nat) : Bool := decide (Int.tmod t 3 = 0)
def goS (l : List Task) (asks : List Due) (p : Kn × List Event) (t : Nat) : Kn × List Event :=
  let o := openP l l.length p.1 (asksAt asks p.1.now)
  (closeK l o.1 (enQ t), p.2 ++ o.2 ++ closeE l o.1 t (enQ t))
def goP (l : List Task) (asks : List Due) (K : Kn) (T : Nat) : Kn × List Event := (List.range T).foldl (goS l asks) (K, [])
theorem goP_next (l : List Task) (asks : List Due) (K : Kn) (t : Nat) : goP l asks K (t + 1) = goS l asks (goP l asks K t) t := by
  unfold goP; rw [List.range_succ, List.foldl_append]; rfl
structure GI (l : List Task) (n : Nat) (m : Int) (t : Nat) (p : Kn × List Event) : Prop where
  ki : KI l (n + 250 * t) p.1
  now_ : p.1.now ≤ m + t
  opn : p.1.opn = false
  len : p.2.length ≤ 300 * t
theorem go_step {l : List Task} (hok : okK l = true) {asks : List Due} (ha : asks.length ≤ 200) {n : Nat} {m : Int} {t : Nat} {p : Kn × List Event} (h : GI l n m t p) (hm : m + t < 1000000) : GI l n m (t + 1) (goS l asks p t) := by
  have hl8 : l.length ≤ 8 := by rw [okK, Bool.and_eq_true, decide_eq_true_eq] at hok; omega
  obtain ⟨K, es⟩ := p
  obtain ⟨h1, h2, h3, h4⟩ := h
  simp only at h1 h2 h3 h4
  have hal := asksA_len asks K.now
  have g1 := KI.open_ hok (room := l.length) rfl h1 (asksAt asks K.now)
  have hop : (openP l l.length K (asksAt asks K.now)).1.opn = true := open_opn
  have hol := open_len (l := l) (room := l.length) (K := K) (asks := asksAt asks K.now) (Nat.le_trans h1.slen hl8)
  have hcl := close_len (l := l) (K := (openP l l.length K (asksAt asks K.now)).1) (a := t) (e := enQ t)
  have hn : (openP l l.length K (asksAt asks K.now)).1.now < 1000000 := by rw [g1.2]; omega
  have g2 := KI.close g1.1 hn (enQ t)
  have g3 := (close_any g1.1.good ⟨g1.1.now_.1, by omega⟩ hop 0 (enQ t)).2
  unfold goS
  refine ⟨g2.mono (by omega), ?_, ?_, ?_⟩
  · simp only; rw [g3, g1.2]; simp only; omega
  · simp only; rw [g3]
  · simp only [List.length_append]; omega
theorem go_inv {l : List Task} (hok : okK l = true) {asks : List Due} (ha : asks.length ≤ 200) {n : Nat} {m : Int} {K : Kn} (hK : KI l n K) (hm : K.now ≤ m) (ho : K.opn = false) : ∀ t : Nat, m + t < 1000000 → GI l n m t (goP l asks K t)
  | 0, _ => ⟨hK, (by show K.now ≤ m + 0; omega), ho, Nat.zero_le _⟩
  | t + 1, h => by
    rw [goP_next]
    exact go_step hok ha (go_inv hok ha hK hm ho t (by omega)) (by omega)
abbrev csR (l : List Task) (asks : List Due) (dm : List (List Int)) (ticks : Int) : AV := .ref [.lst 7 (l.map eTask), .lst 2 (asks.map eDue), .lst 1 (dm.map eLI), .int .i64 ticks]
abbrev evQ (i : Nat) (es : List Event) : Nat × Chunk := (i, .row 68 5 (es.map eEvent))
abbrev inQ (i : Nat) (xs : List Int) : Nat × Chunk := (i, .row 3 1 (xs.map eI))
abbrev d14 (d : Due) : Nat × Chunk := (14, .blk 60 (eDue d))
def nwG (i : Nat) : List Nat := [5, 6, 7, 8]
def ngH (l : List Task) (asks : List Due) (dm : List (List Int)) (ticks : Int) (d : Due) (xs : List Int) (es : List Event) (K : Kn) (y : Unit) (f : Bool) : Heap := d14 d :: inQ 42 xs :: evQ 40 es :: tab9 :: knH l l.length K
set_option maxHeartbeats 4000000 in
theorem go1_fn (l : List Task) (asks : List Due) (dm : List (List Int)) (ticks : Int) (K0 : Kn) (n : Nat) (m : Int) (hok : okK l = true) (ha : asks.length ≤ 200) (hK : KI l n K0) (hm : K0.now ≤ m) (ho : K0.opn = false) (T : Nat) (hT : T ≤ 100) (hn : n ≤ 60000) (hm2 : m ≤ 100000) :
    FnH Tryz.prog 24 [.ptr 0 0, .int .i64 T, csR l asks dm ticks] (tab9 :: knH l l.length K0)
    (fun r h' => r = .lst 5 ((goP l asks K0 T).2.map eEvent) ∧ h' = tab9 :: knH l l.length (goP l asks K0 T).1) := by
  refine FnH.drop' (fnhb Tryz.func24 (entered_of (by kernel_rfl)) rfl rfl ?_)
  have hl8 : l.length ≤ 8 := by rw [okK, Bool.and_eq_true, decide_eq_true_eq] at hok; omega
  repeat' (first | (show W _ _ _ _ _ _; first | apply kA | refine kB rfl ?_ | refine kC rfl rfl ?_ | refine kD rfl rfl ?_ | apply kE | apply kF | apply kG | apply kH | refine kI (by kernel_rfl) (by kernel_rfl) ?_) | (show O _ _ _ _ _ _ _; first | (show O _ _ _ _ (⟨_, .store _ _ _, _, _, _, _⟩ :: _) _ _; refine kJ rfl rfl rfl rfl rfl rfl rfl rfl rfl rfl rfl ?_) | apply kK) | apply kL | ((first | apply kM | apply kN); (iterate 3 (· exact rfl)); (· first | exact ya)) | refine kO rfl rfl rfl rfl rfl ?_ | refine kP rfl rfl rfl ?_ | ((first | refine kQ rfl rfl ?_ ?_ | refine kR rfl rfl rfl rfl rfl ?_ ?_ | refine kS rfl rfl rfl ?_ ?_) <;> intro hc <;> (try simp only [KL, cond_true, cond_false, beq_iff_eq, bne_iff_ne, ne_eq, reduceCtorEq] at hc) <;> (try (have hT : True := hc; clear hT hc)) <;> (try (exfalso; omega))) | apply kT | apply kU | apply kV | apply kW | refine kX rfl ?_ | apply kY | apply kZ)
  refine wle (s' := [(0, .ptr 0 0), (1, .int .i64 T), (2, csR l asks dm ticks), (6, .nils), (7, .int .i64 0)]) (h' := tab9 :: knH l l.length K0) les (LeH.refl _) ?_
  refine wturn (turn_own eEvent (t := 6) rfl 40 68 5 (by omega) rfl) ?_
  refine wloop (fun t : Nat => ([(0, .ptr 0 0), (1, .int .i64 T), (2, csR l asks dm ticks), (6, .own 40), (7, .int .i64 t)], evQ 40 (goP l asks K0 t).2 :: tab9 :: knH l l.length (goP l asks K0 t).1)) (fun t => t ≤ T) (fun t => T - t) 0 (Nat.zero_le _) les (show LeH _ (evQ 40 [] :: tab9 :: knH l l.length K0) from leh) (fun t htT => ?_)
  have hI := go_inv hok ha hK hm ho t (by omega)
  rcases Nat.lt_or_eq_of_le htT with htt | htt
  · have hnx := goP_next l asks K0 t
    generalize goP l asks K0 t = p at hnx hI ⊢
    obtain ⟨K, es⟩ := p
    obtain ⟨h1, h2, h3, h4⟩ := hI
    simp only at h1 h2 h3 h4
    have hal := asksA_len asks K.now
    have f1 := open_fn l l.length K (n + 250 * t) 8 (by omega) h1.good ⟨h1.now_.1, by have := h1.now_.2; omega⟩ (Nat.le_trans h1.slen hl8) h1.last (fun d hd => by
      have q1 := h1.due d hd
      have q2 := plain_per hok d.task q1.1 q1.2.1
      omega) (asksAt asks K.now) (by omega) (by omega)
    have f0 := nowK_fn l l.length K
    have g1 := KI.open_ hok (room := l.length) rfl h1 (asksAt asks K.now)
    have hol := open_len (l := l) (room := l.length) (K := K) (asks := asksAt asks K.now) (Nat.le_trans h1.slen hl8)
    unfold goS at hnx
    simp only at hnx
    generalize openP l l.length K (asksAt asks K.now) = o at f1 g1 hol hnx
    obtain ⟨K1, e1⟩ := o
    simp only at f1 g1 hol hnx
    obtain ⟨g1, g2⟩ := g1
    have f4 := close_fn l l.length K1 _ (by omega) g1.good (by omega) t (enQ t) (fun h => pickV_has h) ⟨g1.now_.1, by have := g1.now_.2; omega⟩ (fun h => by
      have := (g1.jr.step (pickV l K1.B) K1.now).at_ (pickV l K1.B)
      exact ⟨this.1, Int.le_trans this.2 (by decide)⟩)
    have hcl := close_len (l := l) (K := K1) (a := t) (e := enQ t)
    generalize closeE l K1 t (enQ t) = e2 at f4 hcl hnx
    generalize closeK l K1 (enQ t) = K2 at f4 hnx
    obtain ⟨B, S, last, now, opn⟩ := K
    obtain ⟨B1, S1, last1, now1, opn1⟩ := K1
    obtain ⟨B2, S2, last2, now2, opn2⟩ := K2
    simp only at f0 f1 f4 hal hol hcl h2 h3 ⊢
    repeat' (first | (show W _ _ _ _ _ _; first | apply kA | refine kB rfl ?_ | refine kC rfl rfl ?_ | refine kD rfl rfl ?_ | apply kE | apply kF | apply kG | apply kH | refine kI (by kernel_rfl) (by kernel_rfl) ?_) | (show O _ _ _ _ _ _ _; first | (show O _ _ _ _ (⟨_, .store _ _ _, _, _, _, _⟩ :: _) _ _; refine kJ rfl rfl rfl rfl rfl rfl rfl rfl rfl rfl rfl ?_) | apply kK) | apply kL | ((first | apply kM | apply kN); (iterate 3 (· exact rfl)); (· first | exact ya)) | refine kO rfl rfl rfl rfl rfl ?_ | refine kP rfl rfl rfl ?_ | ((first | refine kQ rfl rfl ?_ ?_ | refine kR rfl rfl rfl rfl rfl ?_ ?_ | refine kS rfl rfl rfl ?_ ?_) <;> intro hc <;> (try simp only [KL, cond_true, cond_false, beq_iff_eq, bne_iff_ne, ne_eq, reduceCtorEq] at hc) <;> (try (have hT : True := hc; clear hT hc)) <;> (try (exfalso; omega))) | apply kT | apply kU | apply kV | apply kW | refine kX rfl ?_ | apply kY | apply kZ)
    all_goals first | (exfalso; omega) | skip
    refine wle (s' := [(0, .ptr 0 0), (1, .int .i64 T), (2, csR l asks dm ticks), (6, .own 40), (7, .int .i64 t), (8, .nils), (17, .lst 2 (asks.map eDue)), (18, .int .i64 asks.length), (19, .int .i64 0)]) (h' := evQ 40 es :: tab9 :: knX l l.length B S last now opn) les leh ?_
    refine wturn (turn_own eI (t := 8) rfl 42 3 1 (by omega) rfl) ?_
    refine wloop (fun k : Nat => ([(0, .ptr 0 0), (1, .int .i64 T), (2, csR l asks dm ticks), (6, .own 40), (7, .int .i64 t), (8, .own 42), (17, .lst 2 (asks.map eDue)), (18, .int .i64 asks.length), (19, .int .i64 k)], inQ 42 (asksAt (asks.take k) now) :: evQ 40 es :: tab9 :: knX l l.length B S last now opn)) (fun k => k ≤ asks.length) (fun k => asks.length - k) 0 (Nat.zero_le _) les (show LeH _ (inQ 42 [] :: evQ 40 es :: tab9 :: knX l l.length B S last now opn) from leh) (fun k hk => ?_)
    rcases Nat.lt_or_eq_of_le hk with hkk | hkk
    · have hna := asksA_next (now := now) hkk
      have hla := asksA_len (asks.take k) now
      rw [List.length_take] at hla
      obtain ⟨d, hda⟩ : ∃ d, asks.getD k default = d := ⟨_, rfl⟩
      rw [hda] at hna
      generalize asksAt (asks.take k) now = xs at hna hla ⊢
      repeat' (first | (show W _ _ _ _ _ _; first | apply kA | refine kB rfl ?_ | refine kC rfl rfl ?_ | refine kD rfl rfl ?_ | apply kE | apply kF | apply kG | apply kH) | (show O _ _ _ _ _ _ _; first | (show O _ _ _ _ (⟨_, .alloc _, _, _, _, _⟩ :: _) _ _; first | refine ao_alloc (id := 14) rfl rfl rfl rfl rfl rfl rfl ?_) | (show O _ _ _ _ (⟨_, .store _ _ _, _, _, _, _⟩ :: _) _ _; refine kJ rfl rfl rfl rfl rfl rfl rfl rfl rfl rfl rfl ?_) | apply kK) | apply kL | ((first | apply kM | apply kN); (iterate 3 (· exact rfl)); (· first | (show Y _ ⟨_, .indexAddr _ _ _, _, _, _, _⟩ _ _ _; first | exact Y.mk (ok_indexE (hda) rfl rfl rfl rfl rfl (by omega))) | exact ya)) | refine kO rfl rfl rfl rfl rfl ?_ | refine kP rfl rfl rfl ?_ | ((first | refine kQ rfl rfl ?_ ?_ | refine kR rfl rfl rfl rfl rfl ?_ ?_ | refine kS rfl rfl rfl ?_ ?_) <;> intro hc <;> (try simp only [KL, cond_true, cond_false, beq_iff_eq, bne_iff_ne, ne_eq, reduceCtorEq] at hc) <;> (try (have hT : True := hc; clear hT hc)) <;> (try (exfalso; omega))) | apply kT | apply kU | apply kV | apply kW | refine kX rfl ?_ | apply kY | apply kZ)
      all_goals first | (exfalso; omega) | skip
      refine wle (s' := [(0, .ptr 0 0), (1, .int .i64 T), (2, csR l asks dm ticks), (6, .own 40), (7, .int .i64 t), (8, .own 42), (10, .ptr 14 0), (17, .lst 2 (asks.map eDue)), (18, .int .i64 asks.length), (19, .int .i64 k)]) (h' := ngH l asks dm ticks d xs es ⟨B, S, last, now, opn⟩ () false) les (show LeH _ (d14 d :: inQ 42 xs :: evQ 40 es :: tab9 :: knX l l.length B S last now opn) from leh) ?_
      refine wdrawQ (ngH l asks dm ticks d xs es ⟨B, S, last, now, opn⟩) (fun _ => True) (fun _ => True) [3] [] 0 99 nwG () (LeH.refl _) (by kernel_rfl) (by kernel_rfl) (by kernel_rfl) trivial trivial rfl rfl rfl rfl ?_
      refine qw_new (v := .ptr 14 0) rfl rfl (by kernel_rfl) (fun y hy => tn_ok ya) ?_
      repeat' (first | (show W _ _ _ _ _ _; first | apply kA | refine kB rfl ?_ | refine kC rfl rfl ?_ | refine kD rfl rfl ?_ | apply kE | apply kF | apply kG | apply kH | refine kI (by kernel_rfl) (by kernel_rfl) ?_) | (show O _ _ _ _ _ _ _; first | (show O _ _ _ _ (⟨_, .store _ _ _, _, _, _, _⟩ :: _) _ _; refine kJ rfl rfl rfl rfl rfl rfl rfl rfl rfl rfl rfl ?_) | apply kK) | apply kL | ((first | apply kM | apply kN); (iterate 3 (· exact rfl)); (· first | exact ya)) | (show QW _ _ _ _ _ _ _ _ _ _ _ _ _ _ _; first | refine qw_nil ?_ | (apply qw_any; (· exact rfl); (· exact rfl); (· exact rfl); (· intro y' f' hy'; first | exact ya); (· first | exact rfl | kernel_rfl))) | refine kO rfl rfl rfl rfl rfl ?_ | refine kP rfl rfl rfl ?_ | ((first | refine kQ rfl rfl ?_ ?_ | refine kR rfl rfl rfl rfl rfl ?_ ?_ | refine kS rfl rfl rfl ?_ ?_) <;> intro hc <;> (try simp only [KL, cond_true, cond_false, beq_iff_eq, bne_iff_ne, ne_eq, reduceCtorEq] at hc) <;> (try (have hT : True := hc; clear hT hc)) <;> (try (exfalso; omega))) | apply kT | apply kU | apply kV | apply kW | refine kX rfl ?_ | apply kY | apply kZ)
      refine qw_tu (x' := ()) rfl rfl rfl trivial trivial (fun f hf => tl_call (fun i => i) f0 rfl (show LeH (d14 d :: inQ 42 xs :: evQ 40 es :: tab9 :: knX l l.length B S last now opn) _ from leh) (by kernel_rfl) (by kernel_rfl) (by kernel_rfl) (by kernel_rfl) (by kernel_rfl) (by kernel_rfl) (by kernel_rfl) rfl (leH_ke (h1 := knX l l.length B S last now opn ++ [d14 d, inQ 42 xs, evQ 40 es, tab9]) (by kernel_rfl) (show LeH _ (d14 d :: inQ 42 xs :: evQ 40 es :: tab9 :: knX l l.length B S last now opn) from leh))) (by kernel_rfl) ?_
      by_cases hdn : d.at_ = now
      · rw [if_pos hdn] at hna
        repeat' (first | (show W _ _ _ _ _ _; first | apply kA | refine kB rfl ?_ | refine kC rfl rfl ?_ | refine kD rfl rfl ?_ | apply kE | apply kF | apply kG | apply kH | refine kI (by kernel_rfl) (by kernel_rfl) ?_) | (show O _ _ _ _ _ _ _; first | (show O _ _ _ _ (⟨_, .store _ _ _, _, _, _, _⟩ :: _) _ _; refine kJ rfl rfl rfl rfl rfl rfl rfl rfl rfl rfl rfl ?_) | apply kK) | apply kL | ((first | apply kM | apply kN); (iterate 3 (· exact rfl)); (· first | exact ya)) | (show QW _ _ _ _ _ _ _ _ _ _ _ _ _ _ _; first | refine qw_nil ?_ | (apply qw_any; (· exact rfl); (· exact rfl); (· exact rfl); (· intro y' f' hy'; first | exact ya); (· first | exact rfl | kernel_rfl))) | refine kO rfl rfl rfl rfl rfl ?_ | refine kP rfl rfl rfl ?_ | ((first | refine kQ rfl rfl ?_ ?_ | refine kR rfl rfl rfl rfl rfl ?_ ?_ | refine kS rfl rfl rfl ?_ ?_) <;> intro hc <;> (try simp only [KL, cond_true, cond_false, beq_iff_eq, bne_iff_ne, ne_eq, reduceCtorEq] at hc) <;> (try (have hT : True := hc; clear hT hc)) <;> (try (exfalso; omega))) | apply kT | apply kU | apply kV | apply kW | refine kX rfl ?_ | apply kY | apply kZ)
        all_goals first | (exfalso; omega) | skip
        refine ole (s' := [(0, .ptr 0 0), (1, .int .i64 T), (2, csR l asks dm ticks), (6, .own 40), (7, .int .i64 t), (17, .lst 2 (asks.map eDue)), (18, .int .i64 asks.length), (19, .int .i64 k), (28, .own 42), (31, .lst 1 ([d.task].map eI))]) (h' := d14 d :: inQ 42 xs :: evQ 40 es :: tab9 :: knX l l.length B S last now opn) les (LeH.refl _) ?_
        (refine ao_ap (id := 42) (ys := [d.task]) (by_ := 8) rfl rfl rfl rfl rfl rfl rfl rfl rfl rfl (fun _ _ => rfl) ?_ ?_ rfl rfl rfl rfl rfl ?_; (· (first | omega | ((try simp only [List.length_cons, List.length_nil, List.length_append, List.length_map]) <;> omega))); (· (first | omega | ((try simp only [List.length_cons, List.length_nil, List.length_append, List.length_map]) <;> omega))))
        repeat' (first | (show W _ _ _ _ _ _; first | apply kA | refine kB rfl ?_ | refine kC rfl rfl ?_ | refine kD rfl rfl ?_ | apply kE | apply kF | apply kG | apply kH | refine kI (by kernel_rfl) (by kernel_rfl) ?_) | (show O _ _ _ _ _ _ _; first | (show O _ _ _ _ (⟨_, .store _ _ _, _, _, _, _⟩ :: _) _ _; refine kJ rfl rfl rfl rfl rfl rfl rfl rfl rfl rfl rfl ?_) | apply kK) | apply kL | ((first | apply kM | apply kN); (iterate 3 (· exact rfl)); (· first | exact ya)) | refine kO rfl rfl rfl rfl rfl ?_ | refine kP rfl rfl rfl ?_ | ((first | refine kQ rfl rfl ?_ ?_ | refine kR rfl rfl rfl rfl rfl ?_ ?_ | refine kS rfl rfl rfl ?_ ?_) <;> intro hc <;> (try simp only [KL, cond_true, cond_false, beq_iff_eq, bne_iff_ne, ne_eq, reduceCtorEq] at hc) <;> (try (have hT : True := hc; clear hT hc)) <;> (try (exfalso; omega))) | apply kT | apply kU | apply kV | apply kW | refine kX rfl ?_ | apply kY | apply kZ)
        exact ⟨k + 1, by omega, by omega, les, by simp only [hna]; exact (show LeH _ (inQ 42 (xs ++ [d.task]) :: evQ 40 es :: tab9 :: knX l l.length B S last now opn) from leh)⟩
      · rw [if_neg hdn, List.append_nil] at hna
        repeat' (first | (show W _ _ _ _ _ _; first | apply kA | refine kB rfl ?_ | refine kC rfl rfl ?_ | refine kD rfl rfl ?_ | apply kE | apply kF | apply kG | apply kH | refine kI (by kernel_rfl) (by kernel_rfl) ?_) | (show O _ _ _ _ _ _ _; first | (show O _ _ _ _ (⟨_, .store _ _ _, _, _, _, _⟩ :: _) _ _; refine kJ rfl rfl rfl rfl rfl rfl rfl rfl rfl rfl rfl ?_) | apply kK) | apply kL | ((first | apply kM | apply kN); (iterate 3 (· exact rfl)); (· first | exact ya)) | (show QW _ _ _ _ _ _ _ _ _ _ _ _ _ _ _; first | refine qw_nil ?_ | (apply qw_any; (· exact rfl); (· exact rfl); (· exact rfl); (· intro y' f' hy'; first | exact ya); (· first | exact rfl | kernel_rfl))) | refine kO rfl rfl rfl rfl rfl ?_ | refine kP rfl rfl rfl ?_ | ((first | refine kQ rfl rfl ?_ ?_ | refine kR rfl rfl rfl rfl rfl ?_ ?_ | refine kS rfl rfl rfl ?_ ?_) <;> intro hc <;> (try simp only [KL, cond_true, cond_false, beq_iff_eq, bne_iff_ne, ne_eq, reduceCtorEq] at hc) <;> (try (have hT : True := hc; clear hT hc)) <;> (try (exfalso; omega))) | apply kT | apply kU | apply kV | apply kW | refine kX rfl ?_ | apply kY | apply kZ)
        all_goals first | (exfalso; omega) | skip
        exact ⟨k + 1, by omega, by omega, les, by simp only [hna]; exact leH_ke (h1 := d14 d :: inQ 42 xs :: evQ 40 es :: tab9 :: knX l l.length B S last now opn) rfl (show LeH _ (inQ 42 xs :: evQ 40 es :: tab9 :: knX l l.length B S last now opn) from leh)⟩
    subst hkk
    rw [List.take_length]
    repeat' (first | (show W _ _ _ _ _ _; first | apply kA | refine kB rfl ?_ | refine kC rfl rfl ?_ | refine kD rfl rfl ?_ | apply kE | apply kF | apply kG | apply kH) | (show O _ _ _ _ _ _ _; first | (show O _ _ _ _ (⟨_, .store _ _ _, _, _, _, _⟩ :: _) _ _; refine kJ rfl rfl rfl rfl rfl rfl rfl rfl rfl rfl rfl ?_) | apply kK) | apply kL | ((first | apply kM | apply kN); (iterate 3 (· exact rfl)); (· first | exact ya)) | refine kO rfl rfl rfl rfl rfl ?_ | refine kP rfl rfl rfl ?_ | ((first | refine kQ rfl rfl ?_ ?_ | refine kR rfl rfl rfl rfl rfl ?_ ?_ | refine kS rfl rfl rfl ?_ ?_) <;> intro hc <;> (try simp only [KL, cond_true, cond_false, beq_iff_eq, bne_iff_ne, ne_eq, reduceCtorEq] at hc) <;> (try (have hT : True := hc; clear hT hc)) <;> (try (exfalso; omega))) | apply kT | apply kU | apply kV | apply kW | refine kX rfl ?_ | apply kY | apply kZ)
    all_goals first | (exfalso; omega) | skip
    refine oturn (turn_freeze (t := 36) rfl rfl rfl) ?_
    refine ole (s' := [(0, .ptr 0 0), (1, .int .i64 T), (2, csR l asks dm ticks), (7, .int .i64 t), (34, .own 40), (35, .ptr 0 0), (36, .lst 1 ((asksAt asks now).map eI))]) (h' := evQ 40 es :: tab9 :: knX l l.length B S last now opn) les leh ?_
    refine zcall (fun i => ρK i) (f1) rfl rfl leh (by kernel_rfl) (by kernel_rfl) (by kernel_rfl) (by kernel_rfl) rfl rfl (fun r h' hR => ?_)
    obtain ⟨rfl, rfl⟩ := hR
    refine ⟨rfl, rfl, ?_⟩
    refine ole (s' := [(0, .ptr 0 0), (1, .int .i64 T), (2, csR l asks dm ticks), (7, .int .i64 t), (34, .own 40), (37, .lst 5 (e1.map eEvent))]) (h' := tab9 :: (knX l l.length B1 S1 last1 now1 opn1 ++ [evQ 40 es])) les (LeH_ke (by kernel_rfl)) ?_
    refine ole (h' := evQ 40 es :: tab9 :: knX l l.length B1 S1 last1 now1 opn1) (LeS.refl _) (show LeH _ (evQ 40 es :: tab9 :: knX l l.length B1 S1 last1 now1 opn1) from leh) ?_
    (refine ao_ap (id := 40) (ys := e1) (by_ := 40) rfl rfl rfl rfl rfl rfl rfl rfl rfl rfl (fun _ _ => rfl) ?_ ?_ rfl rfl rfl rfl rfl ?_; (· (first | omega | ((try simp only [List.length_cons, List.length_nil, List.length_append, List.length_map]) <;> omega))); (· (first | omega | ((try simp only [List.length_cons, List.length_nil, List.length_append, List.length_map]) <;> omega))))
    repeat' (first | (show W _ _ _ _ _ _; first | apply kA | refine kB rfl ?_ | refine kC rfl rfl ?_ | refine kD rfl rfl ?_ | apply kE | apply kF | apply kG | apply kH | refine kI (by kernel_rfl) (by kernel_rfl) ?_) | (show O _ _ _ _ _ _ _; first | (show O _ _ _ _ (⟨_, .store _ _ _, _, _, _, _⟩ :: _) _ _; refine kJ rfl rfl rfl rfl rfl rfl rfl rfl rfl rfl rfl ?_) | apply kK) | apply kL | ((first | apply kM | apply kN); (iterate 3 (· exact rfl)); (· first | exact ya)) | refine kO rfl rfl rfl rfl rfl ?_ | refine kP rfl rfl rfl ?_ | ((first | refine kQ rfl rfl ?_ ?_ | refine kR rfl rfl rfl rfl rfl ?_ ?_ | refine kS rfl rfl rfl ?_ ?_) <;> intro hc <;> (try simp only [KL, cond_true, cond_false, beq_iff_eq, bne_iff_ne, ne_eq, reduceCtorEq] at hc) <;> (try (have hT : True := hc; clear hT hc)) <;> (try (exfalso; omega))) | apply kT | apply kU | apply kV | apply kW | refine kX rfl ?_ | apply kY | apply kZ)
    refine ole (s' := [(0, .ptr 0 0), (1, .int .i64 T), (2, csR l asks dm ticks), (7, .int .i64 t), (39, .own 40), (40, .ptr 0 0), (41, .int .i64 t), (44, .bool (enQ t))]) (h' := evQ 40 (es ++ e1) :: tab9 :: knX l l.length B1 S1 last1 now1 opn1) les (show LeH _ (evQ 40 (es ++ e1) :: tab9 :: knX l l.length B1 S1 last1 now1 opn1) from leh) ?_
    refine zcall (fun i => ρK i) (f4) rfl rfl leh (by kernel_rfl) (by kernel_rfl) (by kernel_rfl) (by kernel_rfl) rfl rfl (fun r h' hR => ?_)
    obtain ⟨rfl, rfl⟩ := hR
    refine ⟨rfl, rfl, ?_⟩
    refine ole (s' := [(0, .ptr 0 0), (1, .int .i64 T), (2, csR l asks dm ticks), (7, .int .i64 t), (39, .own 40), (45, .lst 5 (e2.map eEvent))]) (h' := tab9 :: (knX l l.length B2 S2 last2 now2 opn2 ++ [evQ 40 (es ++ e1)])) les (LeH_ke (by kernel_rfl)) ?_
    refine ole (h' := evQ 40 (es ++ e1) :: tab9 :: knX l l.length B2 S2 last2 now2 opn2) (LeS.refl _) (show LeH _ (evQ 40 (es ++ e1) :: tab9 :: knX l l.length B2 S2 last2 now2 opn2) from leh) ?_
    (refine ao_ap (id := 40) (ys := e2) (by_ := 40) rfl rfl rfl rfl rfl rfl rfl rfl rfl rfl (fun _ _ => rfl) ?_ ?_ rfl rfl rfl rfl rfl ?_; (· (first | omega | ((try simp only [List.length_cons, List.length_nil, List.length_append, List.length_map]) <;> omega))); (· (first | omega | ((try simp only [List.length_cons, List.length_nil, List.length_append, List.length_map]) <;> omega))))
    repeat' (first | (show W _ _ _ _ _ _; first | apply kA | refine kB rfl ?_ | refine kC rfl rfl ?_ | refine kD rfl rfl ?_ | apply kE | apply kF | apply kG | apply kH | refine kI (by kernel_rfl) (by kernel_rfl) ?_) | (show O _ _ _ _ _ _ _; first | (show O _ _ _ _ (⟨_, .store _ _ _, _, _, _, _⟩ :: _) _ _; refine kJ rfl rfl rfl rfl rfl rfl rfl rfl rfl rfl rfl ?_) | apply kK) | apply kL | ((first | apply kM | apply kN); (iterate 3 (· exact rfl)); (· first | exact ya)) | refine kO rfl rfl rfl rfl rfl ?_ | refine kP rfl rfl rfl ?_ | ((first | refine kQ rfl rfl ?_ ?_ | refine kR rfl rfl rfl rfl rfl ?_ ?_ | refine kS rfl rfl rfl ?_ ?_) <;> intro hc <;> (try simp only [KL, cond_true, cond_false, beq_iff_eq, bne_iff_ne, ne_eq, reduceCtorEq] at hc) <;> (try (have hT : True := hc; clear hT hc)) <;> (try (exfalso; omega))) | apply kT | apply kU | apply kV | apply kW | refine kX rfl ?_ | apply kY | apply kZ)
    exact ⟨t + 1, by omega, by omega, les, by simp only [hnx]; exact (show LeH _ (evQ 40 (es ++ e1 ++ e2) :: tab9 :: knX l l.length B2 S2 last2 now2 opn2) from leh)⟩
  · subst htt
    repeat' (first | (show W _ _ _ _ _ _; first | apply kA | refine kB rfl ?_ | refine kC rfl rfl ?_ | refine kD rfl rfl ?_ | apply kE | apply kF | apply kG | apply kH | refine kI (by kernel_rfl) (by kernel_rfl) ?_) | (show O _ _ _ _ _ _ _; first | (show O _ _ _ _ (⟨_, .store _ _ _, _, _, _, _⟩ :: _) _ _; refine kJ rfl rfl rfl rfl rfl rfl rfl rfl rfl rfl rfl ?_) | apply kK) | apply kL | ((first | apply kM | apply kN); (iterate 3 (· exact rfl)); (· first | exact ya)) | refine kO rfl rfl rfl rfl rfl ?_ | refine kP rfl rfl rfl ?_ | ((first | refine kQ rfl rfl ?_ ?_ | refine kR rfl rfl rfl rfl rfl ?_ ?_ | refine kS rfl rfl rfl ?_ ?_) <;> intro hc <;> (try simp only [KL, cond_true, cond_false, beq_iff_eq, bne_iff_ne, ne_eq, reduceCtorEq] at hc) <;> (try (have hT : True := hc; clear hT hc)) <;> (try (exfalso; omega))) | apply kT | apply kU | apply kV | apply kW | refine kX rfl ?_ | apply kY | apply kZ)
    all_goals first | (exfalso; omega) | skip
    refine retT (fun _ => turn_freeze (t := 5) rfl rfl rfl) ?_
    exact retq rfl ⟨tab9 :: knH l l.length (goP l asks K0 t).1, leh, rfl, rfl⟩
end Go.Proofs.YtfjoaeghnfkdlaaGreatDoor
