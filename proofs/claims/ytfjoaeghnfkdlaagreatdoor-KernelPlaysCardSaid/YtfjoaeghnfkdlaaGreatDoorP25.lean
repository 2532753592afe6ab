/- The kernel's run is the document's. No condition. -/
import Derived.Test.YtfjoaeghnfkdlaaGreatDoorP24
import Derived.Test.YtfjoaeghnfkdlaaGreatDoorP9
import Derived.Test.YtfjoaeghnfkdlaaGreatDoorP21
import Derived.Test.YtfjoaeghnfkdlaaGreatDoorP13
import Derived.Test.YtfjoaeghnfkdlaaGreatDoorP12
import Derived.Test.YtfjoaeghnfkdlaaGreatDoorP15
import Derived.Test.YtfjoaeghnfkdlaaGreatDoorP8
import Derived.OwnWalk
import Derived.RegionTactic
import Derived.Deep.QuietTactic
import Derived.BigQuiet
import Derived.Test.YtfjoaeghnfkdlaaGreatDoorP20
import Derived.Laws.Externs
import Derived.Test.YtfjoaeghnfkdlaaGreatDoorP16
set_option linter.unusedSimpArgs false
set_option linter.unusedVariables false
set_option maxHeartbeats 1000000
namespace Go.Proofs.YtfjoaeghnfkdlaaGreatDoor
set_option maxRecDepth 100000
open Go.RowKit
/-! When periodic tasks come. -/
def nx (t : Task) (now : Int) : Int := if now ≤ t.offset then t.offset else t.offset + ceilZ (now - t.offset) t.period * t.period
structure Per (t : Task) : Prop where
  plain : plainB t = true
  kind : t.kind = 1
  off : 0 ≤ t.offset ∧ t.offset ≤ 1048576
  per : 1 ≤ t.period ∧ t.period ≤ 1048576
theorem nx_ge {t : Task} (h : Per t) {now : Int} : now ≤ nx t now := by
  have := h.per
  unfold nx; split
  · assumption
  · have := ceil_mul (now - t.offset) t.period (by omega) (by omega); omega
theorem nx_mod {t : Task} (h : Per t) {now : Int} (h1 : t.offset ≤ now) : nx t now = now ↔ (now - t.offset) % t.period = 0 := by
  have hp := h.per
  unfold nx
  by_cases hlo : now ≤ t.offset
  · rw [if_pos hlo]
    have e : now - t.offset = 0 := by omega
    rw [e]; simp; omega
  · rw [if_neg hlo]
    have hc := ceil_mul (now - t.offset) t.period (by omega) (by omega)
    generalize hq : ceilZ (now - t.offset) t.period = q at hc
    constructor
    · intro e
      have : now - t.offset = q * t.period := by omega
      rw [this]; exact Int.mul_emod_left _ _
    · intro e
      obtain ⟨d, hd⟩ := Int.dvd_of_emod_eq_zero e
      rw [Int.mul_comm] at hd
      rw [hd] at hc
      have h2 : d = q := by
        rcases Int.lt_trichotomy d q with h3 | h3 | h3
        · have : (d + 1) * t.period ≤ q * t.period := Int.mul_le_mul_of_nonneg_right (by omega) (by omega)
          rw [Int.add_mul, Int.one_mul] at this; omega
        · exact h3
        · have : (q + 1) * t.period ≤ d * t.period := Int.mul_le_mul_of_nonneg_right (by omega) (by omega)
          rw [Int.add_mul, Int.one_mul] at this; omega
      rw [h2] at hd; omega
theorem at_iff {t : Task} (h : Per t) {now : Int} (hn : 0 ≤ now ∧ now ≤ 1000000) : atB t now = true ↔ nx t now = now := by
  unfold atB
  rw [h.plain, Bool.true_and, decide_eq_true_eq]
  by_cases h1 : t.offset ≤ now
  · rw [nx_mod h h1]
    exact ⟨fun h => h.2.2.2, fun h2 => ⟨h.kind, h1, by omega, h2⟩⟩
  · constructor
    · intro h2; omega
    · intro h2
      unfold nx at h2
      rw [if_pos (by omega)] at h2; omega
theorem nx_next {t : Task} (h : Per t) {now : Int} : nx t (now + 1) = if nx t now = now then now + t.period else nx t now := by
  have hp := h.per
  by_cases h1 : t.offset ≤ now
  · have e1 : nx t (now + 1) = t.offset + ceilZ (now + 1 - t.offset) t.period * t.period := by unfold nx; rw [if_neg (by omega)]
    have c1 := ceil_mul (now + 1 - t.offset) t.period (by omega) (by omega)
    rw [e1]
    generalize ceilZ (now + 1 - t.offset) t.period = q at c1
    split
    · rename_i h2
      rw [nx_mod h h1] at h2
      obtain ⟨d, hd⟩ := Int.dvd_of_emod_eq_zero h2
      rw [Int.mul_comm] at hd
      have h3 : q = d + 1 := by
        rcases Int.lt_trichotomy q (d + 1) with h3 | h3 | h3
        · have : q * t.period ≤ d * t.period := Int.mul_le_mul_of_nonneg_right (by omega) (by omega)
          omega
        · exact h3
        · have : (d + 2) * t.period ≤ q * t.period := Int.mul_le_mul_of_nonneg_right (by omega) (by omega)
          rw [Int.add_mul] at this; omega
      rw [h3, Int.add_mul, Int.one_mul]; omega
    · rename_i h2
      have hg := nx_ge h (now := now)
      unfold nx at h2 hg ⊢
      by_cases hlo : now ≤ t.offset
      · rw [if_pos hlo] at h2; omega
      · rw [if_neg hlo] at h2 hg ⊢
        have c2 := ceil_mul (now - t.offset) t.period (by omega) (by omega)
        generalize ceilZ (now - t.offset) t.period = d at c2 h2 hg
        have h3 : q = d := by
          rcases Int.lt_trichotomy q d with h3 | h3 | h3
          · have : (q + 1) * t.period ≤ d * t.period := Int.mul_le_mul_of_nonneg_right (by omega) (by omega)
            rw [Int.add_mul, Int.one_mul] at this; omega
          · exact h3
          · have : (d + 1) * t.period ≤ q * t.period := Int.mul_le_mul_of_nonneg_right (by omega) (by omega)
            rw [Int.add_mul, Int.one_mul] at this; omega
        rw [h3]
  · have e1 : nx t (now + 1) = t.offset := by unfold nx; rw [if_pos (by omega)]
    have e2 : nx t now = t.offset := by unfold nx; rw [if_pos (by omega)]
    rw [e1, e2, if_neg (by omega)]
theorem nx_zero {t : Task} (h : Per t) : nx t 0 = t.offset := by unfold nx; rw [if_pos h.off.1]
theorem nextZ_per {t : Task} (h : Per t) : nextZ t 0 = t.offset := by
  have := h.off
  unfold nextZ
  rw [if_pos ⟨h.plain, h.kind, by omega⟩]
  simp only [if_pos h.off.1]
  rw [if_neg (by omega)]
theorem nextZ_not {t : Task} (h : t.kind ≠ 1) : nextZ t 0 = -1 := by unfold nextZ; rw [if_neg (fun h2 => h h2.2.1)]
theorem at_not {t : Task} {now : Int} (h : t.kind ≠ 1) : atB t now = false := by
  unfold atB
  rw [decide_eq_false (fun h2 => h h2.1), Bool.and_false]
/-! The agenda. -/
def perL (l : List Task) : List Nat := (List.range l.length).filter fun i => decide ((l.getD i default).kind = 1)
def nxS (l : List Task) (now : Int) : List Due := (perL l).map fun i => ⟨nx (l.getD i default) now, i⟩
theorem perL_per {l : List Task} (hok : okK l = true) {i : Nat} (h : i ∈ perL l) : i < l.length ∧ Per (l.getD i default) := by
  obtain ⟨h1, h2⟩ := List.mem_filter.1 h
  rw [List.mem_range] at h1
  rw [okK, Bool.and_eq_true] at hok
  have hp := List.all_eq_true.1 hok.2 (l.getD i default) (getD_mem h1)
  have hs := plainB_spec hp
  exact ⟨h1, hp, by simpa using h2, hs.2.2.2.1, hs.2.2.1⟩
theorem first_nx {l : List Task} (hok : okK l = true) : firstS l l.length = nxS l 0 := by
  have e : ((List.range l.length).filter fun i => decide (0 ≤ nextZ (l.getD i default) 0)) = perL l := by
    unfold perL
    refine List.filter_congr fun i hi => ?_
    rw [List.mem_range] at hi
    by_cases hk : (l.getD i default).kind = 1
    · have hp := (perL_per hok (i := i) (List.mem_filter.2 ⟨List.mem_range.2 hi, by simpa using hk⟩)).2
      rw [nextZ_per hp, decide_eq_true hp.off.1, decide_eq_true hk]
    · rw [nextZ_not hk, decide_eq_false hk]; rfl
  unfold firstS nxS
  rw [e]
  refine List.map_congr_left fun i hi => ?_
  have hp := (perL_per hok hi).2
  rw [nextZ_per hp, nx_zero hp]
theorem tw_filter {p : Due → Bool} : ∀ {S : List Due}, S.Pairwise (fun a b => p b = true → p a = true) → S.takeWhile p = S.filter p ∧ S.dropWhile p = S.filter fun d => !p d
  | [], _ => ⟨rfl, rfl⟩
  | a :: S, h => by
    rw [List.pairwise_cons] at h
    obtain ⟨i1, i2⟩ := tw_filter h.2
    rw [List.takeWhile_cons, List.dropWhile_cons, List.filter_cons, List.filter_cons]
    cases hp : p a
    · have hno : ∀ b ∈ S, p b = false := fun b hb => by
        cases hb2 : p b
        · rfl
        · have := h.1 b hb hb2; rw [hp] at this; cases this
      refine ⟨?_, ?_⟩
      · simp only [Bool.false_eq_true, if_false]
        exact (List.filter_eq_nil_iff.2 fun b hb => by rw [hno b hb]; decide).symm
      · simp only [Bool.false_eq_true, if_false, Bool.not_false, if_true]
        congr 1
        exact (List.filter_eq_self.2 fun b hb => by rw [hno b hb]; rfl).symm
    · simp only [if_true, Bool.not_true, Bool.false_eq_true, if_false, i1, i2, and_self]
theorem dueU_filter (now : Int) (S : List Due) : dueU now (sortD S) = sortD (S.filter fun d => decide (d.at_ ≤ now)) ∧ (restU now (sortD S)).Perm (S.filter fun d => !decide (d.at_ ≤ now)) := by
  have hs : (sortD S).Pairwise (fun a b => (fun d : Due => decide (d.at_ ≤ now)) b = true → (fun d : Due => decide (d.at_ ≤ now)) a = true) :=
    (sortD_srt S).imp fun {a b} hab hb => by
      simp only [decide_eq_true_eq] at hb ⊢
      unfold leD at hab
      omega
  obtain ⟨h1, h2⟩ := tw_filter hs
  unfold dueU restU
  rw [h1, h2]
  exact ⟨sortD_eq ((sortD_perm S).filter _) ((sortD_srt S).filter _), (sortD_perm S).filter _⟩
def nowL (l : List Task) (now : Int) : List Nat := (perL l).filter fun i => decide (nx (l.getD i default) now = now)
theorem due_nx {l : List Task} (hok : okK l = true) {now : Int} {S : List Due} (h : S.Perm (nxS l now)) :
    dueU now (sortD S) = (nowL l now).map (fun i : Nat => (⟨now, i⟩ : Due)) ∧ (restU now (sortD S)).Perm (((perL l).filter fun i => !decide (nx (l.getD i default) now = now)).map fun i => ⟨nx (l.getD i default) now, i⟩) := by
  obtain ⟨h1, h2⟩ := dueU_filter now S
  have hq : ∀ i ∈ perL l, decide (nx (l.getD i default) now ≤ now) = decide (nx (l.getD i default) now = now) := fun i hi => by
    have := nx_ge (perL_per hok hi).2 (now := now)
    by_cases e : nx (l.getD i default) now = now
    · rw [decide_eq_true e, decide_eq_true (by omega)]
    · rw [decide_eq_false e, decide_eq_false (by omega)]
  refine ⟨?_, h2.trans ?_⟩
  · rw [h1, sortD_congr (h.filter _)]
    symm
    have e : (nxS l now).filter (fun d => decide (d.at_ ≤ now)) = (nowL l now).map (fun i : Nat => (⟨now, i⟩ : Due)) := by
      unfold nxS nowL
      rw [List.filter_map]
      have : (perL l).filter ((fun d : Due => decide (d.at_ ≤ now)) ∘ fun i : Nat => (⟨nx (l.getD i default) now, i⟩ : Due)) = (perL l).filter fun i => decide (nx (l.getD i default) now = now) := List.filter_congr fun i hi => hq i hi
      rw [this]
      refine List.map_congr_left fun i hi => ?_
      have := (List.mem_filter.1 hi).2
      rw [decide_eq_true_eq] at this
      rw [this]
    rw [e]
    refine sortD_eq (List.Perm.refl _) ?_
    rw [List.pairwise_map]
    have hlt : (nowL l now).Pairwise (· < ·) := (List.pairwise_lt_range.filter _).filter _
    refine hlt.imp fun {a b} hab => ?_
    exact .inr ⟨rfl, (by show (a : Int) ≤ b; omega)⟩
  · refine (h.filter _).trans ?_
    unfold nxS
    rw [List.filter_map]
    have : (perL l).filter ((fun d : Due => !decide (d.at_ ≤ now)) ∘ fun i : Nat => (⟨nx (l.getD i default) now, i⟩ : Due)) = (perL l).filter fun i => !decide (nx (l.getD i default) now = now) := List.filter_congr fun i hi => by
      show (!decide (nx (l.getD i default) now ≤ now)) = _
      rw [hq i hi]
    rw [this]
theorem next_nx {l : List Task} (hok : okK l = true) {now : Int} {R : List Due} (h : R.Perm (((perL l).filter fun i => !decide (nx (l.getD i default) now = now)).map fun i => (⟨nx (l.getD i default) now, i⟩ : Due))) :
    (R ++ (nowL l now).map (fun i : Nat => (⟨now + (l.getD i default).period, i⟩ : Due))).Perm (nxS l (now + 1)) := by
  have h1 : ((perL l).filter fun i => !decide (nx (l.getD i default) now = now)).map (fun i => (⟨nx (l.getD i default) now, i⟩ : Due)) = ((perL l).filter fun i => !decide (nx (l.getD i default) now = now)).map (fun i => (⟨nx (l.getD i default) (now + 1), i⟩ : Due)) :=
    List.map_congr_left fun i hi => by
      obtain ⟨h2, h3⟩ := List.mem_filter.1 hi
      rw [nx_next (perL_per hok h2).2, if_neg (by simpa using h3)]
  have h2 : (nowL l now).map (fun i : Nat => (⟨now + (l.getD i default).period, i⟩ : Due)) = (nowL l now).map (fun i => (⟨nx (l.getD i default) (now + 1), i⟩ : Due)) :=
    List.map_congr_left fun i hi => by
      obtain ⟨h2, h3⟩ := List.mem_filter.1 hi
      rw [nx_next (perL_per hok h2).2, if_pos (by simpa using h3)]
  rw [h1] at h
  rw [h2]
  refine (h.append_right _).trans ?_
  rw [← List.map_append]
  unfold nxS
  refine List.Perm.map _ ?_
  exact List.perm_append_comm.trans (List.filter_append_perm _ _)
/-! A tick's beginning. -/
def rT (l : List Task) (now : Int) (p : Bk × List Event) (i : Nat) : Bk × List Event := (relBk l p.1 i now, p.2 ++ [letB l p.1 now i])
theorem rTask_filter (l : List Task) (hok : okK l = true) (now : Int) (hn : 0 ≤ now ∧ now ≤ 1000000) (p : Bk × List Event) : (List.range l.length).foldl (rTask l now) p = (nowL l now).foldl (rT l now) p := by
  have e : nowL l now = (List.range l.length).filter fun i => atB (l.getD i default) now := by
    unfold nowL perL
    rw [List.filter_filter]
    refine List.filter_congr fun i hi => ?_
    by_cases hk : (l.getD i default).kind = 1
    · have hp := (perL_per hok (i := i) (List.mem_filter.2 ⟨hi, by simpa using hk⟩)).2
      rw [decide_eq_true hk, Bool.and_true, Bool.eq_iff_iff, decide_eq_true_eq, at_iff hp hn]
    · rw [decide_eq_false hk, Bool.and_false, at_not hk]
  rw [e, List.foldl_filter]
  rfl
theorem letE_B (l : List Task) (K : Kn) (i : Int) : letE l K i = letB l K.B K.now i := rfl
theorem dues_fold (l : List Task) (hok : okK l = true) (last : List (Int × Int)) (now : Int) (hn : 0 ≤ now ∧ now ≤ 1000000) (opn : Bool) : ∀ (D : List Nat) (p : Bk × List Event) (S : List Due), (∀ i ∈ D, i < l.length) → S.length + D.length ≤ l.length →
    (D.map fun i : Nat => (⟨now, i⟩ : Due)).foldl (dueS l l.length) ((⟨p.1, S, last, now, opn⟩ : Kn), p.2) = ((⟨(D.foldl (rT l now) p).1, S ++ D.map (fun i : Nat => (⟨now + (l.getD i default).period, i⟩ : Due)), last, now, opn⟩ : Kn), (D.foldl (rT l now) p).2)
  | [], p, S, _, _ => by simp
  | i :: D, p, S, hD, hl => by
    have hi := hD i List.mem_cons_self
    have hp := plain_per hok i (by omega) (by omega)
    rw [Int.toNat_natCast] at hp
    rw [List.map_cons, List.foldl_cons, List.map_cons, List.foldl_cons]
    have e : dueS l l.length ((⟨p.1, S, last, now, opn⟩ : Kn), p.2) ⟨now, i⟩ = ((⟨(rT l now p i).1, S ++ [⟨now + (l.getD i default).period, i⟩], last, now, opn⟩ : Kn), (rT l now p i).2) := by
      unfold dueS rT
      rw [List.length_cons] at hl
      have hpe : pushE l.length S.length (nextD l ⟨now, i⟩) = 0 := by
        unfold pushE nextD
        simp only [Int.toNat_natCast]
        rw [if_neg (by omega), if_neg (by omega)]
      have hps : pushL l.length S (nextD l ⟨now, i⟩) = S ++ [nextD l ⟨now, i⟩] := by rw [pushL, hpe, if_pos rfl]
      have hnd : nextD l ⟨now, i⟩ = ⟨now + (l.getD i default).period, i⟩ := by unfold nextD; simp only [Int.toNat_natCast]
      rw [hnd] at hps
      unfold letK
      simp only [hnd, hps, letE_B]
    rw [e, dues_fold l hok last now hn opn D (rT l now p i) _ (fun j hj => hD j (List.mem_cons_of_mem _ hj)) (by rw [List.length_cons] at hl; simp; omega)]
    simp
def LastR (l : List Task) (last : List (Int × Int)) (LL : List (List Int)) : Prop := LL.length = l.length ∧ ∀ i : Nat, i < l.length → getM last (i : Int) = (LL.getD i []).getLast?
theorem pass_eq {l : List Task} {K : Kn} {LL : List (List Int)} (h : LastR l K.last LL) (i : Int) : passQ l K i = rpQ l LL K.now i := by
  unfold passQ rpQ
  by_cases hi : 0 ≤ i ∧ i < l.length
  · have e := h.2 i.toNat (by omega)
    rw [show ((i.toNat : Nat) : Int) = i by omega] at e
    rw [e]
    congr 1
    cases (LL.getD i.toNat []).getLast? with
    | none => rfl
    | some v =>
      simp only
      rw [Bool.eq_iff_iff, Bool.not_eq_true', decide_eq_false_iff_not, decide_eq_true_eq]
      omega
  · rw [decide_eq_false hi]; rfl
theorem last_set {l : List Task} {last : List (Int × Int)} {LL : List (List Int)} (h : LastR l last LL) {i : Int} (hi : 0 ≤ i ∧ i < l.length) (now : Int) : LastR l (setM last i now) (LL.set i.toNat (LL.getD i.toNat [] ++ [now])) := by
  refine ⟨by rw [List.length_set]; exact h.1, fun j hj => ?_⟩
  rw [getM_set]
  have hil : i.toNat < LL.length := by rw [h.1]; omega
  by_cases e : (j : Int) = i
  · have e2 : i.toNat = j := by omega
    rw [if_pos e, e2, List.getD_eq_getElem?_getD, List.getElem?_set, if_pos rfl, if_pos (by omega), Option.getD_some]
    simp
  · rw [if_neg e, h.2 j hj, List.getD_eq_getElem?_getD, List.getD_eq_getElem?_getD, List.getElem?_set, if_neg (by omega)]
theorem pass_in {l : List Task} {LL : List (List Int)} {now i : Int} (h : rpQ l LL now i = true) : 0 ≤ i ∧ i < l.length := by
  unfold rpQ at h
  rw [Bool.and_eq_true, Bool.and_eq_true, decide_eq_true_eq] at h
  exact h.1.1
theorem asks_fold (l : List Task) (S : List Due) (now : Int) (opn : Bool) : ∀ (D : List Int) (last : List (Int × Int)) (q : Rk), LastR l last q.LL →
    ∃ last', D.foldl (askS l) ((⟨q.B, S, last, now, opn⟩ : Kn), q.es) = ((⟨(D.foldl (rAsk l now) q).B, S, last', now, opn⟩ : Kn), (D.foldl (rAsk l now) q).es) ∧ LastR l last' (D.foldl (rAsk l now) q).LL
  | [], last, q, h => ⟨last, rfl, h⟩
  | i :: D, last, q, h => by
    rw [List.foldl_cons, List.foldl_cons]
    have hp : passQ l (⟨q.B, S, last, now, opn⟩ : Kn) i = rpQ l q.LL now i := pass_eq (K := ⟨q.B, S, last, now, opn⟩) h i
    cases hq : rpQ l q.LL now i
    · rw [hq] at hp
      have e1 : askS l ((⟨q.B, S, last, now, opn⟩ : Kn), q.es) i = ((⟨q.B, S, last, now, opn⟩ : Kn), q.es ++ [⟨now, 2, i, 0, 0⟩]) := by
        unfold askS passK
        simp only [hp, Bool.false_eq_true, if_false]
      have e2 : rAsk l now q i = ⟨q.B, q.LL, q.es ++ [⟨now, 2, i, 0, 0⟩]⟩ := by unfold rAsk; rw [if_neg (by rw [hq]; decide)]
      rw [e1, e2]
      exact asks_fold l S now opn D last ⟨q.B, q.LL, q.es ++ [⟨now, 2, i, 0, 0⟩]⟩ h
    · rw [hq] at hp
      have e1 : askS l ((⟨q.B, S, last, now, opn⟩ : Kn), q.es) i = ((⟨relBk l q.B i now, S, setM last i now, now, opn⟩ : Kn), q.es ++ [letB l q.B now i]) := by
        unfold askS passK letK
        simp only [hp, if_true]
        rfl
      have e2 : rAsk l now q i = ⟨relBk l q.B i now, q.LL.set i.toNat (q.LL.getD i.toNat [] ++ [now]), q.es ++ [letB l q.B now i]⟩ := by unfold rAsk; rw [if_pos hq]
      rw [e1, e2]
      exact asks_fold l S now opn D (setM last i now) ⟨relBk l q.B i now, q.LL.set i.toNat (q.LL.getD i.toNat [] ++ [now]), q.es ++ [letB l q.B now i]⟩ (last_set h (pass_in hq) now)
theorem nowL_in {l : List Task} {now : Int} : ∀ i ∈ nowL l now, i < l.length := fun i hi => by
  have := (List.mem_filter.1 (List.mem_filter.1 hi).1).1
  simpa using this
structure Sim (l : List Task) (K : Kn) (B : Bk) (LL : List (List Int)) : Prop where
  bk : K.B = B
  last : LastR l K.last LL
  due : K.S.Perm (nxS l K.now)
theorem open_sim {l : List Task} (hok : okK l = true) {K : Kn} {B : Bk} {LL : List (List Int)} (h : Sim l K B LL) (hn : 0 ≤ K.now ∧ K.now ≤ 1000000) (ho : K.opn = false) (asks : List Int) :
    (openP l l.length K asks).2 = (rBegin l B LL K.now asks).es ∧ (openP l l.length K asks).1.B = (rBegin l B LL K.now asks).B ∧ LastR l (openP l l.length K asks).1.last (rBegin l B LL K.now asks).LL ∧ (openP l l.length K asks).1.S.Perm (nxS l (K.now + 1)) := by
  obtain ⟨hb, hl, hd⟩ := h
  obtain ⟨B0, S, last, now, opn⟩ := K
  simp only at hb hl hd hn ho ⊢
  subst hb ho
  obtain ⟨d1, d2⟩ := due_nx hok hd
  have hlenR : (restU now (sortD S)).length + (nowL l now).length ≤ l.length := by
    have h1 := d2.length_eq
    rw [List.length_map] at h1
    have h2 := List.Perm.length_eq (List.filter_append_perm (fun i => decide (nx (l.getD i default) now = now)) (perL l))
    rw [List.length_append] at h2
    have h3 : (perL l).length ≤ l.length := by
      have := List.length_filter_le (fun i => decide ((l.getD i default).kind = 1)) (List.range l.length)
      rw [List.length_range] at this; exact this
    have h4 : (nowL l now).length = ((perL l).filter fun i => decide (nx (l.getD i default) now = now)).length := rfl
    omega
  have e1 : openP l l.length (⟨B0, S, last, now, false⟩ : Kn) asks = asks.foldl (askS l) ((dueU now (sortD S)).foldl (dueS l l.length) ((⟨(rLate B0 now).1, restU now (sortD S), last, now, true⟩ : Kn), (rLate B0 now).2)) := rfl
  rw [d1, dues_fold l hok last now hn true (nowL l now) (rLate B0 now) _ nowL_in hlenR] at e1
  have e2 : rBegin l B0 LL now asks = asks.foldl (rAsk l now) ⟨((List.range l.length).foldl (rTask l now) (rLate B0 now)).1, LL, ((List.range l.length).foldl (rTask l now) (rLate B0 now)).2⟩ := rfl
  rw [rTask_filter l hok now hn] at e2
  obtain ⟨last', a1, a2⟩ := asks_fold l (restU now (sortD S) ++ (nowL l now).map (fun i : Nat => (⟨now + (l.getD i default).period, i⟩ : Due))) now true asks last ⟨((nowL l now).foldl (rT l now) (rLate B0 now)).1, LL, ((nowL l now).foldl (rT l now) (rLate B0 now)).2⟩ hl
  simp only at a1 a2
  rw [e1, a1, e2]
  exact ⟨rfl, rfl, a2, next_nx hok d2⟩
/-! Who is picked, and a tick's end. -/
theorem act_lt {l : List Task} {n : Nat} {B : Bk} (h : GoodB l n B) {i : Int} (hi : hasN B.act i = true) : 0 ≤ i ∧ i < l.length := by
  obtain ⟨_, h1, h2, _⟩ := h.pos hi
  have := h.task _ h1
  unfold jobAt at h2
  rw [h2] at this
  exact this
theorem pick_eq_r {l : List Task} {n : Nat} {B : Bk} (h : GoodB l n B) : pickV l B = rpickTo l B l.length := by
  have hl := h.hl
  have hset : setL B.act = ((List.range l.length).filter fun i : Nat => hasN B.act (i : Int)).map fun i : Nat => (i : Int) := by
    unfold setL bitsL
    congr 1
    have hb : ∀ i, i < 64 → B.act.testBit i = hasN B.act (i : Int) := fun i hi => by
      rw [hasN_eq, Bool.eq_iff_iff, decide_eq_true_eq]
      unfold setL bitsL
      rw [List.mem_map]
      constructor
      · intro hb; exact ⟨i, List.mem_filter.2 ⟨List.mem_range.2 hi, hb⟩, rfl⟩
      · rintro ⟨j, hj, e⟩
        have e : j = i := by omega
        subst e; exact (List.mem_filter.1 hj).2
    have e : List.range 64 = List.range l.length ++ (List.range (64 - l.length)).map (l.length + ·) := by
      rw [← List.range_add]; congr 1; omega
    rw [e, List.filter_append]
    have e2 : ((List.range (64 - l.length)).map (l.length + ·)).filter B.act.testBit = [] := by
      rw [List.filter_eq_nil_iff]
      intro i hi
      obtain ⟨j, hj, rfl⟩ := List.mem_map.1 hi
      rw [List.mem_range] at hj
      rw [hb _ (by omega)]
      intro hc
      have := act_lt h hc
      omega
    rw [e2, List.append_nil]
    refine List.filter_congr fun i hi => hb i ?_
    rw [List.mem_range] at hi; omega
  unfold pickV pickTo
  rw [List.take_length, hset, List.foldl_map]
  unfold rpickTo
  rw [List.foldl_filter]
  have key : ∀ k, k ≤ l.length → ((List.range k).foldl (fun (b : Int) (i : Nat) => if hasN B.act (i : Int) = true then pick1 (prios l) b i else b) (-1) = (List.range k).foldl (fun (b : Int) (i : Nat) => if (hasN B.act (i : Int) && (decide (b < 0) || ahK l (i : Int) b)) = true then (i : Int) else b) (-1)) ∧ (List.range k).foldl (fun (b : Int) (i : Nat) => if (hasN B.act (i : Int) && (decide (b < 0) || ahK l (i : Int) b)) = true then (i : Int) else b) (-1) < k := by
    intro k
    induction k with
    | zero => intro _; exact ⟨rfl, by simp⟩
    | succ k ih =>
      intro hk
      obtain ⟨i1, i2⟩ := ih (by omega)
      rw [List.range_succ, List.foldl_append, List.foldl_append, i1]
      simp only [List.foldl_cons, List.foldl_nil]
      generalize (List.range k).foldl (fun (b : Int) (i : Nat) => if (hasN B.act (i : Int) && (decide (b < 0) || ahK l (i : Int) b)) = true then (i : Int) else b) (-1) = b at i2 ⊢
      have hpl : (prios l).length = l.length := by simp [prios]
      constructor
      · cases hh : hasN B.act (k : Int)
        · simp
        · simp only [Bool.true_and, if_true, pick1]
          by_cases hb : b < 0
          · rw [if_pos ⟨by omega, by omega, .inl hb⟩, decide_eq_true hb, Bool.true_or, if_pos rfl]
          · rw [decide_eq_false hb, Bool.false_or]
            unfold ahK
            rw [decide_eq_true (show 0 ≤ (k : Int) ∧ (k : Int) < l.length ∧ 0 ≤ b ∧ b < l.length by omega), Bool.true_and]
            cases hbf : befB (prios l) k b
            · rw [if_neg (fun hc => by rcases hc.2.2 with h5 | h5; exact hb h5; cases h5), if_neg (by decide)]
            · rw [if_pos ⟨by omega, by omega, .inr rfl⟩, if_pos rfl]
      · split <;> omega
  exact (key l.length (Nat.le_refl _)).1
theorem jobAt_step {l : List Task} {n : Nat} {B : Bk} (h : GoodB l n B) {i : Int} (hi : hasN B.act i = true) (t : Int) : jobAt (stepBk B i t) i = stepJb t (jobAt B i) := by
  obtain ⟨_, h1, _, _⟩ := h.pos hi
  have e : posB (stepBk B i t) i = posB B i := by unfold stepBk; rw [if_pos hi]; rfl
  unfold jobAt
  rw [e]
  unfold stepBk
  rw [if_pos hi]
  show (B.all.set (posB B i) _).getD (posB B i) default = _
  rw [getD_set _ h1, if_pos rfl]; rfl
theorem close_sim {l : List Task} {n : Nat} {K : Kn} (h : GoodB l n K.B) (hn : 0 ≤ K.now ∧ K.now ≤ 1000000) (ho : K.opn = true) (dm : List (List Int)) :
    closeE l K (jobK K.B (whoK l K)).steps (endQ l dm K) = rendE l K.B K.now (rHad l K.B) (rEnded l dm K.B) ∧ (closeK l K (endQ l dm K)).B = rendB l K.B K.now (rEnded l dm K.B) := by
  have hp := pick_eq_r h
  obtain ⟨B, S, last, now, opn⟩ := K
  simp only at h hn ho hp ⊢
  subst ho
  have hw : whoK l ⟨B, S, last, now, true⟩ = max (rpickTo l B l.length) 0 := by rw [← hp]; rfl
  unfold closeE closeK rendE rendB rEnded endQ
  unfold rHad
  rw [hw]
  simp only [if_true, hp]
  have hpk := rpick_has (l := l) (B := B) l.length
  generalize rpickTo l B l.length = pv at *
  by_cases h0 : 0 ≤ pv
  · have hh := (hpk h0).1
    have hm : max pv 0 = pv := by omega
    have hj : jobK B pv = jobAt B pv := by unfold jobK; rw [if_pos hh]
    rw [hm, hj, if_pos h0, if_pos h0, if_pos h0, if_pos h0, if_pos h0, decide_eq_true h0, Bool.true_and]
    refine ⟨?_, rfl⟩
    unfold stepE
    congr 1
    rw [jobAt_step h hh]
    have : inT now = now := by unfold inT; omega
    simp only [endJb, stepJb, this]
  · rw [if_neg h0, if_neg h0, if_neg h0, if_neg h0]
    exact ⟨rfl, rfl⟩
theorem run_same {l : List Task} (hok : okK l = true) (asks : List Due) (dm : List (List Int)) : ∀ t : Nat, t ≤ 100000 → Sim l (runP l asks dm t).1 (rRun l asks dm t).B (rRun l asks dm t).LL ∧ (runP l asks dm t).2 = (rRun l asks dm t).es
  | 0, _ => ⟨⟨rfl, ⟨List.length_replicate, fun i hi => (by
      show none = (((List.replicate l.length []).getD i [] : List Int)).getLast?
      rw [List.getD_eq_getElem?_getD, List.getElem?_replicate, if_pos hi]; rfl)⟩, (by rw [show (runP l asks dm 0).1.S = firstS l l.length from rfl, first_nx hok]; exact List.Perm.refl _)⟩, rfl⟩
  | t + 1, ht => by
    obtain ⟨hs, he⟩ := run_same hok asks dm t (by omega)
    have hI := run_inv hok asks dm t (by omega)
    rw [runP_next, rRun_next]
    unfold tickP rTick
    simp only
    have hnow := hI.now_
    obtain ⟨o1, o2, o3, o4⟩ := open_sim hok hs (by rw [hnow]; omega) hI.opn (asksAt asks t)
    obtain ⟨k1, k2⟩ := KI.open_ hok (room := l.length) rfl hI.ki (asksAt asks t)
    have hop : (openP l l.length (runP l asks dm t).1 (asksAt asks t)).1.opn = true := open_opn
    obtain ⟨c1, c2⟩ := close_sim k1.good (by rw [k2, hnow]; omega) hop dm
    rw [c1, he, o1]
    rw [o2, k2] at c1 c2 ⊢
    rw [hnow] at *
    refine ⟨⟨c2, ?_, ?_⟩, rfl⟩
    · show LastR l (closeK l _ _).last _
      unfold closeK; rw [if_pos hop]; exact o3
    · show (closeK l _ _).S.Perm (nxS l (closeK l _ _).now)
      unfold closeK; rw [if_pos hop]
      simp only [k2]
      exact o4
end Go.Proofs.YtfjoaeghnfkdlaaGreatDoor
namespace Go.Proofs.YtfjoaeghnfkdlaaGreatDoor
set_option maxRecDepth 100000
set_option maxRecDepth 100000
open Go.RowKit
def lightB (l : List Task) (asks : List Due) (dm : List (List Int)) (ticks : Int) : Bool :=
  fewQ l 20 && decide (asks.length ≤ 200 ∧ dm.length ≤ 20 ∧ ¬ (1000 < ticks ∧ ticks ≤ 65536)) && dm.all fun x => decide (x.length ≤ 1000)
end Go.Proofs.YtfjoaeghnfkdlaaGreatDoor
namespace Go.Proofs.YtfjoaeghnfkdlaaGreatDoor
set_option maxRecDepth 100000
open Go.RowKit

def Elt (P : Program) (t e : TypeId) (k bytes : Nat) : Prop :=
  P.underlying t = some (.slice e) ∧ 0 < k ∧ ∃ i z, P.info? e = some i ∧ i.zero = some z ∧ z.cells.size = k ∧ i.size = k ∧ i.bytes = bytes
def Own {α : Type} (f : α → List Value) (k : Nat) (e : TypeId) (B : Nat) (w : World) (v : Value) (xs : List α) : Prop :=
  w.ownsRow B e k v xs.length (xs.flatMap f)
theorem Own.nil {α : Type} (f : α → List Value) (k : Nat) (e : TypeId) (B : Nat) (w : World) : Own f k e B w (.slice none 0 0) [] := World.ownsRow_nil w B e k
theorem Own.alloc {α : Type} {f : α → List Value} {k : Nat} {e : TypeId} {B : Nat} {w : World} {v : Value} {xs : List α} (h : Own f k e B w v xs) (o : Obj) : Own f k e B (w.alloc o) v xs := World.ownsRow.alloc h o
theorem Own.below {α : Type} {f : α → List Value} {k : Nat} {e : TypeId} {B : Nat} {w w' : World} {v : Value} {xs : List α} (h : Own f k e B w v xs) (hb : Below w.heap.size w w') : Own f k e B w' v xs := by
  obtain ⟨h1, h2⟩ := h
  refine ⟨h1, ?_⟩
  rcases h2 with h2 | ⟨g, cap, cur, hv, hg, hh, r⟩
  · exact .inl h2
  · exact .inr ⟨g, cap, cur, hv, hg, (hb.block g (Array.getElem?_eq_some_iff.1 hh).1).trans hh, r⟩
theorem Own.base {α : Type} {f : α → List Value} {k : Nat} {e : TypeId} {B B' : Nat} {w : World} {v : Value} {xs : List α} (h : Own f k e B w v xs) (hB : B' ≤ B) : Own f k e B' w v xs := by
  obtain ⟨h1, h2⟩ := h
  refine ⟨h1, ?_⟩
  rcases h2 with h2 | ⟨g, cap, cur, hv, hg, r⟩
  · exact .inl h2
  · exact .inr ⟨g, cap, cur, hv, Nat.le_trans hB hg, r⟩
theorem flat_get {α : Type} {f : α → List Value} {k : Nat} (hf : ∀ y, (f y).length = k) : ∀ (xs : List α) (i j : Nat) (x : α) (u : Value), xs[i]? = some x → (f x)[j]? = some u → (xs.flatMap f)[i * k + j]? = some u
  | [], i, j, x, u, h, _ => by simp at h
  | y :: ys, 0, j, x, u, h, hu => by
    simp at h; subst h
    have hj : j < (f y).length := (List.getElem?_eq_some_iff.1 hu).1
    rw [List.flatMap_cons, List.getElem?_append_left (by simpa using hj)]; simpa using hu
  | y :: ys, i + 1, j, x, u, h, hu => by
    have ih := flat_get hf ys i j x u (by simpa using h) hu
    rw [List.flatMap_cons, List.getElem?_append_right (by rw [hf, Nat.add_mul]; omega), hf, Nat.add_mul]
    rwa [show i * k + 1 * k + j - k = i * k + j by omega]
theorem Own.row {α : Type} {f : α → List Value} {k : Nat} {e : TypeId} {B : Nat} {w : World} {v : Value} {xs : List α} {R : Cod α} (h : Own f k e B w v xs) (hf : ∀ y, (f y).length = k) (hR : ∀ x ∈ xs, R w (f x) x) :
    ∃ A c, v = .slice A xs.length c ∧ xs.length ≤ c ∧ c ≤ maxLen ∧ Row R k w A xs := by
  rcases h.2 with ⟨rfl, h0⟩ | ⟨g, cap, cur, rfl, _, _, hn, hm, _⟩
  · obtain rfl : xs = [] := List.eq_nil_of_length_eq_zero h0
    exact ⟨none, 0, rfl, by simp, by simp, Row.nil _ _ _ _⟩
  · refine ⟨some ⟨g, 0, none⟩, cap, rfl, hn, hm, fun _ => ⟨g, 0, rfl, fun i x hx => ⟨f x, hR x (List.mem_of_getElem? hx), hf x, fun j u hu => ?_⟩⟩⟩
    have := World.ownsRow.cells h (g := g) rfl (i * k + j) u (flat_get hf xs i j x u hx hu)
    rwa [Go.WideShapes.add_plain, ← Nat.add_assoc] at this

def AtB (w : World) (b : Nat) (cs : List Value) : Prop := ∀ i u, cs[i]? = some u → w.cell? ⟨b, i, none⟩ = some u
theorem AtB.ext {w w' : World} {b : Nat} {cs : List Value} (h : AtB w b cs) (he : Ext w w') : AtB w' b cs := fun i u hu => he _ _ (h i u hu)
theorem AtB.new (w : World) (cs : List Value) (e : TypeId) : AtB (w.alloc (.cells cs.toArray e)) w.heap.size cs := fun i u hu => by
  rw [World.cell?_alloc_at _ _ _ _ rfl]; simpa using hu
theorem Ext.alloc (w : World) (o : Obj) : Ext w (w.alloc o) := Ext.below ((Below.refl _ _).alloc (Nat.le_refl _) _)
theorem Own.at_ {α : Type} {f : α → List Value} {k : Nat} {e : TypeId} {B : Nat} {w : World} {A : Option Addr} {n c : Nat} {xs : List α} (h : Own f k e B w (.slice A n c) xs) (hp : 0 < xs.length) :
    ∃ g, A = some ⟨g, 0, none⟩ ∧ n = xs.length ∧ B ≤ g ∧ g < w.heap.size ∧ ∀ o, w.frozen? ⟨g, o, none⟩ = false := by
  rcases h.2 with ⟨_, h0⟩ | ⟨g, cap, cur, hv, hb, hh, _⟩
  · omega
  · injection hv with h1 h2 h3
    exact ⟨g, h1, h2, hb, (Array.getElem?_eq_some_iff.1 hh).1, fun o => by simp [World.frozen?, hh]⟩
theorem flat_set {α : Type} {f : α → List Value} {k : Nat} (hf : ∀ y, (f y).length = k) : ∀ (xs : List α) (i j : Nat) (x' : α) (u : Value) (hi : i < xs.length), j < k → f x' = (f xs[i]).set j u → (xs.set i x').flatMap f = (xs.flatMap f).set (i * k + j) u
  | [], i, j, x', u, hi, _, _ => by simp at hi
  | y :: ys, 0, j, x', u, _, hj, h => by
    simp only [List.getElem_cons_zero] at h
    rw [List.set_cons_zero, List.flatMap_cons, List.flatMap_cons, h, Nat.zero_mul, Nat.zero_add, List.set_append_left _ _ (by rw [hf]; exact hj)]
  | y :: ys, i + 1, j, x', u, hi, hj, h => by
    simp only [List.getElem_cons_succ] at h
    have ih := flat_set hf ys i j x' u (by simpa using hi) hj h
    rw [List.set_cons_succ, List.flatMap_cons, List.flatMap_cons, ih, List.set_append_right _ _ (by rw [hf, Nat.add_mul]; omega), hf]
    congr 2
    rw [Nat.add_mul]; omega
theorem Own.store {α : Type} {f : α → List Value} {k : Nat} {e : TypeId} {B : Nat} {w : World} {g n c : Nat} {xs : List α} (h : Own f k e B w (.slice (some ⟨g, 0, none⟩) n c) xs) (hf : ∀ y, (f y).length = k)
    {i j : Nat} (hi : i < xs.length) (hj : j < k) {x' : α} {u : Value} (hx : f x' = (f xs[i]).set j u) : Own f k e B (w.setCell ⟨g, i * k + j, none⟩ u) (.slice (some ⟨g, 0, none⟩) n c) (xs.set i x') := by
  unfold Own at h ⊢
  rw [flat_set hf xs i j x' u hi hj hx, List.length_set]
  refine ⟨by rw [List.length_set]; exact h.1, ?_⟩
  rcases h.2 with ⟨h0, _⟩ | ⟨g', cap, cur, hv, hb, hh, hn, hm, hcs, ht⟩
  · injection h0 with h0; cases h0
  · injection hv with h1 h2 h3
    injection h1 with h1
    injection h1 with h1
    subst h1
    refine .inr ⟨g, cap, cur.setIfInBounds (i * k + j) u, by rw [h2, h3], hb, by simp [World.setCell, Array.getElem?_modify, hh], hn, hm, by simpa using hcs, ?_⟩
    rw [Array.toList_setIfInBounds, List.take_set, ht]
section
variable {P : Program} {α : Type} {f : α → List Value} {k : Nat}
end
end Go.Proofs.YtfjoaeghnfkdlaaGreatDoor
namespace Go.Proofs.YtfjoaeghnfkdlaaGreatDoor
set_option maxRecDepth 100000
open Go.RowKit

end Go.Proofs.YtfjoaeghnfkdlaaGreatDoor
namespace Go.Proofs.YtfjoaeghnfkdlaaGreatDoor
set_option maxRecDepth 100000
set_option maxRecDepth 100000
open Go.RowKit
theorem pl_Events (xs ys : List Event) : Fn Tryz.prog 17 [.lst 5 (xs.map eEvent), .lst 5 (ys.map eEvent)] (.bool (decide (xs = ys))) := by
  refine fnb Tryz.func17 (entered_of (by kernel_rfl)) rfl rfl rfl ?_
  repeat' (first | refine sA ?_ | ((first | apply kM | apply kN); (iterate 3 (· exact rfl)); (· first | exact ya | exact Y.mk (neq_Event rfl rfl rfl))) | refine sG ?_ | (refine sK ?_ ?_ <;> intro hc <;> (try simp only [KL, sL, reduceCtorEq] at hc) <;> (try (have hT : True := hc; clear hT hc)) <;> (try (exfalso; omega))))
  · exact retq rfl (congrArg AV.bool (decide_eq_false fun e => hc (by rw [e])).symm)
  · refine wloop (fun k : Nat => ([(0, .lst 5 (xs.map eEvent)), (1, .lst 5 (ys.map eEvent)), (12, .int .i64 xs.length), (13, .int .i64 k)], [])) (fun k => k ≤ xs.length ∧ ∀ j, j < k → xs[j]? = ys[j]?) (fun k => xs.length - k) 0 ⟨by omega, fun j hj => by omega⟩ les leh (fun k hk => ?_)
    obtain ⟨hk, he⟩ := hk
    refine wrange 12 rfl (fun hr => ?_)
    simp only [rangeP] at hr
    have hl : xs.length = ys.length := by omega
    repeat' (first | refine sA ?_ | ((first | apply kM | apply kN); (iterate 3 (· exact rfl)); (· first | exact ya | exact Y.mk (neq_Event rfl rfl rfl))) | refine sG ?_ | (refine sK ?_ ?_ <;> intro hc <;> (try simp only [KL, sL, reduceCtorEq] at hc) <;> (try (have hT : True := hc; clear hT hc)) <;> (try (exfalso; omega))))
    · exact retq rfl (congrArg AV.bool (decide_eq_false fun e => hc (by rw [e])).symm)
    · exact ⟨k + 1, ⟨by omega, get_next hc (by omega) (by omega) he⟩, by omega, les, leh⟩
    · exact retq rfl (congrArg AV.bool (decide_eq_true (parts_eq hl fun j hj => he j (by omega))).symm)
theorem FnT.le {P : Program} {kn : Know} {f : FuncId} {args args' : List AV} {r : AV} (hf : FnT P kn f args' r) (h : L2 LeV args args') : FnT P kn f args r :=
  ⟨hf.1, fun σ ι w vs hk hsub hv => hf.2 σ ι w vs hk hsub ⟨by rw [← h.1, hv.1], fun j c v hc hv2 => by
    have hj : j < args.length := by rw [h.1]; exact (List.getElem?_eq_some_iff.1 hc).1
    exact h.2 j _ c (List.getElem?_eq_getElem hj) hc σ ι v (hv.2 j _ v (List.getElem?_eq_getElem hj) hv2)⟩⟩
def tk29a : Task := ⟨1, 0, 4, 0, 4, 1, []⟩
def tk29b : Task := ⟨1, 1, 4, 0, 4, 1, []⟩
def evs29 : List Event := [⟨0, 1, 0, 0, 0⟩, ⟨0, 1, 1, 0, 0⟩, ⟨0, 5, 1, 0, 0⟩, ⟨1, 5, 1, 0, 1⟩, ⟨1, 7, 1, 0, 2⟩, ⟨2, 5, 0, 0, 0⟩, ⟨3, 5, 0, 0, 1⟩, ⟨3, 7, 0, 0, 4⟩]
theorem run29_eq : (runP [tk29a, tk29b] [] [[2], [2]] 4).2 = evs29 := by decide +kernel
def stp (es : List Event) : List Int := (es.filter fun e => decide (e.kind = 5)).map Event.task
theorem stp_next (es : List Event) {k : Nat} (h : k < es.length) : stp (es.take (k + 1)) = stp (es.take k) ++ (if (es.getD k default).kind = 5 then [(es.getD k default).task] else []) := by
  have e : es.getD k default = es[k] := by simp [h]
  unfold stp
  rw [List.take_succ_eq_append_getElem h, List.filter_append, List.map_append, ← e]
  congr 1
  by_cases hk : (es.getD k default).kind = 5
  · rw [if_pos hk, List.filter_cons, if_pos (by simpa using hk)]; rfl
  · rw [if_neg hk, List.filter_cons, if_neg (by simpa using hk)]; rfl
theorem stp_len (es : List Event) (k : Nat) : (stp (es.take k)).length ≤ k := by
  unfold stp; rw [List.length_map]
  exact Nat.le_trans (List.length_filter_le _ _) (by rw [List.length_take]; omega)
set_option maxHeartbeats 4000000 in
theorem awake29_fn : FnT Tryz.prog tabK 7 [] (.bool true) := by
  refine fntw Tryz.func7 (entered_of (by kernel_rfl)) rfl rfl rfl rfl ?_
  have c1 : FnT Tryz.prog tabK 26 [.lst 7 ([tk29a, tk29b].map eTask), .nils, .lst 1 (([[2], [2]] : List (List Int)).map eLI), .int .i64 4] (.tup [.lst 5 (evs29.map eEvent), .int .i64 0]) := by
    have h := run_fn [tk29a, tk29b] [] [[2], [2]] 4 (by decide) (by decide) (by decide)
    rw [show (4 : Int).toNat = 4 from rfl, run29_eq] at h
    exact h.le (by repeat' (first | exact L2.nil _ | refine L2.cons ?_ ?_ | exact LeV.of_eq rfl | exact LeV.nils _ | refine LeV.agg ?_))
  have c2 := pl_Ints [1, 1, 0, 0] [1, 1, 0, 0]
  rw [show decide (([1, 1, 0, 0] : List Int) = [1, 1, 0, 0]) = true from rfl] at c2
  repeat' (first | refine sA ?_ | ((first | apply kM | apply kN); (iterate 3 (· exact rfl)); (· first | exact ya)) | refine sG ?_ | (refine sK ?_ ?_ <;> intro hc <;> (try simp only [KL, sL, reduceCtorEq] at hc) <;> (try (have hT : True := hc; clear hT hc)) <;> (try (exfalso; omega))))
  refine ole (s' := [(11, .lst 7 ([tk29a, tk29b].map eTask)), (14, .lst 1 (([[2], [2]] : List (List Int)).map eLI))]) (LeS.cons (lelst (ys := [tk29a, tk29b].map eTask)) (LeS.cons (LeV.of_eq rfl) (LeS.nil _))) (LeH.refl _) ?_
  repeat' (first | refine sA ?_ | ((first | apply kM | apply kN); (iterate 3 (· exact rfl)); (· first | exact ya | exact Y.mk (ok_callT (id := 9) c1 rfl rfl))) | refine sG ?_ | (refine sK ?_ ?_ <;> intro hc <;> (try simp only [KL, sL, reduceCtorEq] at hc) <;> (try (have hT : True := hc; clear hT hc)) <;> (try (exfalso; omega))))
  refine wle (s' := [(3, .int .i64 0), (4, .nils), (18, .lst 5 (evs29.map eEvent)), (19, .int .i64 evs29.length), (20, .int .i64 0)]) (h' := []) les (LeH.nil _) ?_
  refine wturn (turn_own eI (t := 4) rfl 20 3 1 (by omega) rfl) ?_
  refine wloop (fun k : Nat => ([(3, .int .i64 0), (4, .own 20), (18, .lst 5 (evs29.map eEvent)), (19, .int .i64 evs29.length), (20, .int .i64 k)], [(20, .row 3 1 ((stp (evs29.take k)).map eI))])) (fun k => k ≤ evs29.length) (fun k => evs29.length - k) 0 (Nat.zero_le _) les leh (fun k hk => ?_)
  have hlen : evs29.length = 8 := rfl
  rcases Nat.lt_or_eq_of_le hk with hkk | hkk
  · have hnx := stp_next evs29 hkk
    have hsl := stp_len evs29 k
    generalize stp (evs29.take k) = xs at hnx hsl ⊢
    generalize evs29 = es at *
    by_cases h5 : (es.getD k default).kind = 5
    · rw [if_pos h5] at hnx
      repeat' (first | refine sA ?_ | (show O _ _ _ _ _ _ _; first | refine ao_alloc (id := 12) rfl rfl rfl rfl rfl rfl rfl ?_) | ((first | apply kM | apply kN); (iterate 3 (· exact rfl)); (· first | exact ya)) | refine sG ?_ | (refine sK ?_ ?_ <;> intro hc <;> (try simp only [KL, sL, reduceCtorEq] at hc) <;> (try (have hT : True := hc; clear hT hc)) <;> (try (exfalso; omega))))
      all_goals first | (exfalso; omega) | skip
      (refine ao_ap (id := 20) (ys := [(es.getD k default).task]) (by_ := 8) rfl rfl rfl rfl rfl rfl rfl rfl rfl rfl (fun _ _ => rfl) ?_ ?_ rfl rfl rfl rfl rfl ?_; (· (first | omega | ((try simp only [List.length_cons, List.length_nil, List.length_append, List.length_map]) <;> omega))); (· (first | omega | ((try simp only [List.length_cons, List.length_nil, List.length_append, List.length_map]) <;> omega))))
      repeat' (first | refine sA ?_ | ((first | apply kM | apply kN); (iterate 3 (· exact rfl)); (· first | exact ya)) | refine sG ?_ | (refine sK ?_ ?_ <;> intro hc <;> (try simp only [KL, sL, reduceCtorEq] at hc) <;> (try (have hT : True := hc; clear hT hc)) <;> (try (exfalso; omega))))
      exact ⟨k + 1, by omega, by omega, les, by simp only [hnx]; exact leh⟩
    · rw [if_neg h5, List.append_nil] at hnx
      repeat' (first | refine sA ?_ | (show O _ _ _ _ _ _ _; first | refine ao_alloc (id := 12) rfl rfl rfl rfl rfl rfl rfl ?_) | ((first | apply kM | apply kN); (iterate 3 (· exact rfl)); (· first | exact ya)) | refine sG ?_ | (refine sK ?_ ?_ <;> intro hc <;> (try simp only [KL, sL, reduceCtorEq] at hc) <;> (try (have hT : True := hc; clear hT hc)) <;> (try (exfalso; omega))))
      all_goals first | (exfalso; omega) | skip
      exact ⟨k + 1, by omega, by omega, les, by simp only [hnx]; exact leh⟩
  subst hkk
  rw [List.take_length, show stp evs29 = [1, 1, 0, 0] from rfl]
  repeat' (first | refine sA ?_ | ((first | apply kM | apply kN); (iterate 3 (· exact rfl)); (· first | exact ya)) | refine sG ?_ | (refine sK ?_ ?_ <;> intro hc <;> (try simp only [KL, sL, reduceCtorEq] at hc) <;> (try (have hT : True := hc; clear hT hc)) <;> (try (exfalso; omega))))
  all_goals first | (exfalso; omega) | skip
  refine oturn (turn_freeze (t := 36) (id := 20) rfl rfl rfl) ?_
  repeat' (first | refine sA ?_ | ((first | apply kM | apply kN); (iterate 3 (· exact rfl)); (· first | exact ya | exact q_c (c2) rfl)) | refine sG ?_ | (refine sK ?_ ?_ <;> intro hc <;> (try simp only [KL, sL, reduceCtorEq] at hc) <;> (try (have hT : True := hc; clear hT hc)) <;> (try (exfalso; omega))))
  all_goals first | (exfalso; omega) | exact retq rfl rfl
end Go.Proofs.YtfjoaeghnfkdlaaGreatDoor
namespace Go.Proofs.YtfjoaeghnfkdlaaGreatDoor
set_option maxRecDepth 100000
open Go.RowKit Go.MapKept
section
variable {P : Program} {n : Md} {Q : Exit → Slots → Heap → Prop} {s : Slots} {h : Heap} {ops : Array Oper} {rest : List Oper} {o : Oper}
end
end Go.Proofs.YtfjoaeghnfkdlaaGreatDoor
namespace Go.Proofs.YtfjoaeghnfkdlaaGreatDoor
set_option maxRecDepth 100000
set_option maxRecDepth 100000
open Go.RowKit
end Go.Proofs.YtfjoaeghnfkdlaaGreatDoor
namespace Go.Proofs.YtfjoaeghnfkdlaaGreatDoor
set_option maxRecDepth 100000
set_option maxRecDepth 100000
open Go.RowKit
section
variable {P : Program} {n : Md} {Q : Exit → Slots → Heap → Prop} {s : Slots} {h : Heap} {ops : Array Oper} {rest : List Oper} {o : Oper}
variable {β : Type} {H : β → Bool → Heap} {ok ok1 : β → Prop} {K : Slots → β → Prop} {tn ln : List Nat} {c N : Nat} {nw : Nat → List Nat} {m : Nat} {x : β}
theorem qw_anyG {j d : Nat} {want : Bool} {v : AV} (hg : o.guard = some (j, want)) (hd : dstAt ops j = some d) (hb : get s d = .bool want) (hm : Nat.beq m c = false) (ht : tn.contains m = false) (hv : ∀ y f, ok y → Y P o s (H y f) v) (hq : mQ ops c N tn nw m v = true) (hk : QW P ops H ok ok1 tn ln c N nw K (m + 1) rest (putS s o.dst v) x) : QW P ops H ok ok1 tn ln c N nw K m (o :: rest) s x :=
  ⟨.inr (.inr (.inl ⟨.inr ⟨j, want, d, hg, hd, hb⟩, fun e => by rw [e] at hm; simp at hm, ht, v, hq, .inr fun y f hy => (hv y f hy).out, hk.out⟩))⟩
theorem qw_tuG {j d : Nat} {want : Bool} {v : AV} {x' : β} (hg : o.guard = some (j, want)) (hd : dstAt ops j = some d) (hb : get s d = .bool want) (hm : Nat.beq m c = false) (ht : tn.contains m = true) (hx : ok x') (hx1 : ok1 x') (hv : ∀ f, fO ops c m f = true → TuL P (nw m) o s (H x f) (H x' f) v) (hq : mQ ops c N tn nw m v = true) (hk : QW P ops H ok ok1 tn ln c N nw K (m + 1) rest (putS s o.dst v) x') : QW P ops H ok ok1 tn ln c N nw K m (o :: rest) s x :=
  ⟨.inl ⟨.inr ⟨j, want, d, hg, hd, hb⟩, fun e => by rw [e] at hm; simp at hm, ht, x', v, hx, fun _ => hx1, hq, hv, hk.out⟩⟩
end
abbrev ldP (l : List Task) (B : Bk) : Heap :=
  [(0, .blk 127 [.lst 7 (l.map eTask), .own 1, .own 2, .own 3, .int .u64 B.act, .own 4]), (1, .row 71 8 (B.all.map eJob)), (2, mI B.now), (3, mI B.cnt), (4, .row 60 2 (B.overs.map eDue))]
abbrev dumJ (i : Nat) : Nat × Chunk := (i, .row 71 8 (([] : List Job).map eJob))
abbrev dumD (i : Nat) : Nat × Chunk := (i, .row 60 2 (([] : List Due).map eDue))
abbrev dumZ (i : Nat) : Nat × Chunk := (i, .row 3 1 (([] : List Int).map eI))
abbrev ldN (l : List Task) (B : Bk) : Heap :=
  [(5, .row 71 8 (B.all.map eJob)), (6, .row 60 2 (B.overs.map eDue)), (7, mI B.now), (8, mI B.cnt), (9, .blk 127 [.lst 7 (l.map eTask), .own 5, .own 7, .own 8, .int .u64 B.act, .own 6])]
def cB (l : List Task) (B : Bk) (a b c d : AV) : Nat × Chunk := (9, .blk 127 [.lst 7 (l.map eTask), a, b, c, .int .u64 B.act, d])
def cT (l : List Task) (B : Bk) : Nat → Heap
  | 0 => [cB l B (.own 1) (.own 2) (.own 3) (.own 4), dumJ 5, dumD 6, dumZ 7, dumZ 8]
  | 1 => [cB l B (.own 1) (.own 2) (.own 3) (.own 4), (5, .row 71 8 (B.all.map eJob)), dumD 6, dumZ 7, dumZ 8]
  | 2 => [cB l B (.own 1) (.own 2) (.own 3) (.own 4), (5, .row 71 8 (B.all.map eJob)), (6, .row 60 2 (B.overs.map eDue)), dumZ 7, dumZ 8]
  | 3 => [cB l B (.own 1) (.own 2) (.own 3) (.own 4), (5, .row 71 8 (B.all.map eJob)), (6, .row 60 2 (B.overs.map eDue)), dumZ 7, dumZ 8]
  | 4 => [cB l B (.own 5) (.own 2) (.own 3) (.own 4), (5, .row 71 8 (B.all.map eJob)), (6, .row 60 2 (B.overs.map eDue)), dumZ 7, dumZ 8]
  | _ => [cB l B (.own 5) (.own 2) (.own 3) (.own 6), (5, .row 71 8 (B.all.map eJob)), (6, .row 60 2 (B.overs.map eDue)), dumZ 7, dumZ 8]
def cU (l : List Task) (B : Bk) : Nat → Heap
  | 0 => [cB l B (.own 5) (.own 2) (.own 3) (.own 6), (5, .row 71 8 (B.all.map eJob)), (6, .row 60 2 (B.overs.map eDue)), dumZ 7, dumZ 8]
  | 1 => [cB l B (.own 5) (.own 2) (.own 3) (.own 6), (5, .row 71 8 (B.all.map eJob)), (6, .row 60 2 (B.overs.map eDue)), (7, mI B.now), dumZ 8]
  | 2 => [cB l B (.own 5) (.own 2) (.own 3) (.own 6), (5, .row 71 8 (B.all.map eJob)), (6, .row 60 2 (B.overs.map eDue)), (7, mI B.now), (8, mI B.cnt)]
  | 3 => [cB l B (.own 5) (.own 7) (.own 3) (.own 6), (5, .row 71 8 (B.all.map eJob)), (6, .row 60 2 (B.overs.map eDue)), (7, mI B.now), (8, mI B.cnt)]
  | _ => [cB l B (.own 5) (.own 7) (.own 8) (.own 6), (5, .row 71 8 (B.all.map eJob)), (6, .row 60 2 (B.overs.map eDue)), (7, mI B.now), (8, mI B.cnt)]
def cHT (l : List Task) (B : Bk) (y : Nat) (f : Bool) : Heap := ldP l B ++ cT l B y
def cHU (l : List Task) (B : Bk) (y : Nat) (f : Bool) : Heap := ldP l B ++ cU l B y
def cNT (i : Nat) : List Nat := if i = 9 then [5] else if i = 14 then [6] else []
def cNU (i : Nat) : List Nat := if i = 4 then [7] else if i = 9 then [8] else []
def ρ15 (i : Nat) : Nat := if i = 4 then 1 else i
def ρ46 (i : Nat) : Nat := if i = 5 then 6 else i
def ρ27 (i : Nat) : Nat := if i = 4 then 2 else if i = 5 then 7 else i
def ρ38 (i : Nat) : Nat := if i = 4 then 3 else if i = 5 then 8 else i
def ρo (i : Nat) : Nat := [20, 21, 22, 23, 6, 11].getD i i
theorem oversJ_fn (l : List Task) (B : Bk) (hl : B.overs.length ≤ 1000000) : FnH Tryz.prog 51 [.ptr 0 0] (ldH l B) (fun r h' => r = .lst 2 (B.overs.map eDue) ∧ h' = ldH l B) := by
  refine fnhb Tryz.func51 (entered_of (by kernel_rfl)) rfl rfl ?_
  repeat' (first | refine sA ?_ | ((first | apply kM | apply kN); (iterate 3 (· exact rfl)); (· first | exact ya)) | refine sG ?_ | (refine sK ?_ ?_ <;> intro hc <;> (try simp only [KL, sL, reduceCtorEq] at hc) <;> (try (have hT : True := hc; clear hT hc)) <;> (try (exfalso; omega))))
  refine oturn (turn_dummy eDue 11 60 2 (by omega) rfl) ?_
  refine zcall (fun i => ρo i) (clO_Due B.overs hl) rfl rfl leh rfl rfl rfl rfl rfl rfl (fun r h' hR => ?_)
  obtain ⟨rfl, rfl⟩ := hR
  refine ⟨rfl, rfl, ?_⟩
  repeat' (first | refine sA ?_ | ((first | apply kM | apply kN); (iterate 3 (· exact rfl)); (· first | exact ya)) | refine sG ?_ | (refine sK ?_ ?_ <;> intro hc <;> (try simp only [KL, sL, reduceCtorEq] at hc) <;> (try (have hT : True := hc; clear hT hc)) <;> (try (exfalso; omega))))
  refine retT (fun _ => turn_freeze (t := 2) rfl rfl rfl) ?_
  exact reth (h' := ldH l B) rfl leh ⟨rfl, rfl⟩
/-! Nobody's ledger. -/
end Go.Proofs.YtfjoaeghnfkdlaaGreatDoor
namespace Go.Proofs.YtfjoaeghnfkdlaaGreatDoor
set_option maxRecDepth 100000
set_option maxRecDepth 100000
open Go.RowKit
end Go.Proofs.YtfjoaeghnfkdlaaGreatDoor
namespace Go.Proofs.YtfjoaeghnfkdlaaGreatDoor
set_option maxRecDepth 100000
set_option maxRecDepth 100000
open Go.RowKit
end Go.Proofs.YtfjoaeghnfkdlaaGreatDoor
namespace Go.Proofs.YtfjoaeghnfkdlaaGreatDoor
set_option maxRecDepth 100000
set_option maxRecDepth 100000
open Go.RowKit
theorem nowK_fn (l : List Task) (room : Int) (K : Kn) : FnH Tryz.prog 13 [.ptr 0 0] (knH l room K) (fun r h' => r = .int .i64 K.now ∧ h' = knH l room K) := by
  obtain ⟨B, S, last, now, opn⟩ := K
  refine FnH.drop' (fnhb Tryz.func13 (entered_of (by kernel_rfl)) rfl rfl ?_)
  repeat' (first | refine sA ?_ | ((first | apply kM | apply kN); (iterate 3 (· exact rfl)); (· first | exact ya)) | refine sG ?_ | (refine sK ?_ ?_ <;> intro hc <;> (try simp only [KL, sL, reduceCtorEq] at hc) <;> (try (have hT : True := hc; clear hT hc)) <;> (try (exfalso; omega))))
  all_goals exact retq rfl ⟨knX l room B S last now opn, leh, rfl, rfl⟩
theorem jobsK_fn (l : List Task) (room : Int) (K : Kn) (hl : K.B.all.length ≤ 1000000) : FnH Tryz.prog 14 [.ptr 0 0] (knH l room K) (fun r h' => r = .lst 8 (K.B.all.map eJob) ∧ h' = knH l room K) := by
  obtain ⟨B, S, last, now, opn⟩ := K
  refine FnH.drop' (fnhb Tryz.func14 (entered_of (by kernel_rfl)) rfl rfl ?_)
  have c1 := jobsJ_fn l B hl
  repeat' (first | refine sA ?_ | ((first | apply kM | apply kN); (iterate 3 (· exact rfl)); (· first | exact ya)) | refine sG ?_ | (refine sK ?_ ?_ <;> intro hc <;> (try simp only [KL, sL, reduceCtorEq] at hc) <;> (try (have hT : True := hc; clear hT hc)) <;> (try (exfalso; omega))))
  refine zcall (fun i => ρL i) (c1) rfl rfl leh rfl rfl rfl rfl rfl rfl (fun r h' hR => ?_)
  obtain ⟨rfl, rfl⟩ := hR
  refine ⟨rfl, rfl, ?_⟩
  repeat' (first | refine sA ?_ | ((first | apply kM | apply kN); (iterate 3 (· exact rfl)); (· first | exact ya)) | refine sG ?_ | (refine sK ?_ ?_ <;> intro hc <;> (try simp only [KL, sL, reduceCtorEq] at hc) <;> (try (have hT : True := hc; clear hT hc)) <;> (try (exfalso; omega))))
  all_goals exact retq rfl ⟨knX l room B S last now opn, leh, rfl, rfl⟩
theorem oversK_fn (l : List Task) (room : Int) (K : Kn) (hl : K.B.overs.length ≤ 1000000) : FnH Tryz.prog 15 [.ptr 0 0] (knH l room K) (fun r h' => r = .lst 2 (K.B.overs.map eDue) ∧ h' = knH l room K) := by
  obtain ⟨B, S, last, now, opn⟩ := K
  refine FnH.drop' (fnhb Tryz.func15 (entered_of (by kernel_rfl)) rfl rfl ?_)
  have c1 := oversJ_fn l B hl
  repeat' (first | refine sA ?_ | ((first | apply kM | apply kN); (iterate 3 (· exact rfl)); (· first | exact ya)) | refine sG ?_ | (refine sK ?_ ?_ <;> intro hc <;> (try simp only [KL, sL, reduceCtorEq] at hc) <;> (try (have hT : True := hc; clear hT hc)) <;> (try (exfalso; omega))))
  refine zcall (fun i => ρL i) (c1) rfl rfl leh rfl rfl rfl rfl rfl rfl (fun r h' hR => ?_)
  obtain ⟨rfl, rfl⟩ := hR
  refine ⟨rfl, rfl, ?_⟩
  repeat' (first | refine sA ?_ | ((first | apply kM | apply kN); (iterate 3 (· exact rfl)); (· first | exact ya)) | refine sG ?_ | (refine sK ?_ ?_ <;> intro hc <;> (try simp only [KL, sL, reduceCtorEq] at hc) <;> (try (have hT : True := hc; clear hT hc)) <;> (try (exfalso; omega))))
  all_goals exact retq rfl ⟨knX l room B S last now opn, leh, rfl, rfl⟩
/-! Nobody's kernel. -/
theorem nowKN_fn : Fn Tryz.prog 13 [.nilp] (.int .i64 0) := by
  refine fnb Tryz.func13 (entered_of (by kernel_rfl)) rfl rfl rfl ?_
  repeat' (first | refine sA ?_ | ((first | apply kM | apply kN); (iterate 3 (· exact rfl)); (· first | exact ya)) | refine sG ?_ | (refine sK ?_ ?_ <;> intro hc <;> (try simp only [KL, sL, reduceCtorEq] at hc) <;> (try (have hT : True := hc; clear hT hc)) <;> (try (exfalso; omega))))
  all_goals first | (exfalso; omega) | exact retq rfl rfl
theorem jobsKN_fn : Fn Tryz.prog 14 [.nilp] .nils := by
  refine fnb Tryz.func14 (entered_of (by kernel_rfl)) rfl rfl rfl ?_
  repeat' (first | refine sA ?_ | ((first | apply kM | apply kN); (iterate 3 (· exact rfl)); (· first | exact ya)) | refine sG ?_ | (refine sK ?_ ?_ <;> intro hc <;> (try simp only [KL, sL, reduceCtorEq] at hc) <;> (try (have hT : True := hc; clear hT hc)) <;> (try (exfalso; omega))))
  all_goals first | (exfalso; omega) | exact retq rfl rfl
theorem oversKN_fn : Fn Tryz.prog 15 [.nilp] .nils := by
  refine fnb Tryz.func15 (entered_of (by kernel_rfl)) rfl rfl rfl ?_
  repeat' (first | refine sA ?_ | ((first | apply kM | apply kN); (iterate 3 (· exact rfl)); (· first | exact ya)) | refine sG ?_ | (refine sK ?_ ?_ <;> intro hc <;> (try simp only [KL, sL, reduceCtorEq] at hc) <;> (try (have hT : True := hc; clear hT hc)) <;> (try (exfalso; omega))))
  all_goals first | (exfalso; omega) | exact retq rfl rfl
theorem openKN_fn : Fn Tryz.prog 11 [.nilp, .nils] .nils := by
  refine fnb Tryz.func11 (entered_of (by kernel_rfl)) rfl rfl rfl ?_
  repeat' (first | refine sA ?_ | ((first | apply kM | apply kN); (iterate 3 (· exact rfl)); (· first | exact ya)) | refine sG ?_ | (refine sK ?_ ?_ <;> intro hc <;> (try simp only [KL, sL, reduceCtorEq] at hc) <;> (try (have hT : True := hc; clear hT hc)) <;> (try (exfalso; omega))))
  all_goals first | (exfalso; omega) | exact retq rfl rfl
theorem closeKN_fn (a : Int) (e : Bool) : Fn Tryz.prog 12 [.nilp, .int .i64 a, .bool e] .nils := by
  refine fnb Tryz.func12 (entered_of (by kernel_rfl)) rfl rfl rfl ?_
  repeat' (first | refine sA ?_ | ((first | apply kM | apply kN); (iterate 3 (· exact rfl)); (· first | exact ya)) | refine sG ?_ | (refine sK ?_ ?_ <;> intro hc <;> (try simp only [KL, sL, reduceCtorEq] at hc) <;> (try (have hT : True := hc; clear hT hc)) <;> (try (exfalso; omega))))
  all_goals first | (exfalso; omega) | exact retq rfl rfl
theorem pickKN_fn : Fn Tryz.prog 10 [.nilp] (.tup [.int .i64 0, .bool false]) := by
  refine fnb Tryz.func10 (entered_of (by kernel_rfl)) rfl rfl rfl ?_
  repeat' (first | refine sA ?_ | ((first | apply kM | apply kN); (iterate 3 (· exact rfl)); (· first | exact ya)) | refine sG ?_ | (refine sK ?_ ?_ <;> intro hc <;> (try simp only [KL, sL, reduceCtorEq] at hc) <;> (try (have hT : True := hc; clear hT hc)) <;> (try (exfalso; omega))))
  all_goals first | (exfalso; omega) | exact retq rfl rfl
theorem cloneKN_fn : Fn Tryz.prog 16 [.nilp] .nilp := by
  refine fnb Tryz.func16 (entered_of (by kernel_rfl)) rfl rfl rfl ?_
  repeat' (first | refine sA ?_ | ((first | apply kM | apply kN); (iterate 3 (· exact rfl)); (· first | exact ya)) | refine sG ?_ | (refine sK ?_ ?_ <;> intro hc <;> (try simp only [KL, sL, reduceCtorEq] at hc) <;> (try (have hT : True := hc; clear hT hc)) <;> (try (exfalso; omega))))
  all_goals first | (exfalso; omega) | exact retq rfl rfl
end Go.Proofs.YtfjoaeghnfkdlaaGreatDoor
