/- The document's kernel: a run. No condition. -/
import Derived.Test.YtfjoaeghnfkdlaaGreatDoorB26
import Derived.Test.YtfjoaeghnfkdlaaGreatDoorB23
set_option linter.unusedSimpArgs false
set_option linter.unusedVariables false
set_option maxHeartbeats 1000000
set_option maxRecDepth 100000
namespace Go.Proofs.YtfjoaeghnfkdlaaGreatDoor
open Go.RowKit
def XQ (l : List Task) (B : Bk) : Int := if 0 <= je l B l.length then (jH B (je l B l.length)).steps else 0
def wz (l : List Task) (dm : List (List Int)) (B : Bk) : Bool := decide (0 <= je l B l.length) && decide (wv dm (je l B l.length) (jH B (je l B l.length)).no <= XQ l B + 1)
def QA (l : List Task) (asks : List Due) (dm : List (List Int)) (p : Rk) (t : Nat) : Rk :=
 let b := qU l p.B p.LL t (jY asks t)
 ⟨zJ l b.B t (wz l dm b.B), b.LL, p.es ++ b.es ++ zB l b.B t (XQ l b.B) (wz l dm b.B)⟩
def qP (l : List Task) (asks : List Due) (dm : List (List Int)) (n : Nat) : Rk := (List.range n).foldl (QA l asks dm) ⟨xg, List.replicate l.length [], []⟩
theorem xM (l : List Task) (asks : List Due) (dm : List (List Int)) (n : Nat) : qP l asks dm (n + 1) = QA l asks dm (qP l asks dm n) n := by
 rw [qP, List.range_succ, List.foldl_append]; rfl
theorem yM {l : List Task} {B : Bk} : ∀ k, 0 <= je l B k -> jm B.act (je l B k) = true ∧ je l B k < k
 | 0, h => by simp [je] at h
 | k + 1, h => by
  rw [zq] at h ⊢
  split
  ·rename_i hc
   rw [Bool.and_eq_true] at hc
   exact ⟨hc.1, by omega⟩
  ·rename_i hc
   rw [if_neg hc] at h
   obtain ⟨h1, h2⟩ := yM k h
   exact ⟨h1, by omega⟩
theorem JR.tasks {l : List Task} {now : Int} (hn : 0 <= now ∧ now <= 1000000) : ∀ (D : List Nat) {p : Bk × List Event}, JR p.1 -> JR (D.foldl (ye l now) p).1
 | [], p, h => h
 | i :: r, p, h => by
  rw [List.foldl_cons]
  refine JR.tasks hn r ?_
  unfold ye; split
  ·exact h.rel _ _ _ hn
  ·exact h
theorem JR.asks {l : List Task} {now : Int} (hn : 0 <= now ∧ now <= 1000000) : ∀ (D : List Int) {p : Rk}, JR p.B -> JR (D.foldl (qg l now) p).B
 | [], p, h => h
 | i :: r, p, h => by
  rw [List.foldl_cons]
  refine JR.asks hn r ?_
  unfold qg; split
  ·exact h.rel _ _ _ hn
  ·exact h
structure RunR (l : List Task) (asks : List Due) (t : Nat) (p : Rk) : Prop where
 ri : RI l (10 * t + Xy asks t) t p.B p.LL
 jr : JR p.B
 len : p.es.length <= 80 * t + Xy asks t
theorem RI.begin_ {l : List Task} {n : Nat} {now : Int} {B : Bk} {LL : List (List Int)} (h : RI l n now B LL) (hn : 0 <= now ∧ now <= 1000000) (hj : JR B) (asks : List Int) : RI l (n + l.length + asks.length) now (qU l B LL now asks).B (qU l B LL now asks).LL ∧ JR (qU l B LL now asks).B ∧ (qU l B LL now asks).es.length <= 64 + l.length + asks.length := by
 have hg := h.good.late now (jV B.act) (jV B.act).length
 have hT := zm (l := l) (now := now) (List.range l.length) (p := qQ B now) hg.1
 rw [List.length_range] at hT
 have h1 : RI l (n + l.length) now ((List.range l.length).foldl (ye l now) (qQ B now)).1 LL := ⟨hT.1, h.len, fun r hr => ⟨Nat.le_trans (h.rows r hr).1 (by omega), (h.rows r hr).2⟩⟩
 have hlen : (qQ B now).2.length <= 64 := by
  show (List.map _ _).length <= 64
  rw [List.length_map]
  exact Nat.le_trans hg.2.2 (J9 _)
 refine ⟨RI.asks hn.1 asks (p := ⟨_, LL, _⟩) h1, JR.asks hn asks (p := ⟨_, LL, _⟩) (JR.tasks hn _ (hj.late _ _ _)), ?_⟩
 show (asks.foldl (qg l now) _).es.length <= _
 rw [YR]
 have := hT.2
 simp only; omega
theorem RI.next {l : List Task} {n : Nat} {t : Int} {B : Bk} {LL : List (List Int)} (h : RI l n t B LL) {B' : Bk} {m : Nat} (hg : GoodB l m B') (hm : n <= m) : RI l m (t + 1) B' LL :=
 ⟨hg, h.len, fun r hr => ⟨Nat.le_trans (h.rows r hr).1 hm, fun v hv => ⟨((h.rows r hr).2 v hv).1, by have := ((h.rows r hr).2 v hv).2; omega⟩⟩⟩
theorem ZO {l : List Task} {n : Nat} {B : Bk} (h : GoodB l n B) (hj : JR B) (now : Int) (e : Bool) : GoodB l (n + 2) (zJ l B now e) ∧ JR (zJ l B now e) := by
 unfold zJ
 split
 ·unfold x9; split
  ·exact ⟨(h.step _ _).fin _ _, (hj.step _ _).fin _ _⟩
  ·exact ⟨(h.step _ _).mono, hj.step _ _⟩
 ·exact ⟨h.mono.mono, hj⟩
theorem j3p {l : List Task} {B : Bk} {now a : Int} {e : Bool} : (zB l B now a e).length <= 2 := by
 unfold zB; split
 ·split <;> simp
 ·simp
theorem GoodB.up {l : List Task} {n m : Nat} {B : Bk} (h : GoodB l n B) (hm : n <= m) : GoodB l m B := by
 obtain ⟨d, rfl⟩ := Nat.exists_eq_add_of_le hm
 clear hm
 induction d with
 | zero => exact h
 | succ d ih => exact ih.mono
theorem ym {l : List Task} (hl : l.length <= 8) (asks : List Due) (dm : List (List Int)) : ∀ t : Nat, t <= 100000 -> RunR l asks t (qP l asks dm t)
 | 0, _ => ⟨⟨(VB (by omega)).up (Nat.zero_le _), List.length_replicate, fun r hr => (by rw [List.eq_of_mem_replicate hr]; exact ⟨Nat.zero_le _, fun v hv => (by cases hv)⟩)⟩, fun j hj => (by cases hj), Nat.zero_le _⟩
 | t + 1, ht => by
  have ih := ym hl asks dm t (by omega)
  rw [xM]
  obtain ⟨h1, h2, h3⟩ := ih.ri.begin_ ⟨by omega, by omega⟩ ih.jr (jY asks t)
  have hn := zS t (by omega) asks
  obtain ⟨g1, g2⟩ := ZO h1.good h2 t (wz l dm (qU l (qP l asks dm t).B (qP l asks dm t).LL t (jY asks t)).B)
  refine ⟨?_, g2, ?_⟩
  ·have := h1.next g1 (by omega)
   have e : ((t + 1 : Nat) : Int) = (t : Int) + 1 := by push_cast; rfl
   rw [e, hn]
   exact ⟨this.good.up (by omega), this.len, fun r hr => ⟨Nat.le_trans (this.rows r hr).1 (by omega), (this.rows r hr).2⟩⟩
  ·have h4 := ih.len
   have h5 := j3p (l := l) (B := (qU l (qP l asks dm t).B (qP l asks dm t).LL t (jY asks t)).B) (now := t) (a := XQ l (qU l (qP l asks dm t).B (qP l asks dm t).LL t (jY asks t)).B) (e := wz l dm (qU l (qP l asks dm t).B (qP l asks dm t).LL t (jY asks t)).B)
   unfold QA
   simp only [List.length_append]
   push_cast
   omega
/-! When periodic tasks come. -/
def nx (t : Task) (now : Int) : Int := if now <= t.offset then t.offset else t.offset + vg (now - t.offset) t.period * t.period
structure Per (t : Task) : Prop where
 plain : jt t = true
 kind : t.kind = 1
 off : 0 <= t.offset ∧ t.offset <= 1048576
 per : 1 <= t.period ∧ t.period <= 1048576
theorem j5Q {t : Task} (h : Per t) {now : Int} : now <= nx t now := by
 have := h.per
 unfold nx; split
 ·assumption
 ·have := yw (now - t.offset) t.period (by omega) (by omega); omega
theorem XT {t : Task} (h : Per t) {now : Int} (h1 : t.offset <= now) : nx t now = now ↔ (now - t.offset) % t.period = 0 := by
 have hp := h.per
 unfold nx
 by_cases hlo : now <= t.offset
 ·rw [if_pos hlo]
  have e : now - t.offset = 0 := by omega
  rw [e]; simp; omega
 ·rw [if_neg hlo]
  have hc := yw (now - t.offset) t.period (by omega) (by omega)
  generalize hq : vg (now - t.offset) t.period = q at hc
  constructor
  ·intro e
   have : now - t.offset = q * t.period := by omega
   rw [this]; exact Int.mul_emod_left _ _
  ·intro e
   obtain ⟨d, hd⟩ := Int.dvd_of_emod_eq_zero e
   rw [Int.mul_comm] at hd
   rw [hd] at hc
   have h2 : d = q := by
    rcases Int.lt_trichotomy d q with h3 | h3 | h3
    ·have : (d + 1) * t.period <= q * t.period := Int.mul_le_mul_of_nonneg_right (by omega) (by omega)
     rw [Int.add_mul, Int.one_mul] at this; omega
    ·exact h3
    ·have : (q + 1) * t.period <= d * t.period := Int.mul_le_mul_of_nonneg_right (by omega) (by omega)
     rw [Int.add_mul, Int.one_mul] at this; omega
   rw [h2] at hd; omega
theorem j6H {t : Task} (h : Per t) {now : Int} (hn : 0 <= now ∧ now <= 1000000) : atB t now = true ↔ nx t now = now := by
 unfold atB
 rw [h.plain, Bool.true_and, decide_eq_true_eq]
 by_cases h1 : t.offset <= now
 ·rw [XT h h1]
  exact ⟨fun h => h.2.2.2, fun h2 => ⟨h.kind, h1, by omega, h2⟩⟩
 ·constructor
  ·intro h2; omega
  ·intro h2
   unfold nx at h2
   rw [if_pos (by omega)] at h2; omega
theorem j0S {t : Task} (h : Per t) {now : Int} : nx t (now + 1) = if nx t now = now then now + t.period else nx t now := by
 have hp := h.per
 by_cases h1 : t.offset <= now
 ·have e1 : nx t (now + 1) = t.offset + vg (now + 1 - t.offset) t.period * t.period := by unfold nx; rw [if_neg (by omega)]
  have c1 := yw (now + 1 - t.offset) t.period (by omega) (by omega)
  rw [e1]
  generalize vg (now + 1 - t.offset) t.period = q at c1
  split
  ·rename_i h2
   rw [XT h h1] at h2
   obtain ⟨d, hd⟩ := Int.dvd_of_emod_eq_zero h2
   rw [Int.mul_comm] at hd
   have h3 : q = d + 1 := by
    rcases Int.lt_trichotomy q (d + 1) with h3 | h3 | h3
    ·have : q * t.period <= d * t.period := Int.mul_le_mul_of_nonneg_right (by omega) (by omega)
     omega
    ·exact h3
    ·have : (d + 2) * t.period <= q * t.period := Int.mul_le_mul_of_nonneg_right (by omega) (by omega)
     rw [Int.add_mul] at this; omega
   rw [h3, Int.add_mul, Int.one_mul]; omega
  ·rename_i h2
   have hg := j5Q h (now := now)
   unfold nx at h2 hg ⊢
   by_cases hlo : now <= t.offset
   ·rw [if_pos hlo] at h2; omega
   ·rw [if_neg hlo] at h2 hg ⊢
    have c2 := yw (now - t.offset) t.period (by omega) (by omega)
    generalize vg (now - t.offset) t.period = d at c2 h2 hg
    have h3 : q = d := by
     rcases Int.lt_trichotomy q d with h3 | h3 | h3
     ·have : (q + 1) * t.period <= d * t.period := Int.mul_le_mul_of_nonneg_right (by omega) (by omega)
      rw [Int.add_mul, Int.one_mul] at this; omega
     ·exact h3
     ·have : (d + 1) * t.period <= q * t.period := Int.mul_le_mul_of_nonneg_right (by omega) (by omega)
      rw [Int.add_mul, Int.one_mul] at this; omega
    rw [h3]
 ·have e1 : nx t (now + 1) = t.offset := by unfold nx; rw [if_pos (by omega)]
  have e2 : nx t now = t.offset := by unfold nx; rw [if_pos (by omega)]
  rw [e1, e2, if_neg (by omega)]
theorem j4q {t : Task} (h : Per t) : nx t 0 = t.offset := by unfold nx; rw [if_pos h.off.1]
theorem X6 {t : Task} (h : Per t) : qs t 0 = t.offset := by
 have := h.off
 unfold qs
 rw [if_pos ⟨h.plain, h.kind, by omega⟩]
 simp only [if_pos h.off.1]
 rw [if_neg (by omega)]
theorem j0o {t : Task} (h : t.kind ≠ 1) : qs t 0 = -1 := by unfold qs; rw [if_neg (fun h2 => h h2.2.1)]
theorem j5q {t : Task} {now : Int} (h : t.kind ≠ 1) : atB t now = false := by
 unfold atB
 rw [decide_eq_false (fun h2 => h h2.1), Bool.and_false]
/-! The agenda. -/
def xu (l : List Task) : List Nat := (List.range l.length).filter fun i => decide ((l.getD i default).kind = 1)
def nxS (l : List Task) (now : Int) : List Due := (xu l).map fun i => ⟨nx (l.getD i default) now, i⟩
theorem wd {l : List Task} (hok : okK l = true) {i : Nat} (h : i ∈ xu l) : i < l.length ∧ Per (l.getD i default) := by
 obtain ⟨h1, h2⟩ := List.mem_filter.1 h
 rw [List.mem_range] at h1
 rw [okK, Bool.and_eq_true] at hok
 have hp := List.all_eq_true.1 hok.2 (l.getD i default) (qN h1)
 have hs := qL hp
 exact ⟨h1, hp, by simpa using h2, hs.2.2.2.1, hs.2.2.1⟩
theorem j3S {l : List Task} (hok : okK l = true) : w7 l l.length = nxS l 0 := by
 have e : ((List.range l.length).filter fun i => decide (0 <= qs (l.getD i default) 0)) = xu l := by
  unfold xu
  refine List.filter_congr fun i hi => ?_
  rw [List.mem_range] at hi
  by_cases hk : (l.getD i default).kind = 1
  ·have hp := (wd hok (i := i) (List.mem_filter.2 ⟨List.mem_range.2 hi, by simpa using hk⟩)).2
   rw [X6 hp, decide_eq_true hp.off.1, decide_eq_true hk]
  ·rw [j0o hk, decide_eq_false hk]; rfl
 unfold w7 nxS
 rw [e]
 refine List.map_congr_left fun i hi => ?_
 have hp := (wd hok hi).2
 rw [X6 hp, j4q hp]
theorem Jn {p : Due -> Bool} : ∀ {S : List Due}, S.Pairwise (fun a b => p b = true -> p a = true) -> S.takeWhile p = S.filter p ∧ S.dropWhile p = S.filter fun d => !p d
 | [], _ => ⟨rfl, rfl⟩
 | a :: S, h => by
  rw [List.pairwise_cons] at h
  obtain ⟨i1, i2⟩ := Jn h.2
  rw [List.takeWhile_cons, List.dropWhile_cons, List.filter_cons, List.filter_cons]
  cases hp : p a
  ·have hno : ∀ b ∈ S, p b = false := fun b hb => by
    cases hb2 : p b
    ·rfl
    ·have := h.1 b hb hb2; rw [hp] at this; cases this
   refine ⟨?_, ?_⟩
   ·simp only [Bool.false_eq_true, if_false]
    exact (List.filter_eq_nil_iff.2 fun b hb => by rw [hno b hb]; decide).symm
   ·simp only [Bool.false_eq_true, if_false, Bool.not_false, if_true]
    congr 1
    exact (List.filter_eq_self.2 fun b hb => by rw [hno b hb]; rfl).symm
  ·simp only [if_true, Bool.not_true, Bool.false_eq_true, if_false, i1, i2, and_self]
theorem YT (now : Int) (S : List Due) : wY now (jO S) = jO (S.filter fun d => decide (d.at_ <= now)) ∧ (vC now (jO S)).Perm (S.filter fun d => !decide (d.at_ <= now)) := by
 have hs : (jO S).Pairwise (fun a b => (fun d : Due => decide (d.at_ <= now)) b = true -> (fun d : Due => decide (d.at_ <= now)) a = true) :=
  (wD S).imp fun {a b} hab hb => by
    simp only [decide_eq_true_eq] at hb ⊢
    unfold leD at hab
    omega
 obtain ⟨h1, h2⟩ := Jn hs
 unfold wY vC
 rw [h1, h2]
 exact ⟨xf ((qK S).filter _) ((wD S).filter _), (qK S).filter _⟩
def vr (l : List Task) (now : Int) : List Nat := (xu l).filter fun i => decide (nx (l.getD i default) now = now)
theorem j5s {l : List Task} (hok : okK l = true) {now : Int} {S : List Due} (h : S.Perm (nxS l now)) :
  wY now (jO S) = (vr l now).map (fun i : Nat => (⟨now, i⟩ : Due)) ∧ (vC now (jO S)).Perm (((xu l).filter fun i => !decide (nx (l.getD i default) now = now)).map fun i => ⟨nx (l.getD i default) now, i⟩) := by
 obtain ⟨h1, h2⟩ := YT now S
 have hq : ∀ i ∈ xu l, decide (nx (l.getD i default) now <= now) = decide (nx (l.getD i default) now = now) := fun i hi => by
  have := j5Q (wd hok hi).2 (now := now)
  by_cases e : nx (l.getD i default) now = now
  ·rw [decide_eq_true e, decide_eq_true (by omega)]
  ·rw [decide_eq_false e, decide_eq_false (by omega)]
 refine ⟨?_, h2.trans ?_⟩
 ·rw [h1, z1 (h.filter _)]
  symm
  have e : (nxS l now).filter (fun d => decide (d.at_ <= now)) = (vr l now).map (fun i : Nat => (⟨now, i⟩ : Due)) := by
   unfold nxS vr
   rw [List.filter_map]
   have : (xu l).filter ((fun d : Due => decide (d.at_ <= now)) ∘ fun i : Nat => (⟨nx (l.getD i default) now, i⟩ : Due)) = (xu l).filter fun i => decide (nx (l.getD i default) now = now) := List.filter_congr fun i hi => hq i hi
   rw [this]
   refine List.map_congr_left fun i hi => ?_
   have := (List.mem_filter.1 hi).2
   rw [decide_eq_true_eq] at this
   rw [this]
  rw [e]
  refine xf (List.Perm.refl _) ?_
  rw [List.pairwise_map]
  have hlt : (vr l now).Pairwise (· < ·) := (List.pairwise_lt_range.filter _).filter _
  refine hlt.imp fun {a b} hab => ?_
  exact .inr ⟨rfl, (by show (a : Int) <= b; omega)⟩
 ·refine (h.filter _).trans ?_
  unfold nxS
  rw [List.filter_map]
  have : (xu l).filter ((fun d : Due => !decide (d.at_ <= now)) ∘ fun i : Nat => (⟨nx (l.getD i default) now, i⟩ : Due)) = (xu l).filter fun i => !decide (nx (l.getD i default) now = now) := List.filter_congr fun i hi => by
   show (!decide (nx (l.getD i default) now <= now)) = _
   rw [hq i hi]
  rw [this]
theorem j4F {l : List Task} (hok : okK l = true) {now : Int} {R : List Due} (h : R.Perm (((xu l).filter fun i => !decide (nx (l.getD i default) now = now)).map fun i => (⟨nx (l.getD i default) now, i⟩ : Due))) :
  (R ++ (vr l now).map (fun i : Nat => (⟨now + (l.getD i default).period, i⟩ : Due))).Perm (nxS l (now + 1)) := by
 have h1 : ((xu l).filter fun i => !decide (nx (l.getD i default) now = now)).map (fun i => (⟨nx (l.getD i default) now, i⟩ : Due)) = ((xu l).filter fun i => !decide (nx (l.getD i default) now = now)).map (fun i => (⟨nx (l.getD i default) (now + 1), i⟩ : Due)) :=
  List.map_congr_left fun i hi => by
   obtain ⟨h2, h3⟩ := List.mem_filter.1 hi
   rw [j0S (wd hok h2).2, if_neg (by simpa using h3)]
 have h2 : (vr l now).map (fun i : Nat => (⟨now + (l.getD i default).period, i⟩ : Due)) = (vr l now).map (fun i => (⟨nx (l.getD i default) (now + 1), i⟩ : Due)) :=
  List.map_congr_left fun i hi => by
   obtain ⟨h2, h3⟩ := List.mem_filter.1 hi
   rw [j0S (wd hok h2).2, if_pos (by simpa using h3)]
 rw [h1] at h
 rw [h2]
 refine (h.append_right _).trans ?_
 rw [<- List.map_append]
 unfold nxS
 refine List.Perm.map _ ?_
 exact List.perm_append_comm.trans (List.filter_append_perm _ _)
/-! A tick's beginning. -/
def rT (l : List Task) (now : Int) (p : Bk × List Event) (i : Nat) : Bk × List Event := (jv l p.1 i now, p.2 ++ [wG l p.1 now i])
theorem xB (l : List Task) (hok : okK l = true) (now : Int) (hn : 0 <= now ∧ now <= 1000000) (p : Bk × List Event) : (List.range l.length).foldl (ye l now) p = (vr l now).foldl (rT l now) p := by
 have e : vr l now = (List.range l.length).filter fun i => atB (l.getD i default) now := by
  unfold vr xu
  rw [List.filter_filter]
  refine List.filter_congr fun i hi => ?_
  by_cases hk : (l.getD i default).kind = 1
  ·have hp := (wd hok (i := i) (List.mem_filter.2 ⟨hi, by simpa using hk⟩)).2
   rw [decide_eq_true hk, Bool.and_true, Bool.eq_iff_iff, decide_eq_true_eq, j6H hp hn]
  ·rw [decide_eq_false hk, Bool.and_false, j5q hk]
 rw [e, List.foldl_filter]
 rfl
theorem j65 (l : List Task) (K : Kn) (i : Int) : yq l K i = wG l K.B K.now i := rfl
theorem Vq (l : List Task) (hok : okK l = true) (last : List (Int × Int)) (now : Int) (hn : 0 <= now ∧ now <= 1000000) (opn : Bool) : ∀ (D : List Nat) (p : Bk × List Event) (S : List Due), (∀ i ∈ D, i < l.length) -> S.length + D.length <= l.length ->
  (D.map fun i : Nat => (⟨now, i⟩ : Due)).foldl (xw l l.length) ((⟨p.1, S, last, now, opn⟩ : Kn), p.2) = ((⟨(D.foldl (rT l now) p).1, S ++ D.map (fun i : Nat => (⟨now + (l.getD i default).period, i⟩ : Due)), last, now, opn⟩ : Kn), (D.foldl (rT l now) p).2)
 | [], p, S, _, _ => by simp
 | i :: D, p, S, hD, hl => by
  have hi := hD i List.mem_cons_self
  have hp := zT hok i (by omega) (by omega)
  rw [Int.toNat_natCast] at hp
  rw [List.map_cons, List.foldl_cons, List.map_cons, List.foldl_cons]
  have e : xw l l.length ((⟨p.1, S, last, now, opn⟩ : Kn), p.2) ⟨now, i⟩ = ((⟨(rT l now p i).1, S ++ [⟨now + (l.getD i default).period, i⟩], last, now, opn⟩ : Kn), (rT l now p i).2) := by
   unfold xw rT
   rw [List.length_cons] at hl
   have hpe : xS l.length S.length (yb l ⟨now, i⟩) = 0 := by
    unfold xS yb
    simp only [Int.toNat_natCast]
    rw [if_neg (by omega), if_neg (by omega)]
   have hps : wg l.length S (yb l ⟨now, i⟩) = S ++ [yb l ⟨now, i⟩] := by rw [wg, hpe, if_pos rfl]
   have hnd : yb l ⟨now, i⟩ = ⟨now + (l.getD i default).period, i⟩ := by unfold yb; simp only [Int.toNat_natCast]
   rw [hnd] at hps
   unfold zY
   simp only [hnd, hps, j65]
  rw [e, Vq l hok last now hn opn D (rT l now p i) _ (fun j hj => hD j (List.mem_cons_of_mem _ hj)) (by rw [List.length_cons] at hl; simp; omega)]
  simp
def Q1 (l : List Task) (last : List (Int × Int)) (LL : List (List Int)) : Prop := LL.length = l.length ∧ ∀ i : Nat, i < l.length -> jw last (i : Int) = (LL.getD i []).getLast?
theorem j4H {l : List Task} {K : Kn} {LL : List (List Int)} (h : Q1 l K.last LL) (i : Int) : wS l K i = rpQ l LL K.now i := by
 unfold wS rpQ
 by_cases hi : 0 <= i ∧ i < l.length
 ·have e := h.2 i.toNat (by omega)
  rw [show ((i.toNat : Nat) : Int) = i by omega] at e
  rw [e]
  congr 1
  cases (LL.getD i.toNat []).getLast? with
  | none => rfl
  | some v =>
   simp only
   rw [Bool.eq_iff_iff, Bool.not_eq_true', decide_eq_false_iff_not, decide_eq_true_eq]
   omega
 ·rw [decide_eq_false hi]; rfl
theorem j2C {l : List Task} {last : List (Int × Int)} {LL : List (List Int)} (h : Q1 l last LL) {i : Int} (hi : 0 <= i ∧ i < l.length) (now : Int) : Q1 l (jq last i now) (LL.set i.toNat (LL.getD i.toNat [] ++ [now])) := by
 refine ⟨by rw [List.length_set]; exact h.1, fun j hj => ?_⟩
 rw [wO]
 have hil : i.toNat < LL.length := by rw [h.1]; omega
 by_cases e : (j : Int) = i
 ·have e2 : i.toNat = j := by omega
  rw [if_pos e, e2, List.getD_eq_getElem?_getD, List.getElem?_set, if_pos rfl, if_pos (by omega), Option.getD_some]
  simp
 ·rw [if_neg e, h.2 j hj, List.getD_eq_getElem?_getD, List.getD_eq_getElem?_getD, List.getElem?_set, if_neg (by omega)]
theorem zV {l : List Task} {LL : List (List Int)} {now i : Int} (h : rpQ l LL now i = true) : 0 <= i ∧ i < l.length := by
 unfold rpQ at h
 rw [Bool.and_eq_true, Bool.and_eq_true, decide_eq_true_eq] at h
 exact h.1.1
theorem Jl (l : List Task) (S : List Due) (now : Int) (opn : Bool) : ∀ (D : List Int) (last : List (Int × Int)) (q : Rk), Q1 l last q.LL ->
  ∃ last', D.foldl (wU l) ((⟨q.B, S, last, now, opn⟩ : Kn), q.es) = ((⟨(D.foldl (qg l now) q).B, S, last', now, opn⟩ : Kn), (D.foldl (qg l now) q).es) ∧ Q1 l last' (D.foldl (qg l now) q).LL
 | [], last, q, h => ⟨last, rfl, h⟩
 | i :: D, last, q, h => by
  rw [List.foldl_cons, List.foldl_cons]
  have hp : wS l (⟨q.B, S, last, now, opn⟩ : Kn) i = rpQ l q.LL now i := j4H (K := ⟨q.B, S, last, now, opn⟩) h i
  cases hq : rpQ l q.LL now i
  ·rw [hq] at hp
   have e1 : wU l ((⟨q.B, S, last, now, opn⟩ : Kn), q.es) i = ((⟨q.B, S, last, now, opn⟩ : Kn), q.es ++ [⟨now, 2, i, 0, 0⟩]) := by
    unfold wU vd
    simp only [hp, Bool.false_eq_true, if_false]
   have e2 : qg l now q i = ⟨q.B, q.LL, q.es ++ [⟨now, 2, i, 0, 0⟩]⟩ := by unfold qg; rw [if_neg (by rw [hq]; decide)]
   rw [e1, e2]
   exact Jl l S now opn D last ⟨q.B, q.LL, q.es ++ [⟨now, 2, i, 0, 0⟩]⟩ h
  ·rw [hq] at hp
   have e1 : wU l ((⟨q.B, S, last, now, opn⟩ : Kn), q.es) i = ((⟨jv l q.B i now, S, jq last i now, now, opn⟩ : Kn), q.es ++ [wG l q.B now i]) := by
    unfold wU vd zY
    simp only [hp, if_true]
    rfl
   have e2 : qg l now q i = ⟨jv l q.B i now, q.LL.set i.toNat (q.LL.getD i.toNat [] ++ [now]), q.es ++ [wG l q.B now i]⟩ := by unfold qg; rw [if_pos hq]
   rw [e1, e2]
   exact Jl l S now opn D (jq last i now) ⟨jv l q.B i now, q.LL.set i.toNat (q.LL.getD i.toNat [] ++ [now]), q.es ++ [wG l q.B now i]⟩ (j2C h (zV hq) now)
theorem Xd {l : List Task} {now : Int} : ∀ i ∈ vr l now, i < l.length := fun i hi => by
 have := (List.mem_filter.1 (List.mem_filter.1 hi).1).1
 simpa using this
structure Sim (l : List Task) (K : Kn) (B : Bk) (LL : List (List Int)) : Prop where
 bk : K.B = B
 last : Q1 l K.last LL
 due : K.S.Perm (nxS l K.now)
theorem j3B {l : List Task} (hok : okK l = true) {K : Kn} {B : Bk} {LL : List (List Int)} (h : Sim l K B LL) (hn : 0 <= K.now ∧ K.now <= 1000000) (ho : K.opn = false) (asks : List Int) :
  (vT l l.length K asks).2 = (qU l B LL K.now asks).es ∧ (vT l l.length K asks).1.B = (qU l B LL K.now asks).B ∧ Q1 l (vT l l.length K asks).1.last (qU l B LL K.now asks).LL ∧ (vT l l.length K asks).1.S.Perm (nxS l (K.now + 1)) := by
 obtain ⟨hb, hl, hd⟩ := h
 obtain ⟨B0, S, last, now, opn⟩ := K
 simp only at hb hl hd hn ho ⊢
 subst hb ho
 obtain ⟨d1, d2⟩ := j5s hok hd
 have hlenR : (vC now (jO S)).length + (vr l now).length <= l.length := by
  have h1 := d2.length_eq
  rw [List.length_map] at h1
  have h2 := List.Perm.length_eq (List.filter_append_perm (fun i => decide (nx (l.getD i default) now = now)) (xu l))
  rw [List.length_append] at h2
  have h3 : (xu l).length <= l.length := by
   have := List.length_filter_le (fun i => decide ((l.getD i default).kind = 1)) (List.range l.length)
   rw [List.length_range] at this; exact this
  have h4 : (vr l now).length = ((xu l).filter fun i => decide (nx (l.getD i default) now = now)).length := rfl
  omega
 have e1 : vT l l.length (⟨B0, S, last, now, false⟩ : Kn) asks = asks.foldl (wU l) ((wY now (jO S)).foldl (xw l l.length) ((⟨(qQ B0 now).1, vC now (jO S), last, now, true⟩ : Kn), (qQ B0 now).2)) := rfl
 rw [d1, Vq l hok last now hn true (vr l now) (qQ B0 now) _ Xd hlenR] at e1
 have e2 : qU l B0 LL now asks = asks.foldl (qg l now) ⟨((List.range l.length).foldl (ye l now) (qQ B0 now)).1, LL, ((List.range l.length).foldl (ye l now) (qQ B0 now)).2⟩ := rfl
 rw [xB l hok now hn] at e2
 obtain ⟨last', a1, a2⟩ := Jl l (vC now (jO S) ++ (vr l now).map (fun i : Nat => (⟨now + (l.getD i default).period, i⟩ : Due))) now true asks last ⟨((vr l now).foldl (rT l now) (qQ B0 now)).1, LL, ((vr l now).foldl (rT l now) (qQ B0 now)).2⟩ hl
 simp only at a1 a2
 rw [e1, a1, e2]
 exact ⟨rfl, rfl, a2, j4F hok d2⟩
/-! Who is picked, and a tick's end. -/
theorem j2m {l : List Task} {n : Nat} {B : Bk} (h : GoodB l n B) {i : Int} (hi : jm B.act i = true) : 0 <= i ∧ i < l.length := by
 obtain ⟨_, h1, h2, _⟩ := h.pos hi
 have := h.task _ h1
 unfold jH at h2
 rw [h2] at this
 exact this
theorem j1A {l : List Task} {n : Nat} {B : Bk} (h : GoodB l n B) : qE l B = je l B l.length := by
 have hl := h.hl
 have hset : jV B.act = ((List.range l.length).filter fun i : Nat => jm B.act (i : Int)).map fun i : Nat => (i : Int) := by
  unfold jV vJ
  congr 1
  have hb : ∀ i, i < 64 -> B.act.testBit i = jm B.act (i : Int) := fun i hi => by
   rw [vx, Bool.eq_iff_iff, decide_eq_true_eq]
   unfold jV vJ
   rw [List.mem_map]
   constructor
   ·intro hb; exact ⟨i, List.mem_filter.2 ⟨List.mem_range.2 hi, hb⟩, rfl⟩
   ·rintro ⟨j, hj, e⟩
    have e : j = i := by omega
    subst e; exact (List.mem_filter.1 hj).2
  have e : List.range 64 = List.range l.length ++ (List.range (64 - l.length)).map (l.length + ·) := by
   rw [<- List.range_add]; congr 1; omega
  rw [e, List.filter_append]
  have e2 : ((List.range (64 - l.length)).map (l.length + ·)).filter B.act.testBit = [] := by
   rw [List.filter_eq_nil_iff]
   intro i hi
   obtain ⟨j, hj, rfl⟩ := List.mem_map.1 hi
   rw [List.mem_range] at hj
   rw [hb _ (by omega)]
   intro hc
   have := j2m h hc
   omega
  rw [e2, List.append_nil]
  refine List.filter_congr fun i hi => hb i ?_
  rw [List.mem_range] at hi; omega
 unfold qE V2
 rw [List.take_length, hset, List.foldl_map]
 unfold je
 rw [List.foldl_filter]
 have key : ∀ k, k <= l.length -> ((List.range k).foldl (fun (b : Int) (i : Nat) => if jm B.act (i : Int) = true then yG (ze l) b i else b) (-1) = (List.range k).foldl (fun (b : Int) (i : Nat) => if (jm B.act (i : Int) && (decide (b < 0) || ahK l (i : Int) b)) = true then (i : Int) else b) (-1)) ∧ (List.range k).foldl (fun (b : Int) (i : Nat) => if (jm B.act (i : Int) && (decide (b < 0) || ahK l (i : Int) b)) = true then (i : Int) else b) (-1) < k := by
  intro k
  induction k with
  | zero => intro _; exact ⟨rfl, by simp⟩
  | succ k ih =>
   intro hk
   obtain ⟨i1, i2⟩ := ih (by omega)
   rw [List.range_succ, List.foldl_append, List.foldl_append, i1]
   simp only [List.foldl_cons, List.foldl_nil]
   generalize (List.range k).foldl (fun (b : Int) (i : Nat) => if (jm B.act (i : Int) && (decide (b < 0) || ahK l (i : Int) b)) = true then (i : Int) else b) (-1) = b at i2 ⊢
   have hpl : (ze l).length = l.length := by simp [ze]
   constructor
   ·cases hh : jm B.act (k : Int)
    ·simp
    ·simp only [Bool.true_and, if_true, yG]
     by_cases hb : b < 0
     ·rw [if_pos ⟨by omega, by omega, .inl hb⟩, decide_eq_true hb, Bool.true_or, if_pos rfl]
     ·rw [decide_eq_false hb, Bool.false_or]
      unfold ahK
      rw [decide_eq_true (show 0 <= (k : Int) ∧ (k : Int) < l.length ∧ 0 <= b ∧ b < l.length by omega), Bool.true_and]
      cases hbf : vW (ze l) k b
      ·rw [if_neg (fun hc => by rcases hc.2.2 with h5 | h5; exact hb h5; cases h5), if_neg (by decide)]
      ·rw [if_pos ⟨by omega, by omega, .inr rfl⟩, if_pos rfl]
   ·split <;> omega
 exact (key l.length (Nat.le_refl _)).1
theorem V0 {l : List Task} {n : Nat} {B : Bk} (h : GoodB l n B) {i : Int} (hi : jm B.act i = true) (t : Int) : jH (jc B i t) i = qn t (jH B i) := by
 obtain ⟨_, h1, _, _⟩ := h.pos hi
 have e : qh (jc B i t) i = qh B i := by unfold jc; rw [if_pos hi]; rfl
 unfold jH
 rw [e]
 unfold jc
 rw [if_pos hi]
 show (B.all.set (qh B i) _).getD (qh B i) default = _
 rw [vS _ h1, if_pos rfl]; rfl
theorem j1B {l : List Task} {n : Nat} {K : Kn} (h : GoodB l n K.B) (hn : 0 <= K.now ∧ K.now <= 1000000) (ho : K.opn = true) (dm : List (List Int)) :
  zE l K (wu K.B (VU l K)).steps (YY l dm K) = zB l K.B K.now (XQ l K.B) (wz l dm K.B) ∧ (vY l K (YY l dm K)).B = zJ l K.B K.now (wz l dm K.B) := by
 have hp := j1A h
 obtain ⟨B, S, last, now, opn⟩ := K
 simp only at h hn ho hp ⊢
 subst ho
 have hw : VU l ⟨B, S, last, now, true⟩ = max (je l B l.length) 0 := by rw [<- hp]; rfl
 unfold zE vY zB zJ wz YY
 unfold XQ
 rw [hw]
 simp only [if_true, hp]
 have hpk := yM (l := l) (B := B) l.length
 generalize je l B l.length = pv at *
 by_cases h0 : 0 <= pv
 ·have hh := (hpk h0).1
  have hm : max pv 0 = pv := by omega
  have hj : wu B pv = jH B pv := by unfold wu; rw [if_pos hh]
  rw [hm, hj, if_pos h0, if_pos h0, if_pos h0, if_pos h0, if_pos h0, decide_eq_true h0, Bool.true_and]
  refine ⟨?_, rfl⟩
  unfold Vm
  congr 1
  rw [V0 h hh]
  have : inT now = now := by unfold inT; omega
  simp only [vQ, qn, this]
 ·rw [if_neg h0, if_neg h0, if_neg h0, if_neg h0]
  exact ⟨rfl, rfl⟩
theorem Xz {l : List Task} (hok : okK l = true) (asks : List Due) (dm : List (List Int)) : ∀ t : Nat, t <= 100000 -> Sim l (xN l asks dm t).1 (qP l asks dm t).B (qP l asks dm t).LL ∧ (xN l asks dm t).2 = (qP l asks dm t).es
 | 0, _ => ⟨⟨rfl, ⟨List.length_replicate, fun i hi => (by
   show none = (((List.replicate l.length []).getD i [] : List Int)).getLast?
   rw [List.getD_eq_getElem?_getD, List.getElem?_replicate, if_pos hi]; rfl)⟩, (by rw [show (xN l asks dm 0).1.S = w7 l l.length from rfl, j3S hok]; exact List.Perm.refl _)⟩, rfl⟩
 | t + 1, ht => by
  obtain ⟨hs, he⟩ := Xz hok asks dm t (by omega)
  have hI := XR hok asks dm t (by omega)
  rw [Jt, xM]
  unfold Yj QA
  simp only
  have hnow := hI.now_
  obtain ⟨o1, o2, o3, o4⟩ := j3B hok hs (by rw [hnow]; omega) hI.opn (jY asks t)
  obtain ⟨k1, k2⟩ := KI.open_ hok (room := l.length) rfl hI.ki (jY asks t)
  have hop : (vT l l.length (xN l asks dm t).1 (jY asks t)).1.opn = true := VK
  obtain ⟨c1, c2⟩ := j1B k1.good (by rw [k2, hnow]; omega) hop dm
  rw [c1, he, o1]
  rw [o2, k2] at c1 c2 ⊢
  rw [hnow] at *
  refine ⟨⟨c2, ?_, ?_⟩, rfl⟩
  ·show Q1 l (vY l _ _).last _
   unfold vY; rw [if_pos hop]; exact o3
  ·show (vY l _ _).S.Perm (nxS l (vY l _ _).now)
   unfold vY; rw [if_pos hop]
   simp only [k2]
   exact o4
/-! What the law looks at. -/
structure St29 where
 A : List Bool
 G : List Due
 n : Int
def VO (l : List Task) (s : St29) (x : Event) : Bool :=
 decide (x.kind = 2) || ((if x.kind = 6 then decide (x.task = -1) else decide (0 <= x.task ∧ x.task < l.length)) &&
  (!decide (x.kind = 5 ∨ x.kind = 6) || (decide (x.t = s.n) && (List.range s.A.length).all fun i : Nat => !(s.A.getD i false) || (decide (x.kind = 5) && (decide ((i : Int) = x.task) || !ahK l i x.task)))))
def Y9 (s : St29) (x : Event) : St29 :=
 if x.kind = 1 then ⟨s.A.set x.task.toNat true, s.G ++ [⟨x.t, x.task⟩], s.n⟩
 else if x.kind = 3 then ⟨s.A, s.G ++ [⟨x.t, x.task⟩], s.n⟩
 else if x.kind = 5 ∨ x.kind = 6 then ⟨s.A, s.G, s.n + 1⟩
 else if x.kind = 7 then ⟨s.A.set x.task.toNat false, s.G, s.n⟩
 else s
def xn (l : List Task) : St29 -> List Event -> Option St29
 | s, [] => some s
 | s, x :: r => if VO l s x then xn l (Y9 s x) r else none
theorem wW (l : List Task) (s : St29) (x : Event) (r : List Event) : xn l s (x :: r) = if VO l s x then xn l (Y9 s x) r else none := rfl
theorem yr (l : List Task) : ∀ (a b : List Event) (s s' : St29), xn l s a = some s' -> xn l s (a ++ b) = xn l s' b
 | [], b, s, s', h => by cases h; rfl
 | x :: r, b, s, s', h => by
  rw [wW] at h
  rw [List.cons_append, wW]
  split at h
  ·rename_i hx; rw [if_pos hx]; exact yr l r b _ _ h
  ·cases h
def QE (l : List Task) (A : List Bool) (B : Bk) : Prop := A.length = l.length ∧ ∀ i : Nat, i < l.length -> A.getD i false = jm B.act i
theorem Vi {A : List Bool} {p k : Nat} {b : Bool} (hp : p < A.length) : (A.set p b).getD k false = if p = k then b else A.getD k false := by
 rw [List.getD_eq_getElem?_getD, List.getD_eq_getElem?_getD, List.getElem?_set]
 by_cases h : p = k
 ·subst h; rw [if_pos rfl, if_pos hp, if_pos rfl]; rfl
 ·rw [if_neg h, if_neg h]
theorem Qz (l : List Task) (B : Bk) (t i : Int) : (wG l B t i).t = t ∧ (wG l B t i).task = i ∧ ((x6 l B i = true ∧ (wG l B t i).kind = 1) ∨ (x6 l B i = false ∧ (wG l B t i).kind = 3)) := by
 unfold wG yq
 simp only
 cases h : x6 l B i
 ·exact ⟨rfl, rfl, .inr ⟨rfl, rfl⟩⟩
 ·exact ⟨rfl, rfl, .inl ⟨rfl, rfl⟩⟩
theorem j4b {l : List Task} (B : Bk) {i : Int} (hi : 0 <= i ∧ i < l.length) (h64 : l.length <= 64) (t : Int) : (x6 l B i = true -> ∀ j, jm (jv l B i t).act j = (decide (j = i) || jm B.act j)) ∧ (x6 l B i = false -> (jv l B i t).act = B.act) := by
 unfold x6 jv
 rw [decide_eq_false (show ¬ (i < 0 ∨ (l.length : Int) <= i) by omega), if_neg (show ¬ (i < 0 ∨ (l.length : Int) <= i) by omega), Bool.not_false, Bool.true_and]
 constructor
 ·intro h
  rw [Bool.not_eq_true'] at h
  rw [if_neg (by rw [h]; decide)]
  intro j
  rw [Bool.eq_iff_iff, J1 ⟨hi.1, by omega⟩, Bool.or_eq_true, decide_eq_true_eq]
 ·intro h
  rw [Bool.not_eq_false'] at h
  rw [if_pos h]
theorem YB {l : List Task} {A : List Bool} {G : List Due} {n t : Int} {B : Bk} (h : QE l A B) {i : Int} (hi : 0 <= i ∧ i < l.length) (h64 : l.length <= 64) :
  VO l ⟨A, G, n⟩ (wG l B t i) = true ∧ ∃ A', Y9 ⟨A, G, n⟩ (wG l B t i) = ⟨A', G ++ [⟨t, i⟩], n⟩ ∧ QE l A' (jv l B i t) := by
 obtain ⟨e1, e2, e3⟩ := Qz l B t i
 obtain ⟨a1, a2⟩ := j4b B hi h64 t
 rcases e3 with ⟨r1, r2⟩ | ⟨r1, r2⟩
 ·refine ⟨?_, A.set i.toNat true, ?_, ?_⟩
  ·unfold VO
   rw [r2, e2, if_neg (by decide), decide_eq_true hi]; rfl
  ·unfold Y9
   rw [if_pos r2, e1, e2]
  ·refine ⟨by rw [List.length_set]; exact h.1, fun j hj => ?_⟩
   rw [Vi (by rw [h.1]; omega), a1 r1]
   by_cases e : i.toNat = j
   ·rw [if_pos e, decide_eq_true (by omega), Bool.true_or]
   ·rw [if_neg e, decide_eq_false (by omega), Bool.false_or]; exact h.2 j hj
 ·refine ⟨?_, A, ?_, ?_⟩
  ·unfold VO
   rw [r2, e2, if_neg (by decide), decide_eq_true hi]; rfl
  ·unfold Y9
   rw [if_neg (by rw [r2]; decide), if_pos r2, e1, e2]
  ·refine ⟨h.1, fun j hj => ?_⟩
   rw [a2 r1]; exact h.2 j hj
theorem Vl {l : List Task} (h64 : l.length <= 64) {n t : Int} : ∀ (D : List Nat) (B : Bk) (A : List Bool) (G : List Due) (es : List Event), (∀ i ∈ D, i < l.length) -> QE l A B ->
  ∃ es' A', (D.foldl (rT l t) (B, es)).2 = es ++ es' ∧ xn l ⟨A, G, n⟩ es' = some ⟨A', G ++ D.map (fun i : Nat => (⟨t, i⟩ : Due)), n⟩ ∧ QE l A' (D.foldl (rT l t) (B, es)).1
 | [], B, A, G, es, _, h => ⟨[], A, by simp, by simp [xn], h⟩
 | i :: D, B, A, G, es, hD, h => by
  obtain ⟨h1, A1, h2, h3⟩ := YB (G := G) (n := n) (t := t) h (i := i) ⟨by omega, by have := hD i List.mem_cons_self; omega⟩ h64
  obtain ⟨es', A', k1, k2, k3⟩ := Vl h64 D (jv l B i t) A1 (G ++ [⟨t, i⟩]) (es ++ [wG l B t i]) (fun j hj => hD j (List.mem_cons_of_mem _ hj)) h3
  rw [List.foldl_cons]
  refine ⟨wG l B t i :: es', A', ?_, ?_, k3⟩
  ·show (D.foldl (rT l t) (jv l B i t, es ++ [wG l B t i])).2 = _
   rw [k1]; simp
  ·unfold xn
   rw [if_pos h1, h2, k2]; simp
/-! Who is let through of those that are asked for. -/
def qa : (Int -> Bool) -> List Int -> List Int
 | _, [] => []
 | q, i :: xs => if q i then i :: qa (fun j => q j && !decide (j = i)) xs else qa q xs
theorem wE : ∀ (xs : List Int) {q q' : Int -> Bool}, (∀ i ∈ xs, q i = q' i) -> qa q xs = qa q' xs
 | [], _, _, _ => rfl
 | i :: xs, q, q', h => by
  unfold qa
  rw [h i List.mem_cons_self, wE xs (q := q) (q' := q') fun j hj => h j (List.mem_cons_of_mem _ hj), wE xs (q := fun j => q j && !decide (j = i)) (q' := fun j => q' j && !decide (j = i)) fun j hj => by rw [h j (List.mem_cons_of_mem _ hj)]]
theorem vh : ∀ (xs : List Int) {q : Int -> Bool} {i : Int}, i ∈ qa q xs ↔ i ∈ xs ∧ q i = true
 | [], q, i => by simp [qa]
 | a :: xs, q, i => by
  unfold qa
  split
  ·rename_i ha
   rw [List.mem_cons, List.mem_cons, vh xs, Bool.and_eq_true, Bool.not_eq_true', decide_eq_false_iff_not]
   constructor
   ·rintro (rfl | ⟨h1, h2, _⟩)
    ·exact ⟨.inl rfl, ha⟩
    ·exact ⟨.inr h1, h2⟩
   ·rintro ⟨h1, h2⟩
    by_cases e : i = a
    ·exact .inl e
    ·exact .inr ⟨h1.resolve_left e, h2, e⟩
  ·rename_i ha
   rw [List.mem_cons, vh xs]
   constructor
   ·rintro ⟨h1, h2⟩; exact ⟨.inr h1, h2⟩
   ·rintro ⟨h1, h2⟩
    refine ⟨h1.resolve_left fun e => ?_, h2⟩
    subst e; exact ha h2
theorem wn : ∀ (xs : List Int) {q : Int -> Bool}, (qa q xs).Nodup
 | [], q => List.nodup_nil
 | a :: xs, q => by
  unfold qa
  split
  ·rw [List.nodup_cons]
   refine ⟨fun h => ?_, wn xs⟩
   have := ((vh xs).1 h).2
   simp at this
  ·exact wn xs
theorem Zg {xs ys : List Int} (h : xs.Perm ys) (q : Int -> Bool) : (qa q xs).Perm (qa q ys) :=
 (List.perm_ext_iff_of_nodup (wn xs) (wn ys)).2 fun i => by rw [vh, vh, h.mem_iff]
theorem Qb {l : List Task} (hok : okK l = true) {LL : List (List Int)} (hL : LL.length = l.length) {t i : Int} (hi : rpQ l LL t i = true) (j : Int) : rpQ l (LL.set i.toNat (LL.getD i.toNat [] ++ [t])) t j = (rpQ l LL t j && !decide (j = i)) := by
 have hin := zV hi
 by_cases hj : 0 <= j ∧ j < l.length
 ·unfold rpQ
  rw [decide_eq_true hj]
  simp only [Bool.true_and]
  by_cases e : j = i
  ·subst e
   have hp := zT hok j hj.1 hj.2
   rw [decide_eq_true rfl, Bool.not_true, Bool.and_false]
   rw [List.getD_eq_getElem?_getD (l := LL.set _ _), List.getElem?_set, if_pos rfl, if_pos (by rw [hL]; omega), Option.getD_some]
   simp only [List.getLast?_concat]
   rw [decide_eq_false (show ¬ (l.getD j.toNat default).period <= t - t by omega), Bool.and_false]
  ·rw [decide_eq_false e, Bool.not_false, Bool.and_true]
   congr 1
   rw [List.getD_eq_getElem?_getD (l := LL.set _ _), List.getElem?_set, if_neg (by omega), <- List.getD_eq_getElem?_getD]
 ·unfold rpQ
  rw [decide_eq_false hj]; simp
theorem VS {l : List Task} (hok : okK l = true) (h64 : l.length <= 64) {n t : Int} : ∀ (D : List Int) (B : Bk) (LL : List (List Int)) (A : List Bool) (G : List Due) (es : List Event), LL.length = l.length -> QE l A B ->
  ∃ es' A', (D.foldl (qg l t) ⟨B, LL, es⟩).es = es ++ es' ∧ xn l ⟨A, G, n⟩ es' = some ⟨A', G ++ (qa (rpQ l LL t) D).map (fun i => (⟨t, i⟩ : Due)), n⟩ ∧ QE l A' (D.foldl (qg l t) ⟨B, LL, es⟩).B
 | [], B, LL, A, G, es, _, h => ⟨[], A, by simp, by simp [xn, qa], h⟩
 | i :: D, B, LL, A, G, es, hL, h => by
  rw [List.foldl_cons]
  cases hq : rpQ l LL t i
  ·have e2 : qg l t ⟨B, LL, es⟩ i = ⟨B, LL, es ++ [⟨t, 2, i, 0, 0⟩]⟩ := by unfold qg; rw [if_neg (by simp only [hq]; decide)]
   obtain ⟨es', A', k1, k2, k3⟩ := VS hok h64 (n := n) (t := t) D B LL A G (es ++ [⟨t, 2, i, 0, 0⟩]) hL h
   rw [e2]
   refine ⟨⟨t, 2, i, 0, 0⟩ :: es', A', by rw [k1]; simp, ?_, k3⟩
   unfold xn qa
   rw [if_pos (show VO l ⟨A, G, n⟩ ⟨t, 2, i, 0, 0⟩ = true from rfl), if_neg (by rw [hq]; decide)]
   exact k2
  ·have e2 : qg l t ⟨B, LL, es⟩ i = ⟨jv l B i t, LL.set i.toNat (LL.getD i.toNat [] ++ [t]), es ++ [wG l B t i]⟩ := by unfold qg; rw [if_pos hq]
   obtain ⟨h1, A1, h2, h3⟩ := YB (G := G) (n := n) (t := t) h (zV hq) h64
   obtain ⟨es', A', k1, k2, k3⟩ := VS hok h64 (n := n) (t := t) D (jv l B i t) (LL.set i.toNat (LL.getD i.toNat [] ++ [t])) A1 (G ++ [⟨t, i⟩]) (es ++ [wG l B t i]) (by rw [List.length_set]; exact hL) h3
   rw [e2]
   refine ⟨wG l B t i :: es', A', by rw [k1]; simp, ?_, k3⟩
   unfold xn
   rw [if_pos h1, h2, k2]
   conv => rhs; unfold qa
   rw [if_pos hq, wE D (q := rpQ l (LL.set i.toNat (LL.getD i.toNat [] ++ [t])) t) (q' := fun j => rpQ l LL t j && !decide (j = i)) fun j _ => Qb hok hL hq j]
   simp
/-! Who is late. -/
theorem Yh {l : List Task} {n : Nat} {B : Bk} (h : GoodB l n B) {t m : Int} {A : List Bool} {G : List Due} : ∀ (D : List Int), (∀ i ∈ D, jm B.act i = true) -> xn l ⟨A, G, m⟩ (D.map (x4 B t)) = some ⟨A, G, m⟩
 | [], _ => rfl
 | i :: D, hD => by
  have hi := j2m h (hD i List.mem_cons_self)
  rw [List.map_cons, wW]
  have e : x4 B t i = ⟨t, 4, i, (if jm B.act i then jH B i else default).no, 0⟩ := rfl
  have eo : VO l ⟨A, G, m⟩ ⟨t, 4, i, (if jm B.act i then jH B i else default).no, 0⟩ = (decide (0 <= i ∧ i < l.length) && true) := rfl
  rw [e, if_pos (by rw [eo, decide_eq_true hi]; rfl)]
  exact Yh h D fun j hj => hD j (List.mem_cons_of_mem _ hj)
/-! Nobody goes ahead of whoever is picked. -/
theorem j1u (prio : List Int) {a b : Int} (h : a ≠ b) : vW prio a b = !vW prio b a := by
 unfold vW
 rw [Bool.eq_iff_iff, Bool.not_eq_true', decide_eq_true_eq, decide_eq_false_iff_not]; omega
theorem ZF (prio : List Int) {a b c : Int} (h1 : vW prio a b = true) (h2 : vW prio b c = true) : vW prio a c = true := by
 unfold vW at *
 rw [decide_eq_true_eq] at *; omega
theorem Qp {l : List Task} {B : Bk} : ∀ k, k <= l.length -> ∀ i : Nat, i < k -> jm B.act i = true -> 0 <= je l B k ∧ ((i : Int) ≠ je l B k -> ahK l i (je l B k) = false)
 | 0, _, i, hi, _ => by omega
 | k + 1, hk, i, hi, hh => by
  have hpk := yM (l := l) (B := B) k
  rw [zq]
  have ih := fun (j : Nat) hj hjh => Qp (l := l) (B := B) k (by omega) j hj hjh
  split
  ·rename_i hc
   rw [Bool.and_eq_true, Bool.or_eq_true, decide_eq_true_eq] at hc
   refine ⟨by omega, fun hne => ?_⟩
   have hik : i < k := by omega
   obtain ⟨i1, i2⟩ := ih i hik hh
   have hc2 := hc.2.resolve_left (by omega)
   by_cases e : (i : Int) = je l B k
   ·rw [<- e] at hc2
    unfold ahK at hc2 ⊢
    rw [Bool.and_eq_true] at hc2
    rw [j1u _ hne, hc2.2, Bool.not_true, Bool.and_false]
   ·have h3 := i2 e
    unfold ahK at hc2 h3 ⊢
    rw [Bool.and_eq_true, decide_eq_true_eq] at hc2
    rw [decide_eq_true (show 0 <= (i : Int) ∧ (i : Int) < l.length ∧ 0 <= je l B k ∧ je l B k < l.length by omega), Bool.true_and] at h3
    cases hb : vW (ze l) i k
    ·rw [Bool.and_false]
    ·have := ZF _ hb hc2.2
     rw [h3] at this; cases this
  ·rename_i hc
   by_cases hik : i < k
   ·exact ih i hik hh
   ·have e : i = k := by omega
    subst e
    rw [hh, Bool.true_and, Bool.or_eq_true, decide_eq_true_eq] at hc
    refine ⟨by omega, fun _ => ?_⟩
    cases ha : ahK l i (je l B i)
    ·rfl
    ·exact absurd (.inr ha) hc
theorem j3c {l : List Task} {n : Nat} {B : Bk} (h : GoodB l n B) (t pv : Int) (e : Bool) (hp : jm B.act pv = true) (j : Int) : jm (x9 B t pv e).act j = if e then (jm B.act j && !decide (j = pv)) else jm B.act j := by
 have hs : (jc B pv t).act = B.act := by unfold jc; split <;> rfl
 unfold x9
 cases e
 ·simp only [Bool.false_eq_true, if_false]; rw [hs]
 ·simp only [if_true]
  have : (vk (jc B pv t) pv t).act = zh B.act pv := by unfold vk; rw [hs, if_pos hp]
  rw [this, Bool.eq_iff_iff, Bool.and_eq_true, Bool.not_eq_true', decide_eq_false_iff_not]
  exact ⟨fun h => Vz h, fun h => X8 h.1 h.2⟩
theorem j4E {l : List Task} {n : Nat} {B : Bk} (h : GoodB l n B) {A : List Bool} {G : List Due} {t : Int} (ha : QE l A B) (at_ : Int) (ended : Bool) :
  ∃ A', xn l ⟨A, G, t⟩ (zB l B t at_ ended) = some ⟨A', G, t + 1⟩ ∧ QE l A' (zJ l B t ended) := by
 have hpk := yM (l := l) (B := B) l.length
 have hbest := Qp (l := l) (B := B) l.length (Nat.le_refl _)
 unfold zB zJ
 generalize je l B l.length = pv at *
 by_cases hp : 0 <= pv
 ·obtain ⟨hh, hlt⟩ := hpk hp
  rw [if_pos hp, if_pos hp]
  have hok1 : ∀ no : Int, VO l ⟨A, G, t⟩ ⟨t, 5, pv, no, at_⟩ = true := fun no => by
   have eo : VO l ⟨A, G, t⟩ ⟨t, 5, pv, no, at_⟩ = (decide (0 <= pv ∧ pv < l.length) && (decide (t = t) && (List.range A.length).all fun i : Nat => !(A.getD i false) || (decide ((5 : Int) = 5) && (decide ((i : Int) = pv) || !ahK l i pv)))) := rfl
   rw [eo, decide_eq_true (show 0 <= pv ∧ pv < l.length from ⟨hp, hlt⟩), decide_eq_true rfl]
   have : ((List.range A.length).all fun i : Nat => !(A.getD i false) || (decide ((5 : Int) = 5) && (decide ((i : Int) = pv) || !ahK l i pv))) = true := by
    rw [List.all_eq_true]
    intro i hi
    rw [List.mem_range, ha.1] at hi
    rw [ha.2 i hi]
    cases hA : jm B.act i
    ·rfl
    ·by_cases e : (i : Int) = pv
     ·rw [decide_eq_true e]; rfl
     ·rw [(hbest i hi hA).2 e]; simp
   rw [this]; rfl
  rw [wW, if_pos (hok1 _)]
  have e1 : ∀ no : Int, Y9 ⟨A, G, t⟩ ⟨t, 5, pv, no, at_⟩ = ⟨A, G, t + 1⟩ := fun _ => rfl
  rw [e1]
  have hdr := j3c h t pv ended hh
  cases ended
  ·refine ⟨A, rfl, ha.1, fun i hi => ?_⟩
   rw [hdr]; exact ha.2 i hi
  ·refine ⟨A.set pv.toNat false, ?_, by rw [List.length_set]; exact ha.1, fun i hi => ?_⟩
   ·simp only [if_true]
    have eo : VO l ⟨A, G, t + 1⟩ ⟨t, 7, pv, (jH B pv).no, t + 1 - (jH B pv).release⟩ = (decide (0 <= pv ∧ pv < l.length) && true) := rfl
    rw [wW, if_pos (by rw [eo, decide_eq_true (show 0 <= pv ∧ pv < l.length from ⟨hp, hlt⟩)]; rfl)]
    rfl
   ·rw [hdr, Vi (by rw [ha.1]; omega), if_pos rfl]
    by_cases e : pv.toNat = i
    ·rw [if_pos e, decide_eq_true (by omega)]; simp
    ·rw [if_neg e, decide_eq_false (by omega), ha.2 i hi]; simp
 ·rw [if_neg hp, if_neg hp]
  have hno : ∀ i : Nat, i < l.length -> jm B.act i = false := fun i hi => by
   cases hA : jm B.act i
   ·rfl
   ·exact absurd (hbest i hi hA).1 hp
  refine ⟨A, ?_, ha⟩
  rw [wW, if_pos]
  ·rfl
  ·have eo : VO l ⟨A, G, t⟩ ⟨t, 6, -1, 0, 0⟩ = (decide ((-1 : Int) = -1) && (decide (t = t) && (List.range A.length).all fun i : Nat => !(A.getD i false) || (decide ((6 : Int) = 5) && (decide ((i : Int) = -1) || !ahK l i (-1))))) := rfl
   have : ((List.range A.length).all fun i : Nat => !(A.getD i false) || (decide ((6 : Int) = 5) && (decide ((i : Int) = -1) || !ahK l i (-1)))) = true := by
    rw [List.all_eq_true]
    intro i hi
    rw [List.mem_range, ha.1] at hi
    rw [ha.2 i hi, hno i hi]; rfl
   rw [eo, this, decide_eq_true rfl, decide_eq_true rfl]; rfl
/-! A tick, and all of them. -/
def yi (l : List Task) (LL : List (List Int)) (asks : List Due) (t : Int) : List Due := (vr l t).map (fun i : Nat => (⟨t, i⟩ : Due)) ++ (qa (rpQ l LL t) (jY asks t)).map fun i => (⟨t, i⟩ : Due)
theorem j2F {l : List Task} (hok : okK l = true) (asks : List Due) (dm : List (List Int)) {t : Nat} (ht : t <= 100000) {A : List Bool} {G : List Due} (ha : QE l A (qP l asks dm t).B) :
  ∃ es A', (qP l asks dm (t + 1)).es = (qP l asks dm t).es ++ es ∧ xn l ⟨A, G, t⟩ es = some ⟨A', G ++ yi l (qP l asks dm t).LL asks t, (t : Int) + 1⟩ ∧ QE l A' (qP l asks dm (t + 1)).B := by
 have h8 : l.length <= 8 := by rw [okK, Bool.and_eq_true, decide_eq_true_eq] at hok; omega
 have hI := ym h8 asks dm t ht
 rw [xM]
 generalize qP l asks dm t = p at *
 obtain ⟨B, LL, es0⟩ := p
 obtain ⟨hri, hjr, _⟩ := hI
 simp only at hri hjr ha ⊢
 have hg := hri.good.late t (jV B.act) (jV B.act).length
 have hbg := (hri.begin_ ⟨by omega, by omega⟩ hjr (jY asks t)).1.good
 have e1 : qQ B t = ((qQ B t).1, (qQ B t).2) := rfl
 have ha1 : QE l A (qQ B t).1 := ⟨ha.1, fun i hi => by rw [show (qQ B t).1.act = B.act from hg.2.1]; exact ha.2 i hi⟩
 have hlr : xn l ⟨A, G, t⟩ (qQ B t).2 = some ⟨A, G, t⟩ := Yh (B := (qQ B t).1) hg.1 _ fun i hi => by
  rw [show (qQ B t).1.act = B.act from hg.2.1]; exact j2w B t i hi
 obtain ⟨es1, A1, k1, k2, k3⟩ := Vl (by omega) (n := t) (t := t) (vr l t) (qQ B t).1 A G (qQ B t).2 Xd ha1
 obtain ⟨es2, A2, k4, k5, k6⟩ := VS hok (by omega) (n := t) (t := t) (jY asks t) ((vr l t).foldl (rT l t) ((qQ B t).1, (qQ B t).2)).1 LL A1 (G ++ (vr l t).map (fun i : Nat => (⟨(t : Int), i⟩ : Due))) ((vr l t).foldl (rT l t) ((qQ B t).1, (qQ B t).2)).2 hri.len k3
 have eB : qU l B LL t (jY asks t) = (jY asks t).foldl (qg l t) ⟨((vr l t).foldl (rT l t) ((qQ B t).1, (qQ B t).2)).1, LL, ((vr l t).foldl (rT l t) ((qQ B t).1, (qQ B t).2)).2⟩ := by
  unfold qU
  simp only
  rw [xB l hok t ⟨by omega, by omega⟩]
 rw [<- eB] at k4 k6
 obtain ⟨A3, k7, k8⟩ := j4E hbg (G := G ++ yi l LL asks t) (t := t) k6 (XQ l (qU l B LL t (jY asks t)).B) (wz l dm (qU l B LL t (jY asks t)).B)
 refine ⟨(qQ B t).2 ++ es1 ++ es2 ++ zB l (qU l B LL t (jY asks t)).B t (XQ l (qU l B LL t (jY asks t)).B) (wz l dm (qU l B LL t (jY asks t)).B), A3, ?_, ?_, k8⟩
 ·unfold QA
  simp only
  rw [k4, k1]; simp
 ·have r1 : xn l ⟨A, G, t⟩ ((qQ B t).2 ++ es1) = some ⟨A1, G ++ (vr l t).map (fun i : Nat => (⟨(t : Int), i⟩ : Due)), t⟩ := by rw [yr l _ _ _ _ hlr]; exact k2
  have r2 : xn l ⟨A, G, t⟩ ((qQ B t).2 ++ es1 ++ es2) = some ⟨A2, G ++ yi l LL asks t, t⟩ := by
   rw [yr l _ _ _ _ r1, k5]; unfold yi; rw [List.append_assoc]
  rw [yr l _ _ _ _ r2]
  exact k7
def vl (l : List Task) (asks : List Due) (dm : List (List Int)) (T : Nat) : List Due := (List.range T).flatMap fun t : Nat => yi l (qP l asks dm t).LL asks t
theorem j0J {l : List Task} (hok : okK l = true) (asks : List Due) (dm : List (List Int)) : ∀ T : Nat, T <= 100000 ->
  ∃ A', xn l ⟨List.replicate l.length false, [], 0⟩ (qP l asks dm T).es = some ⟨A', vl l asks dm T, T⟩ ∧ QE l A' (qP l asks dm T).B
 | 0, _ => ⟨_, rfl, List.length_replicate, fun i hi => (by
   rw [List.getD_eq_getElem?_getD, List.getElem?_replicate, if_pos hi]
   show false = jm 0 i
   unfold jm; simp)⟩
 | T + 1, hT => by
  obtain ⟨A, h1, h2⟩ := j0J hok asks dm T (by omega)
  obtain ⟨es, A', k1, k2, k3⟩ := j2F hok asks dm (t := T) (by omega) (G := vl l asks dm T) h2
  refine ⟨A', ?_, k3⟩
  rw [k1, yr l _ _ _ _ h1, k2]
  unfold vl
  rw [List.range_succ, List.flatMap_append]
  simp
end Go.Proofs.YtfjoaeghnfkdlaaGreatDoor
