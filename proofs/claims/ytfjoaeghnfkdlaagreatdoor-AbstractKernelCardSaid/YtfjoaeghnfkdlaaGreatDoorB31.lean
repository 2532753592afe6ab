/- The kernel's run is the plan of its releases: plain. No condition. -/
import Derived.Test.YtfjoaeghnfkdlaaGreatDoorB28
import Derived.Test.YtfjoaeghnfkdlaaGreatDoorB30
import Derived.Shelf.SlIterI.Sorted
import Derived.Shelf.SortM.Plain
import Derived.Shelf.SortM.SortNone
import Derived.Test.YtfjoaeghnfkdlaaGreatDoorB16
import Derived.Shelf.SlLaysZI
import Derived.Shelf.SlLaysM
import Derived.Test.YtfjoaeghnfkdlaaGreatDoorProg
import Derived.Test.YtfjoaeghnfkdlaaGreatDoorB29
import Derived.Test.YtfjoaeghnfkdlaaGreatDoorB9
import Derived.Test.YtfjoaeghnfkdlaaGreatDoorB25
import Derived.Test.YtfjoaeghnfkdlaaGreatDoorB13
import Derived.Test.YtfjoaeghnfkdlaaGreatDoorB17
set_option linter.unusedSimpArgs false
set_option linter.unusedVariables false
set_option maxHeartbeats 1000000
set_option maxRecDepth 100000
namespace Go.Proofs.YtfjoaeghnfkdlaaGreatDoor
open Go.RowKit
theorem j0l {α β : Type} (f : α -> β) {D E : List β} (h : D.Perm E) : ∀ {A : List α}, E = A.map f -> ∃ A' : List α, A'.Perm A ∧ A'.map f = D := by
 induction h with
 | nil => intro A e; exact ⟨[], by rw [List.map_eq_nil_iff.1 e.symm], rfl⟩
 | cons x h ih =>
  intro A e
  cases A with
  | nil => cases e
  | cons a A =>
   rw [List.map_cons, List.cons.injEq] at e
   obtain ⟨A', h1, h2⟩ := ih e.2
   exact ⟨a :: A', h1.cons a, by rw [List.map_cons, h2, e.1]⟩
 | swap x y l =>
  intro A e
  match A, e with
  | a :: b :: A, e =>
   simp only [List.map_cons, List.cons.injEq] at e
   exact ⟨b :: a :: A, List.Perm.swap a b A, by simp only [List.map_cons, e.1, e.2.1, e.2.2]⟩
 | trans h1 h2 ih1 ih2 =>
  intro A e
  obtain ⟨A2, p1, p2⟩ := ih2 e
  obtain ⟨A1, q1, q2⟩ := ih1 p2.symm
  exact ⟨A1, q1.trans p1, q2⟩
theorem j2y (js : List Job) (p : Nat) : (js.set p (vZ (js.getD p default))).map vG = js.map vG := by
 by_cases hp : p < js.length
 ·rw [Ju hp]
  conv => rhs; rw [Qm hp]
  rw [List.map_append, List.map_cons, List.map_append, List.map_cons]
  rfl
 ·rw [List.set_eq_of_length_le (by omega)]
theorem Vt (B : Bk) (t : Int) (ks : List Int) : ∀ k, (jN B t ks k).2.all.map vG = B.all.map vG ∧ (jN B t ks k).2.overs = B.overs
 | 0 => ⟨rfl, rfl⟩
 | k + 1 => by
  have ih := Vt B t ks k
  have hlb : jN B t ks (k + 1) = if wh t (jH (jN B t ks k).2 (ks.getD k default)) then ((jN B t ks k).1 ++ [ks.getD k default], yz (jN B t ks k).2 (ks.getD k default) (vZ (jH (jN B t ks k).2 (ks.getD k default)))) else jN B t ks k := rfl
  rw [hlb]
  split
  ·refine ⟨Eq.trans ?_ ih.1, ih.2⟩
   exact j2y _ _
  ·exact ih
theorem BL.late {l : List Task} {n : Nat} {id : Nat -> Int} {B : Bk} {Q : Nat -> QS} {JL : List (Nat × Job)} {OL : List (Nat × Due)} (h : BL l n id B Q JL OL) (t : Int) (ks : List Int) (k : Nat) : BL l n id (jN B t ks k).2 Q JL OL := by
 obtain ⟨h1, h2⟩ := Vt B t ks k
 exact { h with good := (h.good.late t ks k).1, all := h1.trans h.all, ovs := h2.trans h.ovs }
/-! What a tick does to the book. -/
theorem j34 (l : List Task) (t : Int) : ∀ (D : List Nat) (p : Bk × List Event), (D.foldl (rT l t) p).1 = (D.map fun i : Nat => (⟨t, i⟩ : Due)).foldl (fun B d => jv l B d.task t) p.1
 | [], _ => rfl
 | i :: D, p => by rw [List.foldl_cons, j34 l t D, List.map_cons, List.foldl_cons]; rfl
theorem j3G {l : List Task} (hok : okK l = true) {t : Int} : ∀ (D : List Int) (q : Rk), q.LL.length = l.length -> (D.foldl (qg l t) q).B = ((qa (rpQ l q.LL t) D).map fun i => (⟨t, i⟩ : Due)).foldl (fun B d => jv l B d.task t) q.B
 | [], _, _ => rfl
 | i :: D, q, hL => by
  obtain ⟨B, LL, es⟩ := q
  simp only at hL
  rw [List.foldl_cons]
  simp only
  cases hq : rpQ l LL t i
  ·have e2 : qg l t ⟨B, LL, es⟩ i = ⟨B, LL, es ++ [⟨t, 2, i, 0, 0⟩]⟩ := by unfold qg; rw [if_neg (by simp only [hq]; decide)]
   rw [e2, j3G hok D _ hL, VN hq]
  ·have e2 : qg l t ⟨B, LL, es⟩ i = ⟨jv l B i t, LL.set i.toNat (LL.getD i.toNat [] ++ [t]), es ++ [wG l B t i]⟩ := by unfold qg; rw [if_pos hq]
   rw [e2, j3G hok D _ (by simp only [List.length_set]; exact hL), Jw hq, List.map_cons, List.foldl_cons]
   simp only
   rw [wE D (q := rpQ l (LL.set i.toNat (LL.getD i.toNat [] ++ [t])) t) (q' := fun j => rpQ l LL t j && !decide (j = i)) fun j _ => Qb hok hL hq j]
theorem j5o {l : List Task} (hok : okK l = true) (B : Bk) (LL : List (List Int)) (hL : LL.length = l.length) (asks : List Due) {t : Int} (ht : 0 <= t ∧ t <= 1000000) :
  (qU l B LL t (jY asks t)).B = (yi l LL asks t).foldl (fun B d => jv l B d.task t) (qQ B t).1 := by
 unfold qU
 simp only
 rw [j3G hok _ _ hL]
 simp only
 rw [xB l hok t ht, j34, yi, List.foldl_append]
theorem XC {l : List Task} (B : Bk) : je l B l.length = pkA (vW (jE l)) B l.length := by
 have h1 : je l B l.length = pkA (ahK l) B l.length := rfl
 rw [h1]
 exact (Vx (fun a b ha ha2 hb hb2 => by
  rw [ahK, decide_eq_true (by omega), Bool.true_and]; rfl) l.length (Nat.le_refl _)).1
theorem j4e (dm : List (List Int)) (i no : Int) : wv dm i no = ji dm i no := rfl
theorem j2t {l : List Task} {n : Nat} {B : Bk} (h : GoodB l n B) (dm : List (List Int)) (t : Nat) : zJ l B t (wz l dm B) = j2Q (vW (jE l)) l dm t B := by
 have hpk := yM (l := l) (B := B) l.length
 unfold zJ wz XQ j2Q
 rw [<- XC]
 generalize je l B l.length = pv at *
 simp only
 by_cases hp : 0 <= pv
 ·have hh := (hpk hp).1
  rw [if_pos hp, if_pos hp, if_neg (show ¬ pv < 0 by omega), decide_eq_true hp, Bool.true_and, V0 h hh]
  have e1 : (qn t (jH B pv)).no = (jH B pv).no := rfl
  have e2 : (qn t (jH B pv)).steps = (jH B pv).steps + 1 := rfl
  rw [e1, e2, j4e]
  unfold x9
  by_cases hc : ji dm pv (jH B pv).no <= (jH B pv).steps + 1
  ·rw [if_pos (decide_eq_true hc), if_pos hc]
  ·rw [if_neg (by rw [decide_eq_false hc]; decide), if_neg hc]
 ·rw [if_neg hp, if_pos (show pv < 0 by omega)]
/-! What is told of it. -/
def tkE (es : List Event) : List Int := (es.filter fun e => decide (e.kind = 5 ∨ e.kind = 6)).map Event.task
def msE (es : List Event) : List Due := (es.filter fun e => decide (e.kind = 4)).map fun e => (⟨e.t, e.task⟩ : Due)
theorem J7 (a b : List Event) : tkE (a ++ b) = tkE a ++ tkE b := by unfold tkE; rw [List.filter_append, List.map_append]
theorem JK (a b : List Event) : msE (a ++ b) = msE a ++ msE b := by unfold msE; rw [List.filter_append, List.map_append]
theorem XZ {es : List Event} (h : ∀ e ∈ es, 1 <= e.kind ∧ e.kind <= 3) : tkE es = [] ∧ msE es = [] := by
 unfold tkE msE
 rw [List.map_eq_nil_iff, List.map_eq_nil_iff, List.filter_eq_nil_iff, List.filter_eq_nil_iff]
 exact ⟨fun e he => by have := h e he; rw [decide_eq_true_eq]; omega, fun e he => by have := h e he; rw [decide_eq_true_eq]; omega⟩
theorem Vo (l : List Task) (t : Int) : ∀ (D : List Nat) (p : Bk × List Event), ∃ es, (D.foldl (rT l t) p).2 = p.2 ++ es ∧ ∀ e ∈ es, 1 <= e.kind ∧ e.kind <= 3
 | [], p => ⟨[], by simp, fun e he => by cases he⟩
 | i :: D, p => by
  obtain ⟨es, h1, h2⟩ := Vo l t D (rT l t p i)
  rw [List.foldl_cons, h1]
  refine ⟨wG l p.1 t i :: es, by unfold rT; simp, fun e he => ?_⟩
  rcases List.mem_cons.1 he with rfl | he
  ·have := (Qz l p.1 t i).2.2; omega
  ·exact h2 e he
theorem Y0 (l : List Task) (t : Int) : ∀ (D : List Int) (q : Rk), ∃ es, (D.foldl (qg l t) q).es = q.es ++ es ∧ ∀ e ∈ es, 1 <= e.kind ∧ e.kind <= 3
 | [], p => ⟨[], by simp, fun e he => by cases he⟩
 | i :: D, q => by
  obtain ⟨es, h1, h2⟩ := Y0 l t D (qg l t q i)
  rw [List.foldl_cons, h1]
  unfold qg
  split
  ·refine ⟨wG l q.B t i :: es, by simp, fun e he => ?_⟩
   rcases List.mem_cons.1 he with rfl | he
   ·have := (Qz l q.B t i).2.2; omega
   ·exact h2 e he
  ·refine ⟨⟨t, 2, i, 0, 0⟩ :: es, by simp, fun e he => ?_⟩
   rcases List.mem_cons.1 he with rfl | he
   ·simp only; omega
   ·exact h2 e he
theorem j4l (B : Bk) (t : Int) (D : List Int) : tkE (D.map (x4 B t)) = [] ∧ msE (D.map (x4 B t)) = D.map fun i => (⟨t, i⟩ : Due) := by
 induction D with
 | nil => exact ⟨rfl, rfl⟩
 | cons i D ih =>
  obtain ⟨h1, h2⟩ := ih
  constructor
  ·unfold tkE at h1 ⊢
   rw [List.map_cons, List.filter_cons, if_neg (by unfold x4; simp), h1]
  ·unfold msE at h2 ⊢
   rw [List.map_cons, List.filter_cons, if_pos (by unfold x4; simp), List.map_cons, h2, List.map_cons]
   rfl
theorem X3 {l : List Task} {B : Bk} : ∀ k, je l B k < 0 -> je l B k = -1
 | 0, _ => rfl
 | k + 1, h => by
  rw [zq] at h ⊢
  split
  ·rename_i hc; rw [if_pos hc] at h; omega
  ·rename_i hc; rw [if_neg hc] at h; exact X3 k h
theorem j4o (l : List Task) (B : Bk) (t a : Int) (e : Bool) : tkE (zB l B t a e) = [je l B l.length] ∧ msE (zB l B t a e) = [] := by
 have hn := X3 (l := l) (B := B) l.length
 unfold zB
 generalize je l B l.length = pv at *
 split
 ·cases e <;> exact ⟨rfl, rfl⟩
 ·rw [hn (by omega)]; exact ⟨rfl, rfl⟩
theorem j4V {l : List Task} (hok : okK l = true) (asks : List Due) (dm : List (List Int)) {t : Nat} (ht : t <= 100000) :
  tkE (qP l asks dm (t + 1)).es = tkE (qP l asks dm t).es ++ [je l (qU l (qP l asks dm t).B (qP l asks dm t).LL t (jY asks t)).B l.length] ∧
  msE (qP l asks dm (t + 1)).es = msE (qP l asks dm t).es ++ (jN (qP l asks dm t).B t (jV (qP l asks dm t).B.act) (jV (qP l asks dm t).B.act).length).1.map fun i => (⟨t, i⟩ : Due) := by
 rw [xM]
 generalize qP l asks dm t = p at *
 obtain ⟨B, LL, es0⟩ := p
 unfold QA
 simp only
 obtain ⟨r1, r2⟩ := j4o l (qU l B LL t (jY asks t)).B t (XQ l (qU l B LL t (jY asks t)).B) (wz l dm (qU l B LL t (jY asks t)).B)
 obtain ⟨es1, k1, k2⟩ := Vo l t (vr l t) (qQ B t)
 obtain ⟨es2, k3, k4⟩ := Y0 l t (jY asks t) ⟨((vr l t).foldl (rT l t) (qQ B t)).1, LL, ((vr l t).foldl (rT l t) (qQ B t)).2⟩
 have eB : (qU l B LL t (jY asks t)).es = (qQ B t).2 ++ es1 ++ es2 := by
  unfold qU
  simp only
  rw [xB l hok t ⟨by omega, by omega⟩, k3]
  simp only
  rw [k1]
 rw [eB, J7, J7, J7, J7, r1, JK, JK, JK, JK, r2, (XZ k2).1, (XZ k2).2, (XZ k4).1, (XZ k4).2]
 obtain ⟨l1, l2⟩ := j4l (qQ B t).1 t (jN B t (jV B.act) (jV B.act).length).1
 have e1 : (qQ B t).2 = (jN B t (jV B.act) (jV B.act).length).1.map (x4 (qQ B t).1 t) := rfl
 rw [e1, l1, l2]
 simp
/-! What was let through, tick by tick. -/
theorem Ja {l : List Task} {LL : List (List Int)} {asks : List Due} {t : Int} {d : Due} (h : d ∈ yi l LL asks t) : d.at_ = t ∧ 0 <= d.task ∧ d.task < l.length := by
 unfold yi at h
 rcases List.mem_append.1 h with h | h
 ·obtain ⟨i, hi, rfl⟩ := List.mem_map.1 h
  have := Xd i hi
  exact ⟨rfl, by simp only; omega, by simp only; omega⟩
 ·obtain ⟨i, hi, rfl⟩ := List.mem_map.1 h
  have := zV ((vh _).1 hi).2
  exact ⟨rfl, this.1, this.2⟩
theorem Zi {l : List Task} (LL : List (List Int)) (asks : List Due) (t : Int) : (yi l LL asks t).Nodup := by
 unfold yi
 unfold List.Nodup
 rw [List.pairwise_append]
 refine ⟨?_, ?_, fun a ha b hb e => ?_⟩
 ·rw [List.pairwise_map]
  have : (vr l t).Nodup := (Qt l).filter _
  exact List.Pairwise.imp (fun h e => h (by have := congrArg Due.task e; simp only at this; omega)) this
 ·rw [List.pairwise_map]
  exact List.Pairwise.imp (fun h e => h (congrArg Due.task e)) (wn _)
 ·subst e
  obtain ⟨i, hi, rfl⟩ := List.mem_map.1 ha
  obtain ⟨j, hj, e⟩ := List.mem_map.1 hb
  have e : j = (i : Int) := congrArg Due.task e
  subst e
  have h1 := (vh _).1 hj
  have h2 := h1.2
  unfold rpQ at h2
  rw [Bool.and_eq_true, Bool.and_eq_true, decide_eq_true_eq, decide_eq_true_eq] at h2
  have h3 := h2.1.2
  unfold vr xu at hi
  have h4 := (List.mem_filter.1 (List.mem_filter.1 hi).1).2
  rw [decide_eq_true_eq] at h4
  simp only [Int.toNat_natCast] at h3
  omega
theorem Q4 (l : List Task) (asks : List Due) (dm : List (List Int)) (T : Nat) : vl l asks dm (T + 1) = vl l asks dm T ++ yi l (qP l asks dm T).LL asks T := by
 unfold vl
 rw [List.range_succ, List.flatMap_append]
 simp
theorem y9 {l : List Task} {asks : List Due} {dm : List (List Int)} : ∀ {T : Nat} {d : Due}, d ∈ vl l asks dm T -> (0 <= d.at_ ∧ d.at_ < T) ∧ 0 <= d.task ∧ d.task < l.length
 | 0, d, h => by cases h
 | T + 1, d, h => by
  rw [Q4] at h
  rcases List.mem_append.1 h with h | h
  ·have := y9 h; omega
  ·have := Ja h; omega
theorem X9 {l : List Task} {asks : List Due} {dm : List (List Int)} {t : Nat} : ∀ {T : Nat}, t < T -> (vl l asks dm T).filter (fun d => decide (d.at_ = (t : Int))) = yi l (qP l asks dm t).LL asks t
 | 0, h => by omega
 | T + 1, h => by
  rw [Q4, List.filter_append]
  by_cases e : t = T
  ·subst e
   have h1 : (vl l asks dm t).filter (fun d => decide (d.at_ = (t : Int))) = [] := List.filter_eq_nil_iff.2 fun d hd => by
    have := y9 hd; rw [decide_eq_true_eq]; omega
   rw [h1, List.nil_append, List.filter_eq_self]
   intro d hd
   exact decide_eq_true (Ja hd).1
  ·have h1 : (yi l (qP l asks dm T).LL asks T).filter (fun d => decide (d.at_ = (t : Int))) = [] := List.filter_eq_nil_iff.2 fun d hd => by
    have := Ja hd; rw [decide_eq_true_eq]; omega
   rw [h1, List.append_nil]
   exact X9 (by omega)
theorem j5h {α : Type} {a : α} : ∀ {xs : List α}, xs.Nodup -> (∀ x ∈ xs, x = a) -> xs.length <= 1
 | [], _, _ => Nat.zero_le _
 | [x], _, _ => Nat.le_refl _
 | x :: y :: r, hn, h => by
  rw [List.nodup_cons] at hn
  exact absurd (show x ∈ y :: r by rw [h x List.mem_cons_self, <- h y (by simp)]; exact List.mem_cons_self) hn.1
theorem j3C {α : Type} {xs ys : List α} (h : xs.Perm ys) (h1 : xs.length <= 1) : xs = ys := by
 have hl := h.length_eq
 match xs, ys, hl with
 | [], [], _ => rfl
 | [x], [y], _ =>
  have := h.mem_iff (a := x)
  simp at this
  rw [this]
 | x :: y :: r, _, _ => simp at h1
theorem MI.rels {l : List Task} (hok : okK l = true) {t : Int} (ht : 0 <= t ∧ t <= 1000000) {ms : List Due} : ∀ (L : List Due) (B : Bk), MI (t + 1) t B.all ms -> MI (t + 1) t (L.foldl (fun B d => jv l B d.task t) B).all ms
 | [], _, h => h
 | d :: L, B, h => by
  rw [List.foldl_cons]
  refine MI.rels hok ht L _ (h.rel (by omega) d.task fun h0 h1 => ?_)
  have hm : l.getD d.task.toNat default ∈ l := qN (by omega)
  rw [okK, Bool.and_eq_true] at hok
  have hp := qL (List.all_eq_true.1 hok.2 _ hm)
  unfold Vc inT
  omega
theorem X4 {l : List Task} (hok : okK l = true) (asks : List Due) (dm : List (List Int)) {T : Nat} (hT : T <= 100000) {S : List Due} (hS : S.Pairwise leD) (hp : S.Perm (vl l asks dm T)) : ∀ t : Nat, t <= T ->
  tkE (qP l asks dm t).es = plT l dm S (rkL (jE l) l.length) t l.length ∧ MI t t (qP l asks dm t).B.all (msE (qP l asks dm t).es) ∧
  ∃ n JL OL, BL l n (fun r => jF (rkL (jE l) l.length) r 0) (qP l asks dm t).B (fun r => qR l dm S (rkL (jE l) l.length) t r) JL OL
 | 0, _ => by
  have h8 : l.length <= 8 := by rw [okK, Bool.and_eq_true, decide_eq_true_eq] at hok; omega
  obtain ⟨h1, JL, OL, h2, _⟩ := zy (dm := dm) (S := S) (by omega) (rkL (jE l) l.length) (rki l) hS (fun d hd => by have := y9 (hp.mem_iff.1 hd); omega) 0 (by omega)
  refine ⟨h1, ⟨fun q hq => (by cases hq), fun q hq => (by cases hq), List.Perm.refl _, List.Pairwise.nil, fun d hd => (by cases hd)⟩, _, JL, OL, h2⟩
 | t + 1, ht => by
  have h8 : l.length <= 8 := by rw [okK, Bool.and_eq_true, decide_eq_true_eq] at hok; omega
  obtain ⟨ih1, ih2, n, JL, OL, ih3⟩ := X4 hok asks dm hT hS hp t (by omega)
  obtain ⟨v1, v2⟩ := j4V hok asks dm (t := t) (by omega)
  have hin : inT (t : Int) = t := by unfold inT; omega
  have hI := ym h8 asks dm t (by omega)
  have h0 : ∀ d ∈ S, 0 <= d.at_ ∧ 0 <= d.task ∧ d.task < l.length := fun d hd => by have := y9 (hp.mem_iff.1 hd); omega
  have hat : ((yh S t).map Prod.snd).Perm (yi l (qP l asks dm t).LL asks t) := by
   rw [j2n, <- X9 (asks := asks) (dm := dm) (T := T) (by omega)]
   exact hp.filter _
  have hpl := fun r => Ve (l := l) (dm := dm) hS (fun d hd => (h0 d hd).1) (rkL (jE l) l.length) t r
  have hnx := xM l asks dm t
  rw [v1, v2, hnx]
  generalize qP l asks dm t = p at *
  obtain ⟨B, LL, es0⟩ := p
  obtain ⟨hri, hjr, _⟩ := hI
  unfold QA
  simp only at ih1 ih2 ih3 hri hat ⊢
  have hbB := j5o hok B LL hri.len asks (t := t) ⟨by omega, by omega⟩
  have hM1 := ih2.late hri.good hin
  have hB1 := ih3.late t (jV B.act) (jV B.act).length
  have eL : (qQ B t).1 = (jN B t (jV B.act) (jV B.act).length).2 := rfl
  rw [<- eL] at hM1 hB1
  have hM2 := MI.rels hok (t := t) ⟨by omega, by omega⟩ (yi l LL asks t) _ hM1
  obtain ⟨L, hL1, hL2⟩ := j0l Prod.snd hat.symm rfl
  have hLm : ∀ p ∈ L, p.2.at_ = t ∧ 0 <= p.2.task ∧ p.2.task < l.length := fun p hpL => Ja (by rw [<- hL2]; exact List.mem_map_of_mem hpL)
  obtain ⟨JL1, OL1, g1, _⟩ := BL.rels (rki l) hin L hB1 hLm
  rw [Q7 (fun B d => jv l B d.task t), hL2, <- hbB] at g1
  rw [<- hbB] at hM2
  have g2 : BL l (n + L.length) (fun r => jF (rkL (jE l) l.length) r 0) (qU l B LL t (jY asks t)).B (fun r => pR l dm S (rkL (jE l) l.length) t r) JL1 OL1 := g1.congr fun r hr => by
   have e1 : (L.filter fun p => decide (p.2.task = jF (rkL (jE l) l.length) r 0)) = (yh S t).filter fun p => decide (p.2.task = jF (rkL (jE l) l.length) r 0) := by
    refine j3C (hL1.filter _) ?_
    have h1 : ((L.filter fun p => decide (p.2.task = jF (rkL (jE l) l.length) r 0)).map Prod.snd).Nodup := by
     have : (L.map Prod.snd).Nodup := by rw [hL2]; exact Zi _ _ _
     exact List.Pairwise.sublist (List.Sublist.map _ List.filter_sublist) this
    have h2 := j5h (a := (⟨t, jF (rkL (jE l) l.length) r 0⟩ : Due)) h1 fun d hd => by
     obtain ⟨p, hpf, rfl⟩ := List.mem_map.1 hd
     obtain ⟨hpL, hpt⟩ := List.mem_filter.1 hpf
     have := (hLm p hpL).1
     rw [decide_eq_true_eq] at hpt
     obtain ⟨k, ⟨a, b⟩⟩ := p
     simp only at this hpt
     rw [this, hpt]
    rwa [List.length_map] at h2
   have : ((yh S t).filter fun p => decide (p.2.task = jF (rkL (jE l) l.length) r 0)).foldl (rS l (jF (rkL (jE l) l.length) r 0)) (qR l dm S (rkL (jE l) l.length) t r) = pR l dm S (rkL (jE l) l.length) t r := by
    rw [Yi]; rfl
   simp only [e1, this]
   exact ⟨trivial, trivial, trivial, trivial, trivial⟩
  obtain ⟨d1, JL2, d2, d3⟩ := g2.day (rki l) dm hin (fun r hr k j hc => by
   have hq := (QI.foldR (l := l) (Yv (jF (rkL (jE l) l.length) r 0) S t) (hpl r).2.2.1).busy k j hc
   exact hq.2.2.1)
  have hx : ∀ r, yR (fun r => jF (rkL (jE l) l.length) r 0) (fun r => (pR l dm S (rkL (jE l) l.length) t r).cur.isSome) r = xR l dm S (rkL (jE l) l.length) t r := fun r => (j25 l dm S (rkL (jE l) l.length) t r).symm
  rw [XC, ih1, d1, hx]
  have hgb := g2.good
  refine ⟨((hpl l.length).2.1).symm, ?_, n + L.length + 2, JL2, OL1, ?_⟩
  ·have e1 : ((t + 1 : Nat) : Int) = (t : Int) + 1 := by push_cast; rfl
   rw [e1]
   unfold zJ
   split
   ·unfold x9
    split
    ·exact (hM2.step _ _).fin (hgb.step _ _) hin _
    ·exact (hM2.step _ _).up (by omega)
   ·exact hM2.up (by omega)
  ·rw [j2t hgb]
   exact d2.congr fun r hr => by
    have : qX dm (jF (rkL (jE l) l.length) r 0) t (yR (fun r => jF (rkL (jE l) l.length) r 0) (fun r => (pR l dm S (rkL (jE l) l.length) t r).cur.isSome) r) (pR l dm S (rkL (jE l) l.length) t r) = qR l dm S (rkL (jE l) l.length) (t + 1) r := by
     rw [hx, (hpl r).2.2.2]
    simp only [this]
    exact ⟨trivial, trivial, trivial, trivial, trivial⟩
end Go.Proofs.YtfjoaeghnfkdlaaGreatDoor
namespace Go.Proofs.YtfjoaeghnfkdlaaGreatDoor
open Go.RowKit Go.Shelf Go.MapKept Go.Maps
def xp (l : List Int) : List Int := l.mergeSort fun x y => decide (x <= y)
theorem zM (l : List Int) : (xp l).Perm l := List.mergeSort_perm l _
theorem j2x {x : Int} (h : jS .i64 x) : (Lit.int .i64 x).wf = true := by
 obtain ⟨h1, h2⟩ := h
 simp only [Lit.wf, Bool.and_eq_true, decide_eq_true_eq]
 exact ⟨h1, h2⟩
theorem j3z {α : Type} {P : Program} {k : TypeId} (hk : P.underlying k = some (.int .i64)) {f : α -> AV} {m : List (Int × α)} {σ : Sig} {w : World} {b : Nat} {es : Array MapEntry} {clock : Nat} (hb : w.heap[b]? = some (.map es clock))
  (hE : ME σ f es.toList m) (hst : Stamped es clock) (hrg : ∀ p ∈ m, jS .i64 p.1) (hlen : m.length <= 1000000) :
  ∃ D0 : DataW Unit, w.ownsMap P k (fun _ => some (.nil, [])) b es.size D0 ∧ (intKeys D0).Perm (m.map Prod.fst) ∧ Maps.size D0 = m.length := by
 have hl : es.size = m.length := by rw [<- Array.length_toList]; exact hE.len
 have hrd : ∀ x ∈ es.toList, ∃ p ∈ m, x.key = .int .i64 p.1 ∧ WideElems.rd (H := Unit) P k (fun _ => some (.nil, [])) x = some (.int .i64 p.1, .nil) := fun x hx => by
  obtain ⟨p, hp, e⟩ := hE.key_of x hx
  refine ⟨p, hp, e, ?_⟩
  unfold WideElems.rd
  have : keyOf P k x.key = some (.int .i64 p.1) := by
   rw [e]
   simp [keyOf, hk, mapKey, j2x (hrg p hp)]
  rw [this]
  rfl
 refine ⟨_, ⟨es, clock, hb, ⟨by rw [hl]; unfold maxLen; omega, hst, fun x hx => ?_⟩, Nat.le_refl _, rfl⟩, ?_, ?_⟩
 ·obtain ⟨p, _, _, h⟩ := hrd x hx
  exact ⟨_, h⟩
 ·show (List.map _ _).Perm _
  refine ((Go.WideShapes.sorted_perm _).map _).trans ?_
  rw [List.map_map]
  have h1 : ∀ (l : List MapEntry) (m' : List (Int × α)), ME σ f l m' -> (∀ x ∈ l, x ∈ es.toList) -> l.map ((fun p : Lit × DataW Unit => Go.intOf p.1) ∘ WideElems.rg P k (fun _ => some (.nil, []))) = m'.map Prod.fst := by
   intro l
   induction l with
   | nil => intro m' h _; cases m' with | nil => rfl | cons _ _ => exact h.elim
   | cons x l ih =>
    intro m' h hx
    cases m' with
    | nil => exact h.elim
    | cons q m' =>
     obtain ⟨h1, h2, h3⟩ := h
     rw [List.map_cons, List.map_cons, ih m' h3 fun y hy => hx y (List.mem_cons_of_mem _ hy)]
     congr 1
     obtain ⟨p, _, e, hh⟩ := hrd x (hx x List.mem_cons_self)
     rw [Function.comp, WideElems.rg_of hh]
     rw [h1] at e
     show p.1 = q.1
     simpa using e.symm
  rw [h1 es.toList m hE fun _ h => h]
 ·show List.length _ = _
  rw [(Go.WideShapes.sorted_perm _).length_eq]
  simp [hl]
theorem j6e {α : Type} {P : Program} {ρ : Ren} (L : SlLaysZI.n7 P ρ) (he : qw P (ρ.f 7)) {f : α -> AV} {m : List (Int × α)} : FnH P (ρ.f 7) [.own 4] [(4, .sem (yU f m)), (5, .row (ρ.t 26) 1 (([] : List Int).map eI))]
  (fun r h' => r = .fn (.func (ρ.f 10)) [] [.ptr 5 0] ∧ h' = [(5, .blk (ρ.t 23) [.own 4]), (4, .sem (yU f m))]) := by
 refine ⟨he, fun may pin σ ι w vs hr hv => ?_⟩
 obtain ⟨u0, r0, rfl, h1, hv⟩ := L2.cons_inv hv
 rw [L2.nil_iff] at hv
 subst hv
 obtain ⟨b, es, clock, h2, h3, h4, h5, h6⟩ := hr.ch 4 _ rfl
 have e0 := h1.own_inv.trans h2
 subst e0
 refine Calls.mono (callsIn_wide.1 (AnyZI.keys_in L Fence.wide 5 trivial rfl (some b) w)) ?_
 rintro e w' ⟨rfl, rfl⟩
 have hcs : L2 (VR σ ι) [AV.own 4] [Value.map (some b)] := (L2.nil _).cons h1
 have hr := hr.le (h' := [(4, .sem (yU f m))]) (LeH.cons rfl (LeH.nil _))
 have hrel := hr.newBlk (id := 5) rfl (Nat.le_refl _) hcs rfl (ρ.t 23)
 refine ⟨_, .fn (.func (ρ.f 10)) [] [.ptr 5 0], _, σ, _, rfl, ⟨rfl, rfl⟩, ?_, hrel⟩
 have hp : L2 (VR σ (upd ι 5 (.pointer (some ⟨w.heap.size, 0, none⟩)))) [AV.ptr 5 0] [Value.pointer (some ⟨w.heap.size, 0, none⟩)] := (L2.nil _).cons (.ptr 5 0 w.heap.size (by rw [jM]; rfl))
 exact .fn _ [] [.ptr 5 0] [] [.pointer (some ⟨w.heap.size, 0, none⟩)] rfl (fun j c v h => by simp at h) hp.1 hp.2
theorem j4L {α : Type} {P : Program} {ρ5 ρ6 ρ7 : Ren} (L5 : SlLaysM.n5 P ρ5) (L6 : SlLaysZI.n6 P ρ6) (L7 : SlLaysZI.n7 P ρ7) (h59 : ρ5.f 5 = ρ6.f 9) (h26 : ρ7.t 26 = ρ6.t 26) (he : qw P (ρ6.f 6)) (he9 : qw P (ρ6.f 9)) (he10 : qw P (ρ7.f 10)) {f : α -> AV} {m : List (Int × α)} (hm : m.length <= 1000000) :
  FnH P (ρ6.f 6) [.fn (.func (ρ7.f 10)) [] [.ptr 5 0]] [(5, .blk (ρ7.t 23) [.own 4]), (4, .sem (yU f m)), (6, .row (ρ6.t 26) 1 (([] : List Int).map eI))]
   (fun r h' => r = .own 6 ∧ h' = [(6, .row (ρ6.t 26) 1 ((xp (m.map Prod.fst)).map eI)), (5, .blk (ρ7.t 23) [.own 4]), (4, .sem (yU f m))]) := by
 refine ⟨he, fun may pin σ ι w vs hr hv => ?_⟩
 obtain ⟨u0, r0, rfl, h1, hv⟩ := L2.cons_inv hv
 rw [L2.nil_iff] at hv
 subst hv
 obtain ⟨us, vs, rfl, g1, g2⟩ := h1.fn_inv
 rw [L2.nil_iff] at g1
 subst g1
 obtain ⟨u1, r1, rfl, g3, g2⟩ := L2.cons_inv g2
 rw [L2.nil_iff] at g2
 subst g2
 obtain ⟨g, g4, rfl⟩ := g3.ptr_inv
 obtain ⟨b, es, clock, h2, h3, h4, h5, h6⟩ := hr.ch 4 _ rfl
 obtain ⟨g', cur, k1, k2, k3⟩ := hr.ch 5 _ rfl
 have hgg : g = g' := by rw [k1] at g4; simpa [jC] using g4.symm
 subst hgg
 obtain ⟨c0, cr, hcur, k4, k5⟩ := L2.cons_inv k3
 rw [L2.nil_iff] at k5
 subst k5
 have e0 := k4.own_inv.trans h2
 subst e0
 have hcur : cur = #[.map (some b)] := by rw [<- Array.toArray_toList (xs := cur), hcur]
 subst hcur
 obtain ⟨D0, hown, hperm, hsz⟩ := j3z L7.t26 h3 h4 h5 h6 hm
 have hgl : g < w.heap.size := (Array.getElem?_eq_some_iff.1 k2).1
 have hseq : SeqGives Fence.wide 2 P (ρ7.f 10) #[.pointer (some ⟨g, 0, none⟩)] encZ (fun ss => ss.Perm (intKeys D0)) (Maps.size D0) w :=
  AnyZI.keys_gives (ρ := ρ7) { L7 with } Fence.wide _ trivial rfl (by omega) g b _ D0 w hgl (by simp [World.cell?, k2]) hown
 have hsort : AnyZI.SortsIn P ρ6 Fence.wide 4 :=
  ⟨fun blk off cap ss W hH hblk hz => callsIn_wide.2 (by rw [<- h59]; exact AnyM.slices_Sort_int L5 blk off cap ss W hH hblk hz),
   fun p cap W => callsIn_wide.2 (by rw [<- h59]; exact AnyM.slices_Sort_int_none L5 p cap W)⟩
 have cS := AnyZI.sorted_in L6 Fence.wide 5 trivial trivial trivial trivial rfl (by omega) hsort he9 (ρ7.f 10) #[.pointer (some ⟨g, 0, none⟩)] trivial he10 _ (Maps.size D0) (by rw [hsz]; unfold maxLen; omega) (by rw [hsz]; omega) w hseq
 refine Calls.mono (callsIn_wide.1 cS) ?_
 rintro e w' ⟨v, ss, rfl, hS, hrow, hnil, hB⟩
 have hk : ss.mergeSort (fun x y => decide (x <= y)) = xp (m.map Prod.fst) := mergeSort_of_perm_i (hS.trans hperm)
 rw [hk] at hrow
 have hlen : ss.length = (xp (m.map Prod.fst)).length := by rw [<- hk, List.length_mergeSort]
 have hrg : ∀ x ∈ xp (m.map Prod.fst), jS .i64 x := fun x hx => by
  obtain ⟨p, hp, rfl⟩ := List.mem_map.1 ((zM _).mem_iff.1 hx)
  exact h6 p hp
 have hfoot : ∀ g2, jC v = some g2 -> w.heap.size <= g2 := fun g2 hg2 => by
  rcases hrow.2 with ⟨rfl, _⟩ | ⟨g3, cap, cur, rfl, hb, _⟩
  ·cases hg2
  ·simp only [jC, Option.some.injEq] at hg2; omega
 have hone : v.oneCell' = true := by
  rcases hrow.2 with ⟨rfl, _⟩ | ⟨g3, cap, cur, rfl, hb, _⟩ <;> rfl
 have hrow0 : w'.ownsRow 0 (ρ6.t 26) 1 v ((xp (m.map Prod.fst)).map eI).length ((xp (m.map Prod.fst)).map encZ) := by
  rw [List.length_map, <- hlen]
  refine ⟨hrow.1, hrow.2.imp id ?_⟩
  rintro ⟨g3, cap, cur, r1, r2, r3⟩
  exact ⟨g3, cap, cur, r1, Nat.zero_le _, r3⟩
 have hvs : ∀ l : List Int, (∀ x ∈ l, jS .i64 x) -> L2 (VR0 σ) (l.map eI).flatten (l.map encZ) := by
  intro l
  induction l with
  | nil => intro _; exact L2.nil _
  | cons x l ih => intro h; exact (ih fun y hy => h y (List.mem_cons_of_mem _ hy)).cons (.int _ _ (h x List.mem_cons_self))
 obtain ⟨b1, b2, b3, b4, b5⟩ := hB
 have hr := hr.le (h' := [(5, .blk (ρ7.t 23) [.own 4]), (4, .sem (yU f m))]) (LeH.cons rfl (LeH.cons rfl (LeH.nil _)))
 have hrel := hr.turn (w' := w') (id := 6) (u := v) (h' := [(6, .row (ρ6.t 26) 1 ((xp (m.map Prod.fst)).map eI)), (5, .blk (ρ7.t 23) [.own 4]), (4, .sem (yU f m))]) (c' := .row (ρ6.t 26) 1 ((xp (m.map Prod.fst)).map eI))
  (fun i c hi hc => by
    rw [j7, if_neg (fun e => hi e.symm)] at hc
    refine ⟨hc, .inr ?_⟩
    rw [j7] at hc
    split at hc
    ·cases hc; rfl
    ·rw [j7] at hc
     split at hc
     ·cases hc; trivial
     ·cases hc) (by rw [j7, if_pos rfl])
  (by
    refine ⟨by omega, fun c hc => ?_, _, by rw [jM]; exact hrow0, hvs _ hrg⟩
    obtain ⟨x, _, rfl⟩ := List.mem_map.1 hc; rfl)
  b1 b2 b3 b4 (fun k hk _ => b5 k hk) (fun g2 hg2 => .inr (hfoot g2 hg2)) (.inl (by omega)) (by intro vs e; subst e; simp [Value.oneCell'] at hone)
 refine ⟨_, .own 6, _, σ, _, rfl, ⟨rfl, rfl⟩, ?_, hrel⟩
 have h9 := VR.own (σ := σ) (ι := upd ι 6 v) 6 (by rw [jM]; exact hone)
 rwa [jM] at h9
end Go.Proofs.YtfjoaeghnfkdlaaGreatDoor
namespace Go.Proofs.YtfjoaeghnfkdlaaGreatDoor
def j1r : Go.Shelf.Ren := ⟨fun | 5 => 121 | 8 => 117 | 7 => 143 | 19 => 140 | 20 => 141 | 10 => 152 | 11 => 153 | 12 => 154 | 13 => 155 | 14 => 156 | 15 => 157 | 16 => 158 | 17 => 159 | 18 => 160 | 30 => 165 | 31 => 147 | 32 => 148 | 33 => 166 | 34 => 167 | 35 => 118 | 40 => 169 | n => n, fun | 23 => 43 | 25 => 3 | 3 => 3 | 32 => 164 | 22 => 43 | 0 => 0 | 44 => 180 | 46 => 91 | 4 => 4 | 36 => 174 | 35 => 173 | 41 => 32 | 5 => 5 | 9 => 9 | 53 => 182 | 57 => 185 | 63 => 193 | 64 => 194 | n => n, fun | n => n⟩
theorem j76 : Go.Proofs.SlLaysM.n5 Tryz.prog j1r := {
 mixed := by kernel_rfl
 f5 := ⟨Tryz.f121.name, by decide, Tryz.func121.trans (congrArg some (by kernel_rfl))⟩
 f7 := ⟨Tryz.f143.name, by decide, Tryz.func143.trans (congrArg some (by kernel_rfl))⟩
 f8 := Tryz.func117.trans (congrArg some (by kernel_rfl))
 f10 := ⟨Tryz.f152.name, by decide, Tryz.func152.trans (congrArg some (by kernel_rfl))⟩
 f11 := ⟨Tryz.f153.name, by decide, Tryz.func153.trans (congrArg some (by kernel_rfl))⟩
 f12 := ⟨Tryz.f154.name, by decide, Tryz.func154.trans (congrArg some (by kernel_rfl))⟩
 f13 := ⟨Tryz.f155.name, by decide, Tryz.func155.trans (congrArg some (by kernel_rfl))⟩
 f14 := ⟨Tryz.f156.name, by decide, Tryz.func156.trans (congrArg some (by kernel_rfl))⟩
 f15 := ⟨Tryz.f157.name, by decide, Tryz.func157.trans (congrArg some (by kernel_rfl))⟩
 f16 := ⟨Tryz.f158.name, by decide, Tryz.func158.trans (congrArg some (by kernel_rfl))⟩
 f17 := ⟨Tryz.f159.name, by decide, Tryz.func159.trans (congrArg some (by kernel_rfl))⟩
 f18 := ⟨Tryz.f160.name, by decide, Tryz.func160.trans (congrArg some (by kernel_rfl))⟩
 f19 := Tryz.func140.trans (congrArg some (by kernel_rfl))
 f20 := Tryz.func141.trans (congrArg some (by kernel_rfl))
 f30 := ⟨Tryz.f165.name, by decide, Tryz.func165.trans (congrArg some (by kernel_rfl))⟩
 f31 := Tryz.func147.trans (congrArg some (by kernel_rfl))
 f32 := Tryz.func148.trans (congrArg some (by kernel_rfl))
 f33 := ⟨Tryz.f166.name, by decide, Tryz.func166.trans (congrArg some (by kernel_rfl))⟩
 f34 := ⟨Tryz.f167.name, by decide, Tryz.func167.trans (congrArg some (by kernel_rfl))⟩
 f35 := ⟨Tryz.f118.name, by decide, Tryz.func118.trans (congrArg some (by kernel_rfl))⟩
 f40 := ⟨Tryz.f169.name, by decide, Tryz.func169.trans (congrArg some (by kernel_rfl))⟩
 t0 := Tryz.underlying0
 a0 := Tryz.isAgg0
 z0 := Tryz.sizeOf0
 v0 := Tryz.zeroValue0
 t3 := Tryz.underlying3
 a3 := Tryz.isAgg3
 z3 := Tryz.sizeOf3
 v3 := Tryz.zeroValue3
 t4 := Tryz.underlying4
 a4 := Tryz.isAgg4
 z4 := Tryz.sizeOf4
 v4 := Tryz.zeroValue4
 t5 := Tryz.underlying5
 a5 := Tryz.isAgg5
 z5 := Tryz.sizeOf5
 v5 := Tryz.zeroValue5
 t9 := Tryz.underlying9
 a9 := Tryz.isAgg9
 z9 := Tryz.sizeOf9
 v9 := Tryz.zeroValue9
 t22 := Tryz.underlying43
 a22 := Tryz.isAgg43
 z22 := Tryz.sizeOf43
 v22 := Tryz.zeroValue43
 t23 := Tryz.underlying43
 a23 := Tryz.isAgg43
 z23 := Tryz.sizeOf43
 v23 := Tryz.zeroValue43
 t25 := Tryz.underlying3
 a25 := Tryz.isAgg3
 z25 := Tryz.sizeOf3
 v25 := Tryz.zeroValue3
 t32 := Tryz.underlying164
 a32 := Tryz.isAgg164
 z32 := Tryz.sizeOf164
 v32 := Tryz.zeroValue164
 t35 := Tryz.underlying173
 a35 := Tryz.isAgg173
 z35 := Tryz.sizeOf173
 v35 := Tryz.zeroValue173
 t36 := Tryz.underlying174
 a36 := Tryz.isAgg174
 z36 := Tryz.sizeOf174
 v36 := Tryz.zeroValue174
 t41 := Tryz.underlying32
 a41 := Tryz.isAgg32
 z41 := Tryz.sizeOf32
 v41 := Tryz.zeroValue32
 t44 := Tryz.underlying180
 a44 := Tryz.isAgg180
 z44 := Tryz.sizeOf180
 v44 := Tryz.zeroValue180
 t46 := Tryz.underlying91
 a46 := Tryz.isAgg91
 z46 := Tryz.sizeOf91
 v46 := Tryz.zeroValue91
 t53 := Tryz.underlying182
 a53 := Tryz.isAgg182
 z53 := Tryz.sizeOf182
 v53 := Tryz.zeroValue182
 t57 := Tryz.underlying185
 a57 := Tryz.isAgg185
 z57 := Tryz.sizeOf185
 v57 := Tryz.zeroValue185
 t63 := Tryz.underlying193
 a63 := Tryz.isAgg193
 z63 := Tryz.sizeOf193
 v63 := Tryz.zeroValue193
 t64 := Tryz.underlying194
 a64 := Tryz.isAgg194
 z64 := Tryz.sizeOf194
 v64 := Tryz.zeroValue194 }
def j20 : Go.Shelf.Ren := ⟨fun | 6 => 96 | 8 => 106 | 9 => 121 | 11 => 127 | 13 => 117 | 12 => 143 | 23 => 140 | 24 => 141 | 14 => 152 | 15 => 153 | 16 => 154 | 17 => 155 | 18 => 156 | 19 => 157 | 20 => 158 | 21 => 159 | 22 => 160 | 25 => 165 | 26 => 147 | 27 => 148 | 28 => 166 | 29 => 167 | 30 => 118 | 31 => 169 | n => n, fun | 26 => 3 | 28 => 112 | 24 => 43 | 0 => 0 | 3 => 3 | 37 => 164 | 48 => 180 | 50 => 91 | 4 => 4 | 40 => 174 | 39 => 173 | 45 => 32 | 5 => 5 | 9 => 9 | 51 => 182 | 55 => 185 | 57 => 193 | 58 => 194 | 33 => 99 | n => n, fun | n => n⟩
theorem j6w : Go.Proofs.SlLaysZI.n6 Tryz.prog j20 := {
 mixed := by kernel_rfl
 f6 := ⟨Tryz.f96.name, by decide, Tryz.func96.trans (congrArg some (by kernel_rfl))⟩
 f8 := ⟨Tryz.f106.name, by decide, Tryz.func106.trans (congrArg some (by kernel_rfl))⟩
 f11 := ⟨Tryz.f127.name, by decide, Tryz.func127.trans (congrArg some (by kernel_rfl))⟩
 t0 := Tryz.underlying0
 a0 := Tryz.isAgg0
 z0 := Tryz.sizeOf0
 v0 := Tryz.zeroValue0
 t24 := Tryz.underlying43
 a24 := Tryz.isAgg43
 z24 := Tryz.sizeOf43
 v24 := Tryz.zeroValue43
 t26 := Tryz.underlying3
 a26 := Tryz.isAgg3
 z26 := Tryz.sizeOf3
 v26 := Tryz.zeroValue3
 t28 := Tryz.underlying112
 a28 := Tryz.isAgg112
 z28 := Tryz.sizeOf112
 v28 := Tryz.zeroValue112
 i26 := by kernel_rfl }
def lay7J_ren : Go.Shelf.Ren := ⟨fun | 7 => 97 | 10 => 122 | n => n, fun | 23 => 117 | 26 => 3 | 3 => 71 | 28 => 112 | 0 => 0 | 27 => 111 | 33 => 99 | 4 => 4 | n => n, fun | n => n⟩
theorem j5V : Go.Proofs.SlLaysZI.n7 Tryz.prog lay7J_ren := {
 mixed := by kernel_rfl
 f7 := ⟨Tryz.f97.name, by decide, Tryz.func97.trans (congrArg some (by kernel_rfl))⟩
 f10 := ⟨Tryz.f122.name, by decide, Tryz.func122.trans (congrArg some (by kernel_rfl))⟩
 t0 := Tryz.underlying0
 a0 := Tryz.isAgg0
 z0 := Tryz.sizeOf0
 v0 := Tryz.zeroValue0
 t4 := Tryz.underlying4
 a4 := Tryz.isAgg4
 z4 := Tryz.sizeOf4
 v4 := Tryz.zeroValue4
 t23 := Tryz.underlying117
 a23 := Tryz.isAgg117
 z23 := Tryz.sizeOf117
 v23 := Tryz.zeroValue117
 t26 := Tryz.underlying3
 a26 := Tryz.isAgg3
 z26 := Tryz.sizeOf3
 v26 := Tryz.zeroValue3
 t27 := Tryz.underlying111
 a27 := Tryz.isAgg111
 z27 := Tryz.sizeOf111
 v27 := Tryz.zeroValue111
 t28 := Tryz.underlying112
 a28 := Tryz.isAgg112
 z28 := Tryz.sizeOf112
 v28 := Tryz.zeroValue112
 t33 := Tryz.underlying99
 a33 := Tryz.isAgg99
 z33 := Tryz.sizeOf99
 v33 := Tryz.zeroValue99 }
end Go.Proofs.YtfjoaeghnfkdlaaGreatDoor
namespace Go.Proofs.YtfjoaeghnfkdlaaGreatDoor
open Go.RowKit Go.Shelf
theorem YI {α : Type} : ∀ {m : List (Int × α)} {k : Int}, k ∈ m.map Prod.fst -> ∃ v, jw m k = some v
 | [], k, h => by cases h
 | (k', v) :: r, k, h => by
  rw [jw]
  split
  ·exact ⟨v, rfl⟩
  ·rename_i hk
   rcases List.mem_cons.1 h with rfl | h
   ·exact (hk rfl).elim
   ·exact YI h
def Y5 {α : Type} [Inhabited α] (m : List (Int × α)) (k : Nat) : List α := ((xp (m.map Prod.fst)).take k).map fun x => (jw m x).getD default
def VV {α : Type} [Inhabited α] (m : List (Int × α)) : List α := (xp (m.map Prod.fst)).map fun x => (jw m x).getD default
theorem QO {α : Type} (m : List (Int × α)) : (xp (m.map Prod.fst)).length = m.length := by rw [(zM _).length_eq, List.length_map]
theorem j1F {α : Type} [Inhabited α] (m : List (Int × α)) {k : Nat} (hk : k < m.length) : ∃ v, jw m ((xp (m.map Prod.fst)).getD k default) = some v ∧ Y5 m (k + 1) = Y5 m k ++ [v] := by
 have hk' : k < (xp (m.map Prod.fst)).length := by rw [QO]; exact hk
 have e : (xp (m.map Prod.fst)).getD k default = (xp (m.map Prod.fst))[k] := by simp [hk']
 obtain ⟨v, hv⟩ := YI (m := m) ((zM _).mem_iff.1 (List.getElem_mem hk'))
 refine ⟨v, by rw [e]; exact hv, ?_⟩
 unfold Y5
 rw [List.take_succ_eq_append_getElem hk', List.map_append, List.map_cons, List.map_nil, hv]
 rfl
theorem j2T {α : Type} [Inhabited α] (m : List (Int × α)) (k : Nat) : (Y5 m k).length <= k := by
 unfold Y5; rw [List.length_map, List.length_take]; omega
theorem j3f {α : Type} [Inhabited α] (m : List (Int × α)) : Y5 m m.length = VV m := by
 unfold Y5 VV; rw [<- QO m, List.take_length]
def ρO (i : Nat) : Nat := [0, 1, 2, 3, 4, 20, 21].getD i i
theorem j4K (m : List (Int × Job)) (hm : m.length <= 1000000) : FnH Tryz.prog 66 [.own 4] [(4, mJ m)] (fun r h' => r = .lst 8 ((VV m).map vX) ∧ h' = [(4, mJ m)]) := by
 have c1 : FnH Tryz.prog 97 [.own 4] [(4, mJ m), (5, .row 3 1 (([] : List Int).map eI))] (fun r h' => r = .fn (.func 122) [] [.ptr 5 0] ∧ h' = [(5, .blk (lay7J_ren.t 23) [.own 4]), (4, mJ m)]) := j6e j5V (j5 (by kernel_rfl))
 have c2 : FnH Tryz.prog 96 [.fn (.func 122) [] [.ptr 5 0]] [(5, .blk (lay7J_ren.t 23) [.own 4]), (4, mJ m), (6, .row 3 1 (([] : List Int).map eI))] (fun r h' => r = .own 6 ∧ h' = [(6, .row 3 1 ((xp (m.map Prod.fst)).map eI)), (5, .blk (lay7J_ren.t 23) [.own 4]), (4, mJ m)]) :=
  j4L j76 j6w j5V rfl rfl (j5 (by kernel_rfl)) (j5 (by kernel_rfl)) (j5 (by kernel_rfl)) hm
 refine FnH.drop' (qo Tryz.func66 (j5 (by kernel_rfl)) rfl rfl ?_)
 have hsl := QO m
 repeat' (first | refine sT ?_ | refine sQ ?_ ?_ | intro hc | exact trivial)
 refine jh (jA eI 20 3 1 (by omega) rfl) ?_
 refine jL (fun i => ρO i) (c1) rfl rfl leh rfl rfl rfl rfl rfl rfl (fun r h' hR => ?_)
 obtain ⟨rfl, rfl⟩ := hR
 refine ⟨rfl, rfl, ?_⟩
 repeat' (first | refine sT ?_ | refine sQ ?_ ?_ | intro hc | exact trivial)
 refine jh (jA eI 21 3 1 (by omega) rfl) ?_
 refine jL (fun i => ρO i) (c2) rfl rfl leh rfl rfl rfl rfl rfl rfl (fun r h' hR => ?_)
 obtain ⟨rfl, rfl⟩ := hR
 refine ⟨rfl, rfl, ?_⟩
 repeat' (first | refine sT ?_ | refine sQ ?_ ?_ | intro hc | exact trivial)
 refine va (vN vX (t := 3) rfl 22 71 8 (by omega) rfl) ?_
 refine jk (fun k : Nat => ([(0, .own 4), (3, .own 22), (8, .own 21), (9, .int .i64 m.length), (10, .int .i64 k)], [(22, .row 71 8 ((Y5 m k).map vX)), (21, .row 3 1 ((xp (m.map Prod.fst)).map eI)), (4, mJ m)])) (fun k => k <= m.length) (fun k => m.length - k) 0 (Nat.zero_le _) (by rw [<- hsl]; exact les) leh (fun k hk => ?_)
 have hlen := j2T m k
 rcases Nat.lt_or_eq_of_le hk with hkl | hkl
 ·obtain ⟨v, hv, hnx⟩ := j1F m hkl
  repeat' (first | refine sA ?_ | ((first | apply kM | apply kN); (iterate 3 (· exact rfl)); (· first | (show Y _ ⟨_, .indexAddr _ _ _, _, _, _, _⟩ _ _ _; first | exact jP (k) rfl rfl rfl rfl rfl rfl (by omega) (by omega)))) | refine sY ?_ | ((first | apply kM | apply kN); (iterate 3 (· exact rfl)); (· first | exact Y.mk (j30 v rfl rfl rfl rfl rfl hv))) | refine sG ?_ | refine sQ ?_ ?_ | intro hc | exact trivial)
  all_goals first | (exfalso; omega) | skip
  (refine v7 (id := 22) (ys := [v]) (by_ := 64) rfl rfl rfl rfl rfl rfl rfl rfl rfl rfl (fun _ _ => rfl) ?_ ?_ rfl rfl rfl rfl rfl ?_; (· (first | omega | ((try simp only [List.length_cons, List.length_nil, List.length_append, List.length_map]) <;> omega))); (· (first | omega | ((try simp only [List.length_cons, List.length_nil, List.length_append, List.length_map]) <;> omega))))
  repeat' (first | refine sT ?_ | refine sQ ?_ ?_ | intro hc | exact trivial)
  exact ⟨k + 1, by omega, by omega, les, by simp only [hnx]; exact leh⟩
 ·subst hkl
  repeat' (first | refine sT ?_ | refine sQ ?_ ?_ | intro hc | exact trivial)
  all_goals first | (exfalso; omega) | skip
  rw [j3f]
  refine ww (fun _ => jf (t := 2) rfl rfl rfl) ?_
  exact jK rfl ⟨_, leh, rfl, rfl⟩
theorem j0g (l : List Task) (lt : List Due) (dm : List (List Int)) (ticks : Int) (hl : l.length <= 100000) (hlt : lt.length <= 100000) (hm : (yA l lt dm ticks).m1.length <= 1000000) : Fn Tryz.prog 28 [.lst 7 (l.map jJ), .lst 2 (lt.map jD), .lst 1 (dm.map eLI), .int .i64 ticks] (.lst 8 ((VV (yA l lt dm ticks).m1).map vX)) := by
 refine fnb Tryz.func28 (j5 (by kernel_rfl)) rfl rfl rfl ?_
 repeat' (first | refine sT ?_ | refine sQ ?_ ?_ | intro hc | exact trivial)
 refine jh (jA eI 10 3 1 (by omega) rfl) ?_
 refine jh (jA eI 11 3 1 (by omega) rfl) ?_
 refine jh (jA eI 12 3 1 (by omega) rfl) ?_
 refine jh (jA eI 13 3 1 (by omega) rfl) ?_
 refine jL (fun i => i + 5) (Ys l lt dm ticks hl hlt) rfl rfl leh rfl rfl rfl rfl rfl rfl (fun r h' hR => ?_)
 obtain ⟨rfl, rfl⟩ := hR
 refine ⟨rfl, rfl, ?_⟩
 repeat' (first | refine sT ?_ | refine sQ ?_ ?_ | intro hc | exact trivial)
 refine jL (fun i => i + 8) (j4K _ hm) rfl rfl leh rfl rfl rfl rfl rfl rfl (fun r h' hR => ?_)
 obtain ⟨rfl, rfl⟩ := hR
 refine ⟨rfl, rfl, ?_⟩
 repeat' (first | refine sT ?_ | refine sQ ?_ ?_ | intro hc | exact trivial)
 exact jK rfl rfl
end Go.Proofs.YtfjoaeghnfkdlaaGreatDoor
namespace Go.Proofs.YtfjoaeghnfkdlaaGreatDoor
open Go.RowKit
theorem j56 {L : List Nat} (hL : L.Pairwise (· < ·)) {l : List Int} (hp : l.Perm (L.map fun k : Nat => (k : Int))) : xp l = L.map fun k : Nat => (k : Int) := by
 have h1 : (xp l).Perm (L.map fun k : Nat => (k : Int)) := (zM l).trans hp
 have h2 : (xp l).Pairwise (· <= ·) := by
  have := List.pairwise_mergeSort (le := fun x y : Int => decide (x <= y)) (fun a b c => by simp only [decide_eq_true_eq]; omega) (fun a b => by simp only [Bool.or_eq_true, decide_eq_true_eq]; omega) l
  exact this.imp fun h => of_decide_eq_true h
 have h3 : (L.map fun k : Nat => (k : Int)).Pairwise (· <= ·) := by
  rw [List.pairwise_map]
  exact hL.imp fun h => by omega
 exact h1.eq_of_pairwise (fun a b _ _ h1 h2 => Int.le_antisymm h1 h2) h2 h3
theorem j4i {α β : Type} [Inhabited β] {m : List (Int × β)} (JL : List (Nat × α)) (f : α -> β) (h1 : (m.map Prod.fst).Perm (JL.map fun p => (p.1 : Int))) (h2 : (JL.map Prod.fst).Pairwise (· < ·)) (h3 : ∀ p ∈ JL, jw m p.1 = some (f p.2)) : VV m = JL.map fun p => f p.2 := by
 have e : (JL.map fun p => (p.1 : Int)) = (JL.map Prod.fst).map fun k : Nat => (k : Int) := by rw [List.map_map]; rfl
 rw [e] at h1
 rw [VV, j56 h2 h1, List.map_map, List.map_map]
 apply List.map_congr_left
 intro p hp
 simp only [Function.comp]
 rw [h3 p hp]; rfl
theorem zu {α : Type} (tk : α -> Int) : ∀ (rs : List Int) (L : List α), rs.Nodup -> (∀ x ∈ L, tk x ∈ rs) -> L.Perm (rs.flatMap fun i => L.filter fun x => decide (tk x = i))
 | [], L, _, h => by
  have : L = [] := List.eq_nil_iff_forall_not_mem.2 fun x hx => by have := h x hx; cases this
  rw [this]; exact List.Perm.refl _
 | i :: rs, L, hn, h => by
  rw [List.nodup_cons] at hn
  have h1 := (List.filter_append_perm (fun x => decide (tk x = i)) L).symm
  refine h1.trans ?_
  rw [List.flatMap_cons]
  refine List.Perm.append_left _ ?_
  refine (zu tk rs _ hn.2 fun x hx => ?_).trans ?_
  ·obtain ⟨h2, h3⟩ := List.mem_filter.1 hx
   rcases List.mem_cons.1 (h x h2) with h4 | h4
   ·rw [h4] at h3; simp at h3
   ·exact h4
  ·have e : (rs.flatMap fun j => (L.filter fun x => !decide (tk x = i)).filter fun x => decide (tk x = j)) = rs.flatMap fun j => L.filter fun x => decide (tk x = j) := by
    rw [List.flatMap_def, List.flatMap_def]
    congr 1
    apply List.map_congr_left
    intro j hj
    rw [List.filter_filter]
    apply List.filter_congr
    intro x _
    by_cases hx : tk x = j
    ·have : ¬ tk x = i := fun e => hn.1 (by rw [<- e, hx]; exact hj)
     rw [decide_eq_true hx, decide_eq_false this]; rfl
    ·rw [decide_eq_false hx]; rfl
   rw [e]
theorem Zk {α : Type} (tk : α -> Int) {rs : List Int} (hn : rs.Nodup) {A B : List α} (hA : ∀ x ∈ A, tk x ∈ rs) (hB : ∀ x ∈ B, tk x ∈ rs) (h : ∀ i ∈ rs, (A.filter fun x => decide (tk x = i)) = B.filter fun x => decide (tk x = i)) : A.Perm B := by
 refine (zu tk rs A hn hA).trans (List.Perm.trans ?_ (zu tk rs B hn hB).symm)
 rw [List.flatMap_def, List.flatMap_def, List.map_congr_left h]
theorem BL.ids {l : List Task} {n : Nat} {id : Nat -> Int} {B : Bk} {Q : Nat -> QS} {JL : List (Nat × Job)} {OL : List (Nat × Due)} (h : BL l n id B Q JL OL) {ah : Int -> Int -> Bool} (hk : RKI l.length id ah) : ∀ p ∈ JL, p.2.task ∈ (List.range l.length).map id := fun p hp => by
 obtain ⟨i, hi, e⟩ := List.getElem_of_mem hp
 have hi' : i < B.all.length := by rw [<- h.len]; exact hi
 obtain ⟨q, q1, q2⟩ := h.at_ hi'
 rw [List.getElem?_eq_getElem hi, e] at q1
 cases q1
 have ht := h.good.task i hi'
 have ht2 : p.2.task = (B.all.getD i default).task := by rw [q2]; rfl
 obtain ⟨r, hr, er⟩ := hk.sur p.2.task.toNat (by omega)
 exact List.mem_map.2 ⟨r, List.mem_range.2 hr, by omega⟩
theorem BL.same {l : List Task} {n m : Nat} {id : Nat -> Int} {B B' : Bk} {Q : Nat -> QS} {JL JL' : List (Nat × Job)} {OL OL' : List (Nat × Due)} (h : BL l n id B Q JL OL) (h' : BL l m id B' Q JL' OL') {ah : Int -> Int -> Bool} (hk : RKI l.length id ah) : (B.all.map vG).Perm (B'.all.map vG) := by
 rw [h.all, h'.all]
 refine List.Perm.map _ (Zk (fun p : Nat × Job => p.2.task) (rs := (List.range l.length).map id) ?_ (h.ids hk) (h'.ids hk) fun i hi => ?_)
 ·unfold List.Nodup
  rw [List.pairwise_map]
  refine List.pairwise_lt_range.imp_of_mem fun {a b} ha hb hab e => ?_
  have := hk.inj a b (List.mem_range.1 ha) (List.mem_range.1 hb) e
  omega
 ·obtain ⟨r, hr, rfl⟩ := List.mem_map.1 hi
  rw [h.js r (List.mem_range.1 hr), h'.js r (List.mem_range.1 hr)]
theorem Vv {l : List Task} : ∀ (es : List Event) (s s' : St29), xn l s es = some s' -> s'.G.length <= s.G.length + es.length
 | [], s, s', h => by cases h; simp
 | x :: r, s, s', h => by
  rw [wW] at h
  split at h
  ·have h1 := Vv r _ _ h
   have h2 : (Y9 s x).G.length <= s.G.length + 1 := by
    unfold Y9
    repeat' split
    all_goals simp
   rw [List.length_cons]; omega
  ·cases h
theorem j1z {l : List Task} (hok : okK l = true) (asks : List Due) (dm : List (List Int)) {T : Nat} (hT : T <= 500) (ha : asks.length <= 200) :
  tkE (xN l asks dm T).2 = (yA l (zj l asks T).1 dm T).T ∧
  msE (xN l asks dm T).2 = jO (((VV (yA l (zj l asks T).1 dm T).m1).filter (·.missed)).map dlJ) ∧
  (yA l (zj l asks T).1 dm T).m1.length <= 10000 ∧ (zj l asks T).1.length <= 100000 ∧ (xN l asks dm T).2.length <= 100000 := by
 have h8 : l.length <= 8 := by rw [okK, Bool.and_eq_true, decide_eq_true_eq] at hok; omega
 rw [(Xz hok asks dm T (by omega)).2]
 have hgp := j28 hok asks dm T (by omega)
 have hS : (zj l asks T).1.Pairwise leD := by rw [<- hgp]; exact wD _
 have hp : (zj l asks T).1.Perm (vl l asks dm T) := by rw [<- hgp]; exact qK _
 have hI := ym h8 asks dm T (by omega)
 have hal := Xx asks T
 obtain ⟨A', hr1, _⟩ := j0J hok asks dm T (by omega)
 have hrl := Vv _ _ _ hr1
 simp only [List.length_nil, Nat.zero_add] at hrl
 have hel := hI.len
 have hpl := hp.length_eq
 obtain ⟨k1, k2, n, JL, OL, k3⟩ := X4 hok asks dm (T := T) (by omega) hS hp T (Nat.le_refl _)
 have hal2 := hI.ri.good.alen
 have h0 : ∀ d ∈ (zj l asks T).1, (0 <= d.at_ ∧ d.at_ < T) ∧ 0 <= d.task ∧ d.task < l.length := fun d hd => y9 (hp.mem_iff.1 hd)
 generalize (zj l asks T).1 = S at *
 have hN : qY (T : Int) = T := by unfold qY; omega
 have hrel : jO (yC l.length S (qY (T : Int))) = S := by
  have : yC l.length S (qY (T : Int)) = S := by
   unfold yC
   rw [List.filter_eq_self]
   intro d hd
   have := h0 d hd
   unfold j1R
   rw [decide_eq_true_eq, hN]
   omega
  rw [this]
  exact (xf (List.Perm.refl S) hS).symm
 obtain ⟨JP, OP, p1, ⟨j1, j2, j3, j4⟩, _⟩ := j0y l S dm T (by omega)
 have hm1 := j4i JP (x8 (qY (T : Int))) j1 j2 j3
 rw [hrel, hN] at p1 j4
 rw [hN] at hm1
 have hjl := j1.length_eq
 rw [List.length_map, List.length_map] at hjl
 have hjl2 := congrArg List.length j4
 rw [List.length_map, List.length_map] at hjl2
 obtain ⟨q1, JQ, OQ, q2, _⟩ := zy (dm := dm) (S := S) (by omega) (rkL (jE l) l.length) (rki l) hS (fun d hd => ⟨(h0 d hd).1.1, (h0 d hd).2⟩) T (by omega)
 have hsame := k3.same q2 (rki l)
 have hsl := hsame.length_eq
 rw [List.length_map, List.length_map] at hsl
 refine ⟨by rw [k1, p1, q1], ?_, by omega, by omega, by omega⟩
 refine xf ?_ k2.s
 refine k2.p.trans ?_
 have hcm : ∀ js : List Job, js.map (x8 T) = (js.map vG).map (x8 T) := fun js => by
  rw [List.map_map]; rfl
 have hid : (qP l asks dm T).B.all.map (x8 T) = (qP l asks dm T).B.all := by
  conv => rhs; rw [<- List.map_id (qP l asks dm T).B.all]
  apply List.map_congr_left
  intro j hj
  obtain ⟨q, hq, rfl⟩ := List.getElem_of_mem hj
  have := k2.m q hq
  rw [j48 hq] at this
  unfold x8 xA at *
  rw [id, <- this]
 rw [hm1, <- j4, hcm]
 refine List.Perm.map _ (List.Perm.filter _ ?_)
 rw [<- hid, hcm]
 exact hsame.map _
def Xp (l : List Task) (asks : List Due) (dm : List (List Int)) (ticks : Int) : Bool :=
 Yk l 20 && decide (asks.length <= 200 ∧ dm.length <= 20 ∧ ¬ (1000 < ticks ∧ ticks <= 65536)) && dm.all fun x => decide (x.length <= 1000)
theorem j1J (p : List Int -> Bool) (l : List (List Int)) (k : Nat) (h : k < l.length) (h1 : (l.take k).all p = true) (h2 : p (l.getD k default) = true) : (l.take (k + 1)).all p = true := by
 rw [List.take_succ_eq_append_getElem h, List.all_append, h1]
 have e : l.getD k default = l[k] := by simp [h]
 rw [e] at h2
 simp [h2]
theorem ZS (l : List Task) (asks : List Due) (dm : List (List Int)) (ticks : Int) : Fn Tryz.prog 23 [.agg [.lst 7 (l.map jJ), .lst 2 (asks.map jD), .lst 1 (dm.map eLI), .int .i64 ticks]] (.bool (Xp l asks dm ticks)) := by
 refine fnb Tryz.func23 (j5 (by kernel_rfl)) rfl rfl rfl ?_
 have c1 := j5v l 20 (by omega)
 rw [Xp]
 generalize Yk l 20 = few at *
 by_cases h0 : few = true ∧ asks.length <= 200 ∧ dm.length <= 20 ∧ ¬ (1000 < ticks ∧ ticks <= 65536)
 case neg =>
  have e : (few && decide (asks.length <= 200 ∧ dm.length <= 20 ∧ ¬ (1000 < ticks ∧ ticks <= 65536))) = false := by
   cases few
   ·rfl
   ·rw [decide_eq_false (fun h => h0 ⟨rfl, h⟩)]; rfl
  cases few
  ·repeat' (first | refine sT ?_ | refine sC (c1) ?_ | refine sQ ?_ ?_ | intro hc | exact trivial)
   all_goals first | (exfalso; omega) | exact jK rfl (by rw [e, Bool.false_and])
  ·have h0 : ¬ (asks.length <= 200 ∧ dm.length <= 20 ∧ ¬ (1000 < ticks ∧ ticks <= 65536)) := fun h => h0 ⟨rfl, h⟩
   repeat' (first | refine sT ?_ | refine sC (c1) ?_ | refine sQ ?_ ?_ | intro hc | exact trivial)
   all_goals first | (exfalso; omega) | exact jK rfl (by rw [e, Bool.false_and])
 obtain ⟨rfl, h1, h2, h3⟩ := h0
 rw [decide_eq_true ⟨h1, h2, h3⟩]
 repeat' (first | refine sT ?_ | refine sC (c1) ?_ | refine sQ ?_ ?_ | intro hc | exact trivial)
 all_goals first | (exfalso; omega) | skip
 all_goals
 refine jk (fun k : Nat => ([(32, .lst 1 (dm.map eLI)), (33, .int .i64 dm.length), (34, .int .i64 k)], [])) (fun k => k <= dm.length ∧ (dm.take k).all (fun x => decide (x.length <= 1000)) = true) (fun k => dm.length - k) 0 ⟨Nat.zero_le _, rfl⟩ les leh (fun k hk => ?_)
 all_goals
 obtain ⟨hk1, hk2⟩ := hk
 rcases Nat.lt_or_eq_of_le hk1 with hkl | hkl
 ·obtain ⟨d, hd⟩ : ∃ d, dm.getD k default = d := ⟨_, rfl⟩
  by_cases hc0 : d.length <= 1000
  ·have := j1J _ dm k hkl hk2 (by rw [hd]; exact decide_eq_true hc0)
   repeat' (first | refine sA ?_ | ((first | apply kM | apply kN); (iterate 3 (· exact rfl)); (· first | (show Y _ ⟨_, .indexAddr _ _ _, _, _, _, _⟩ _ _ _; first | exact Y.mk (qe (hd) rfl rfl rfl rfl rfl (by omega))))) | refine sY ?_ | refine sG ?_ | refine sQ ?_ ?_ | intro hc | exact trivial)
   all_goals first | (exfalso; omega) | exact ⟨k + 1, ⟨by omega, this⟩, by omega, les, leh⟩
  ·have hf : dm.all (fun t => decide (t.length <= 1000)) = false := by
    rw [List.all_eq_false]
    refine ⟨d, by rw [<- hd]; exact qN hkl, by simpa using hc0⟩
   repeat' (first | refine sA ?_ | ((first | apply kM | apply kN); (iterate 3 (· exact rfl)); (· first | (show Y _ ⟨_, .indexAddr _ _ _, _, _, _, _⟩ _ _ _; first | exact Y.mk (qe (hd) rfl rfl rfl rfl rfl (by omega))))) | refine sY ?_ | refine sG ?_ | refine sQ ?_ ?_ | intro hc | exact trivial)
   all_goals first | (exfalso; omega) | exact jK rfl (by rw [hf]; rfl)
 ·subst hkl
  rw [List.take_length] at *
  repeat' (first | refine sT ?_ | refine sQ ?_ ?_ | intro hc | exact trivial)
  all_goals first | (exfalso; omega) | exact jK rfl (by rw [hk2]; rfl)
end Go.Proofs.YtfjoaeghnfkdlaaGreatDoor
