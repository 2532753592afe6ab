/- Whose deadline was missed, and when that was told: plain. No condition. -/
import Derived.Test.YtfjoaeghnfkdlaaGreatDoorB27
import Derived.Test.YtfjoaeghnfkdlaaGreatDoorB16
import Derived.Test.YtfjoaeghnfkdlaaGreatDoorB11
set_option linter.unusedSimpArgs false
set_option linter.unusedVariables false
set_option maxHeartbeats 1000000
set_option maxRecDepth 100000
namespace Go.Proofs.YtfjoaeghnfkdlaaGreatDoor
open Go.RowKit
def dlJ (j : Job) : Due := ⟨j.deadline, j.task⟩
def xA (t : Int) (j : Job) : Bool := decide ((j.fin < 0 ∨ j.deadline < j.fin) ∧ j.deadline < t)
structure MI (t u : Int) (js : List Job) (ms : List Due) : Prop where
 m : ∀ q, q < js.length -> (js.getD q default).missed = xA t (js.getD q default)
 f : ∀ q, q < js.length -> (js.getD q default).fin <= u
 p : ms.Perm ((js.filter (·.missed)).map dlJ)
 s : ms.Pairwise leD
 b : ∀ d ∈ ms, d.at_ < t
theorem Qm {js : List Job} {p : Nat} (hp : p < js.length) : js = js.take p ++ js.getD p default :: js.drop (p + 1) := by
 have e : js.getD p default = js[p] := by simp [hp]
 rw [e, <- List.drop_eq_getElem_cons hp, List.take_append_drop]
theorem Ju {js : List Job} {p : Nat} (hp : p < js.length) (x : Job) : js.set p x = js.take p ++ x :: js.drop (p + 1) := by
 rw [List.set_eq_take_append_cons_drop, if_pos hp]
theorem j1j {js : List Job} {p : Nat} (hp : p < js.length) {x : Job} (h0 : (js.getD p default).missed = false) (h1 : x.missed = true) : (((js.set p x).filter (·.missed)).map dlJ).Perm (((js.filter (·.missed)).map dlJ) ++ [dlJ x]) := by
 rw [Ju hp]
 conv => rhs; rw [Qm hp]
 rw [List.filter_append, List.filter_cons, if_pos h1, List.filter_append, List.filter_cons, if_neg (by rw [h0]; decide), List.map_append, List.map_append, List.map_cons]
 refine List.perm_middle.trans ?_
 exact (List.perm_append_singleton _ _).symm
theorem j1Z {js : List Job} {p : Nat} {x : Job} (h1 : p < js.length -> x.missed = (js.getD p default).missed ∧ dlJ x = dlJ (js.getD p default)) : ((js.set p x).filter (·.missed)).map dlJ = (js.filter (·.missed)).map dlJ := by
 by_cases hp : p < js.length
 ·obtain ⟨h1, h2⟩ := h1 hp
  rw [Ju hp]
  conv => rhs; rw [Qm hp]
  rw [List.filter_append, List.filter_cons, List.filter_append, List.filter_cons, h1]
  cases (js.getD p default).missed
  ·simp
  ·simp [h2]
 ·rw [List.set_eq_of_length_le (by omega)]
structure MK (t : Int) (js : List Job) (ks : List Int) (ms : List Due) : Prop where
 m1 : ∀ q, q < js.length -> (js.getD q default).missed = true -> xA (t + 1) (js.getD q default) = true
 m2 : ∀ q, q < js.length -> xA t (js.getD q default) = true -> (js.getD q default).missed = true
 m3 : ∀ q, q < js.length -> (js.getD q default).fin < 0 -> (js.getD q default).deadline <= t -> (js.getD q default).task ∈ ks -> (js.getD q default).missed = true
 f : ∀ q, q < js.length -> (js.getD q default).fin <= t
 p : ms.Perm ((js.filter (·.missed)).map dlJ)
theorem j2V {t : Int} {j : Job} (h : xA t j = true) : xA (t + 1) j = true := by
 unfold xA at *
 rw [decide_eq_true_eq] at *
 omega
theorem Ym (B : Bk) (t : Int) (ks : List Int) : ∀ k, k <= ks.length -> (jN B t ks k).1.Sublist (ks.take k)
 | 0, _ => by simp [jN]
 | k + 1, hk => by
  have ih := Ym B t ks k (by omega)
  have e0 : ks.getD k default = ks[k] := by simp [show k < ks.length by omega]
  rw [List.take_succ_eq_append_getElem (by omega), <- e0]
  have hlb : (jN B t ks (k + 1)).1 = (jN B t ks k).1 ++ if wh t (jH (jN B t ks k).2 (ks.getD k default)) then [ks.getD k default] else [] := by
   show (if wh t (jH (jN B t ks k).2 (ks.getD k default)) then ((jN B t ks k).1 ++ [ks.getD k default], yz (jN B t ks k).2 (ks.getD k default) (vZ (jH (jN B t ks k).2 (ks.getD k default)))) else jN B t ks k).1 = _
   split <;> simp
  rw [hlb]
  refine List.Sublist.append ih ?_
  split
  ·exact List.Sublist.refl _
  ·exact List.nil_sublist _
theorem j41 (m : Nat) : (jV m).Pairwise (· < ·) := by
 unfold jV vJ
 rw [List.pairwise_map]
 exact (List.Pairwise.filter _ List.pairwise_lt_range).imp fun h => by omega
theorem MK.late {l : List Task} {n : Nat} {B : Bk} (h : GoodB l n B) {t : Int} (ht : inT t = t) {ms : List Due} (hm : MI t t B.all ms) : ∀ k, k <= (jV B.act).length ->
  MK t (jN B t (jV B.act) k).2.all ((jV B.act).take k) (ms ++ (jN B t (jV B.act) k).1.map fun i => (⟨t, i⟩ : Due))
 | 0, _ => ⟨fun q hq hh => j2V ((hm.m q hq).symm.trans hh), fun q hq hh => (hm.m q hq).trans hh, fun q hq _ _ hx => by simp at hx, hm.f, by simpa [jN] using hm.p⟩
 | k + 1, hk => by
  have ih := MK.late h ht hm k (by omega)
  obtain ⟨g1, g2, g3⟩ := h.late t (jV B.act) k
  have hh : jm B.act ((jV B.act).getD k default) = true := Z8 hk
  have e0 : (jV B.act).getD k default = (jV B.act)[k] := by simp [show k < (jV B.act).length by omega]
  have etk : (jV B.act).take (k + 1) = (jV B.act).take k ++ [(jV B.act).getD k default] := by rw [List.take_succ_eq_append_getElem (by omega), e0]
  rw [etk]
  have hlb : jN B t (jV B.act) (k + 1) = if wh t (jH (jN B t (jV B.act) k).2 ((jV B.act).getD k default)) then ((jN B t (jV B.act) k).1 ++ [(jV B.act).getD k default], yz (jN B t (jV B.act) k).2 ((jV B.act).getD k default) (vZ (jH (jN B t (jV B.act) k).2 ((jV B.act).getD k default)))) else jN B t (jV B.act) k := rfl
  rw [hlb]
  generalize (jV B.act).getD k default = i at *
  generalize (jV B.act).take k = ks at *
  generalize jN B t (jV B.act) k = r at *
  obtain ⟨L, B2⟩ := r
  simp only at ih g1 g2 g3 ⊢
  rw [<- g2] at hh
  obtain ⟨p1, p2, p3, p4⟩ := g1.pos hh
  have hpos : ∀ q, q < B2.all.length -> (B2.all.getD q default).fin < 0 -> (B2.all.getD q default).task = i -> q = qh B2 i := fun q hq hf htk => by
   have := (g1.opn q hq hf).2
   rw [htk, p1] at this
   have := Int.ofNat.inj (Option.some.inj this)
   omega
  unfold jH at p3 p4 ⊢
  have hall : ∀ x, (yz B2 i x).all = B2.all.set (qh B2 i) x := fun x => rfl
  generalize qh B2 i = p at *
  cases hq : wh t (B2.all.getD p default)
  ·rw [if_neg (by decide)]
   refine ⟨ih.m1, ih.m2, fun q hq1 hf hd hx => ?_, ih.f, ih.p⟩
   rcases List.mem_append.1 hx with hx | hx
   ·exact ih.m3 q hq1 hf hd hx
   ·have := hpos q hq1 hf (List.mem_singleton.1 hx)
    subst this
    unfold wh at hq
    rw [ht, decide_eq_true hd, Bool.and_true, Bool.not_eq_false'] at hq
    exact hq
  ·rw [if_pos rfl]
   unfold wh at hq
   rw [Bool.and_eq_true, Bool.not_eq_true', decide_eq_true_eq, ht] at hq
   obtain ⟨hq1, hq2⟩ := hq
   have hdl : (B2.all.getD p default).deadline = t := by
    by_cases hc : (B2.all.getD p default).deadline < t
    ·have := ih.m2 p p2 (by unfold xA; exact decide_eq_true ⟨.inl p4, hc⟩)
     rw [hq1] at this; cases this
    ·omega
   simp only [hall]
   have hset : ∀ q, q < B2.all.length -> (B2.all.set p (vZ (B2.all.getD p default))).getD q default = if p = q then vZ (B2.all.getD p default) else B2.all.getD q default := fun q hq => vS q hq
   refine ⟨fun q hq => ?_, fun q hq => ?_, fun q hq => ?_, fun q hq => ?_, ?_⟩
   ·rw [List.length_set] at hq
    rw [hset q hq]
    split
    ·intro _; unfold xA vZ; simp only; exact decide_eq_true ⟨.inl p4, by omega⟩
    ·exact ih.m1 q hq
   ·rw [List.length_set] at hq
    rw [hset q hq]
    split
    ·intro _; rfl
    ·exact ih.m2 q hq
   ·rw [List.length_set] at hq
    rw [hset q hq]
    split
    ·intro _ _ _; rfl
    ·rename_i hne
     intro hf hd hx
     rcases List.mem_append.1 hx with hx | hx
     ·exact ih.m3 q hq hf hd hx
     ·exact absurd (hpos q hq hf (List.mem_singleton.1 hx)).symm hne
   ·rw [List.length_set] at hq
    rw [hset q hq]
    split
    ·exact ih.f p p2
    ·exact ih.f q hq
   ·rw [List.map_append, <- List.append_assoc]
    refine (ih.p.append_right _).trans ?_
    have e : (List.map (fun i => (⟨t, i⟩ : Due)) [i]) = [dlJ (vZ (B2.all.getD p default))] := by
     rw [List.map_cons, List.map_nil, dlJ, vZ]; simp only [hdl, p3]
    rw [e]
    exact (j1j p2 hq1 rfl).symm
theorem MI.late {l : List Task} {n : Nat} {B : Bk} (h : GoodB l n B) {t : Int} (ht : inT t = t) {ms : List Due} (hm : MI t t B.all ms) :
  MI (t + 1) t (jN B t (jV B.act) (jV B.act).length).2.all (ms ++ (jN B t (jV B.act) (jV B.act).length).1.map fun i => (⟨t, i⟩ : Due)) := by
 have hk := MK.late h ht hm _ (Nat.le_refl _)
 obtain ⟨g1, g2, g3⟩ := h.late t (jV B.act) (jV B.act).length
 have hsub := Ym B t (jV B.act) _ (Nat.le_refl _)
 rw [List.take_length] at hk hsub
 generalize jN B t (jV B.act) (jV B.act).length = r at *
 obtain ⟨L, B2⟩ := r
 simp only at hk g1 g2 g3 hsub ⊢
 refine ⟨fun q hq => ?_, hk.f, hk.p, ?_, fun d hd => ?_⟩
 ·cases hc : (B2.all.getD q default).missed
  ·symm
   rw [<- Bool.not_eq_true]
   intro hl
   unfold xA at hl
   rw [decide_eq_true_eq] at hl
   have : (B2.all.getD q default).missed = true := by
    by_cases hf : (B2.all.getD q default).fin < 0
    ·refine hk.m3 q hq hf (by omega) ?_
     have := (g1.opn q hq hf).1
     rw [g2, vx, decide_eq_true_eq] at this
     exact this
    ·have := hk.f q hq
     exact hk.m2 q hq (by unfold xA; exact decide_eq_true (by omega))
   rw [hc] at this; cases this
  ·exact (hk.m1 q hq hc).symm
 ·rw [List.pairwise_append]
  refine ⟨hm.s, ?_, fun a ha b hb => ?_⟩
  ·rw [List.pairwise_map]
   exact (List.Pairwise.sublist hsub (j41 B.act)).imp fun {a b} h => .inr ⟨rfl, Int.le_of_lt h⟩
  ·obtain ⟨i, _, rfl⟩ := List.mem_map.1 hb
   have := hm.b a ha
   unfold leD; simp only; omega
 ·rcases List.mem_append.1 hd with hd | hd
  ·have := hm.b d hd; omega
  ·obtain ⟨i, _, rfl⟩ := List.mem_map.1 hd
   simp only; omega
theorem MI.set {t u u' : Int} {js : List Job} {ms : List Due} (h : MI t u js ms) (hu : u <= u') (p : Nat) (x : Job) (hx : p < js.length -> x.missed = (js.getD p default).missed ∧ dlJ x = dlJ (js.getD p default) ∧ xA t x = xA t (js.getD p default) ∧ x.fin <= u') : MI t u' (js.set p x) ms := by
 refine ⟨fun q hq => ?_, fun q hq => ?_, ?_, h.s, h.b⟩
 ·rw [List.length_set] at hq
  rw [vS q hq]
  split
  ·rename_i e; subst e
   obtain ⟨h1, h2, h3, h4⟩ := hx hq
   rw [h1, h3]; exact h.m _ hq
  ·exact h.m q hq
 ·rw [List.length_set] at hq
  rw [vS q hq]
  split
  ·rename_i e; subst e; exact (hx hq).2.2.2
  ·have := h.f q hq; omega
 ·rw [j1Z fun hp => ⟨(hx hp).1, (hx hp).2.1⟩]; exact h.p
theorem MI.rel {l : List Task} {t u : Int} {B : Bk} {ms : List Due} (h : MI (t + 1) u B.all ms) (hu : -1 <= u) (i : Int) (hD : 0 <= i -> i < l.length -> t + 1 <= Vc (inT t) (l.getD i.toNat default).deadline) : MI (t + 1) u (jv l B i t).all ms := by
 unfold jv
 split
 ·exact h
 ·rename_i h0
  split
  ·exact h
  ·simp only
   have hl : xA (t + 1) (wK l B i t) = false := by
    have := hD (by omega) (by omega)
    unfold xA wK
    simp only
    exact decide_eq_false (by omega)
   have hg : ∀ q, q < (B.all ++ [wK l B i t]).length -> (q < B.all.length ∧ (B.all ++ [wK l B i t]).getD q default = B.all.getD q default) ∨ (B.all ++ [wK l B i t]).getD q default = wK l B i t := fun q hq => by
    rw [List.length_append, List.length_singleton] at hq
    by_cases hc : q < B.all.length
    ·exact .inl ⟨hc, by rw [List.getD_eq_getElem?_getD, List.getElem?_append_left hc, List.getD_eq_getElem?_getD]⟩
    ·refine .inr ?_
     have : q = B.all.length := by omega
     subst this
     rw [List.getD_eq_getElem?_getD, List.getElem?_append_right (Nat.le_refl _), Nat.sub_self]; rfl
   refine ⟨fun q hq => ?_, fun q hq => ?_, ?_, h.s, h.b⟩
   ·rcases hg q hq with ⟨h1, h2⟩ | h2 <;> rw [h2]
    ·exact h.m q h1
    ·rw [hl]; rfl
   ·rcases hg q hq with ⟨h1, h2⟩ | h2 <;> rw [h2]
    ·exact h.f q h1
    ·exact hu
   ·rw [List.filter_append, List.filter_cons, if_neg (show ¬ (wK l B i t).missed = true from fun h => by cases h), List.filter_nil, List.append_nil]
    exact h.p
theorem MI.step {t u : Int} {B : Bk} {ms : List Due} (h : MI t u B.all ms) (i s : Int) : MI t u (jc B i s).all ms := by
 unfold jc
 split
 ·exact h.set (Int.le_refl _) _ _ fun hp => ⟨rfl, rfl, rfl, h.f _ hp⟩
 ·exact h
theorem MI.up {t u u' : Int} {js : List Job} {ms : List Due} (h : MI t u js ms) (hu : u <= u') : MI t u' js ms := ⟨h.m, fun q hq => Int.le_trans (h.f q hq) hu, h.p, h.s, h.b⟩
theorem MI.fin {l : List Task} {n : Nat} {t : Int} {B : Bk} {ms : List Due} (h : MI (t + 1) t B.all ms) (hg : GoodB l n B) (ht : inT t = t) (i : Int) : MI (t + 1) (t + 1) (vk B i t).all ms := by
 unfold vk
 split
 ·rename_i hh
  obtain ⟨p1, p2, p3, p4⟩ := hg.pos hh
  refine h.set (by omega) _ _ fun hp => ⟨rfl, rfl, ?_, ?_⟩
  ·unfold xA vQ
   unfold jH at p4 ⊢
   simp only [ht]
   rw [Bool.eq_iff_iff, decide_eq_true_eq, decide_eq_true_eq]
   omega
  ·unfold vQ; simp only [ht]; omega
 ·exact h.up (by omega)
/-! Periodic ones. -/
def ZR (l : List Task) (T : Nat) : List Due := (List.range T).flatMap fun t : Nat => (vr l t).map fun i : Nat => (⟨t, i⟩ : Due)
theorem Qt (l : List Task) : (xu l).Nodup := List.nodup_range.filter _
theorem j0p {l : List Task} (hok : okK l = true) (T : Nat) : (ZR l T).Perm (xZ l T l.length) := by
 refine (List.perm_ext_iff_of_nodup ?_ ?_).2 fun d => ?_
 ·unfold ZR
  rw [List.Nodup, List.pairwise_flatMap]
  refine ⟨fun t ht => ?_, List.pairwise_lt_range.imp fun {a b} hab x hx y hy e => ?_⟩
  ·rw [List.pairwise_map]
   exact ((Qt l).filter _).imp fun {a b} hab e => hab (by have := congrArg Due.task e; simp only at this; omega)
  ·obtain ⟨i, _, rfl⟩ := List.mem_map.1 hx
   obtain ⟨j, _, rfl⟩ := List.mem_map.1 hy
   have := congrArg Due.at_ e
   simp only at this; omega
 ·unfold xZ
  rw [List.Nodup, List.pairwise_flatMap]
  refine ⟨fun j hj => ?_, List.pairwise_lt_range.imp fun {a b} hab x hx y hy e => ?_⟩
  ·unfold xT
   rw [List.pairwise_map]
   by_cases hp : jt (l.getD j default) = true ∧ (l.getD j default).kind = 1
   ·obtain ⟨_, _, h3, _⟩ := qL hp.1
    refine List.pairwise_lt_range.imp fun {a b} hab e => ?_
    have := congrArg Due.at_ e
    unfold VC at this
    simp only at this
    have h4 : ((a : Int) + 1) * (l.getD j default).period <= b * (l.getD j default).period := Int.mul_le_mul_of_nonneg_right (by omega) (by omega)
    rw [Int.add_mul, Int.one_mul] at h4
    omega
   ·rw [xH hp]; exact List.Pairwise.nil
  ·unfold xT at hx hy
   obtain ⟨i, _, rfl⟩ := List.mem_map.1 hx
   obtain ⟨j, _, rfl⟩ := List.mem_map.1 hy
   have := congrArg Due.task e
   unfold VC at this
   simp only at this; omega
 ·unfold ZR xZ xT
  rw [List.mem_flatMap, List.mem_flatMap]
  constructor
  ·rintro ⟨t, ht, hd⟩
   rw [List.mem_range] at ht
   obtain ⟨i, hi, rfl⟩ := List.mem_map.1 hd
   obtain ⟨h1, h2⟩ := List.mem_filter.1 hi
   rw [decide_eq_true_eq] at h2
   obtain ⟨h3, h4⟩ := wd hok h1
   have hoff : (l.getD i default).offset <= t := by
    unfold nx at h2; split at h2 <;> omega
   have hm := (XT h4 hoff).1 h2
   obtain ⟨q, hq⟩ := Int.dvd_of_emod_eq_zero hm
   rw [Int.mul_comm] at hq
   have hq0 : 0 <= q := by
    refine Classical.byContradiction fun hc => ?_
    have : q * (l.getD i default).period <= (-1) * (l.getD i default).period := Int.mul_le_mul_of_nonneg_right (by omega) (by have := h4.per; omega)
    have := h4.per; omega
   refine ⟨i, List.mem_range.2 h3, List.mem_map.2 ⟨q.toNat, List.mem_range.2 ?_, ?_⟩⟩
   ·rw [xW h4.plain h4.kind, show ((q.toNat : Nat) : Int) = q by omega]; omega
   ·unfold VC
    rw [show ((q.toNat : Nat) : Int) = q by omega]
    congr 1; omega
  ·rintro ⟨j, hj, hd⟩
   rw [List.mem_range] at hj
   obtain ⟨k, hk, rfl⟩ := List.mem_map.1 hd
   rw [List.mem_range] at hk
   have hp : jt (l.getD j default) = true ∧ (l.getD j default).kind = 1 := by
    refine Classical.byContradiction fun hc => ?_
    rw [xH hc] at hk; omega
   rw [xW hp.1 hp.2] at hk
   have hjp : j ∈ xu l := List.mem_filter.2 ⟨List.mem_range.2 hj, by simpa using hp.2⟩
   obtain ⟨_, h4⟩ := wd hok hjp
   have h0 : 0 <= (k : Int) * (l.getD j default).period := Int.mul_nonneg (by omega) (by have := h4.per; omega)
   have ho := h4.off
   refine ⟨((l.getD j default).offset + k * (l.getD j default).period).toNat, List.mem_range.2 (by omega), List.mem_map.2 ⟨j, List.mem_filter.2 ⟨hjp, ?_⟩, ?_⟩⟩
   ·rw [decide_eq_true_eq, show ((((l.getD j default).offset + k * (l.getD j default).period).toNat : Nat) : Int) = (l.getD j default).offset + k * (l.getD j default).period by omega]
    rw [XT h4 (by omega), show (l.getD j default).offset + k * (l.getD j default).period - (l.getD j default).offset = k * (l.getD j default).period by omega]
    exact Int.mul_emod_left _ _
   ·unfold VC
    congr 1; omega
theorem Jw {q : Int -> Bool} {i : Int} {xs : List Int} (h : q i = true) : qa q (i :: xs) = i :: qa (fun j => q j && !decide (j = i)) xs := by rw [qa, if_pos h]
theorem VN {q : Int -> Bool} {i : Int} {xs : List Int} (h : q i = false) : qa q (i :: xs) = qa q xs := by rw [qa, if_neg (by rw [h]; decide)]
theorem Vw {α : Type} {L : List α} (d : α) {p k : Nat} {x : α} (hp : p < L.length) : (L.set p x).getD k d = if p = k then x else L.getD k d := by
 rw [List.getD_eq_getElem?_getD, List.getD_eq_getElem?_getD, List.getElem?_set]
 by_cases h : p = k
 ·subst h; rw [if_pos rfl, if_pos hp, if_pos rfl]; rfl
 ·rw [if_neg h, if_neg h]
/-! Sporadic ones. -/
def GR (l : List Task) (gs : List Gt) (LL : List (List Int)) : Prop := gs.length = l.length ∧ LL.length = l.length ∧ ∀ i : Nat, i < l.length -> (gs.getD i default).per = J8 (l.getD i default) ∧ (if (gs.getD i default).op then some (gs.getD i default).last else none) = (LL.getD i []).getLast?
theorem j5z {l : List Task} (hok : okK l = true) {T : Int} {s : S27} {LL : List (List Int)} (h : GR l s.gs LL) {t : Int} (ht : 0 <= t ∧ t < T) (i : Int) : okA T s ⟨t, i⟩ = rpQ l LL t i := by
 obtain ⟨h1, h2, h3⟩ := h
 unfold okA rpQ
 simp only
 rw [h1]
 by_cases hi : 0 <= i ∧ i < l.length
 ·rw [decide_eq_true (show 0 <= i ∧ i < (l.length : Int) ∧ t < T from ⟨hi.1, hi.2, ht.2⟩), decide_eq_true hi, Bool.true_and, Bool.true_and]
  obtain ⟨g1, g2⟩ := h3 i.toNat (by omega)
  have hpl : jt (l.getD i.toNat default) = true := by
   rw [okK, Bool.and_eq_true] at hok
   exact List.all_eq_true.1 hok.2 _ (qN (by omega))
  obtain ⟨_, _, hp, _⟩ := qL hpl
  rw [<- g2]
  unfold JY
  rw [g1]
  unfold J8
  by_cases hk : (l.getD i.toNat default).kind = 2
  ·rw [if_pos ⟨hpl, hk⟩, decide_eq_true hk, decide_eq_true (show 0 <= t ∧ 1 <= (l.getD i.toNat default).period from ⟨ht.1, hp.1⟩), Bool.true_and, Bool.true_and]
   cases (s.gs.getD i.toNat default).op
   ·rfl
   ·simp only [Bool.not_true, Bool.false_or, if_true]
    rw [Bool.eq_iff_iff, decide_eq_true_eq, decide_eq_true_eq]; omega
  ·rw [if_neg (fun h => hk h.2), decide_eq_false hk, decide_eq_false (by omega)]; rfl
 ·rw [decide_eq_false hi, decide_eq_false (fun h => hi ⟨h.1, h.2.1⟩)]; rfl
theorem JX {l : List Task} (hok : okK l = true) {t : Int} : ∀ (D : List Int) (B : Bk) (LL : List (List Int)) (es : List Event), LL.length = l.length ->
  (D.foldl (qg l t) ⟨B, LL, es⟩).LL.length = l.length ∧ ∀ i : Nat, i < l.length -> ((D.foldl (qg l t) ⟨B, LL, es⟩).LL.getD i []).getLast? = if (i : Int) ∈ qa (rpQ l LL t) D then some t else (LL.getD i []).getLast?
 | [], B, LL, es, hL => ⟨hL, fun i hi => by simp [qa]⟩
 | a :: D, B, LL, es, hL => by
  rw [List.foldl_cons]
  cases hq : rpQ l LL t a
  ·have e2 : qg l t ⟨B, LL, es⟩ a = ⟨B, LL, es ++ [⟨t, 2, a, 0, 0⟩]⟩ := by unfold qg; rw [if_neg (by simp only [hq]; decide)]
   rw [e2]
   have := JX hok (t := t) D B LL (es ++ [⟨t, 2, a, 0, 0⟩]) hL
   refine ⟨this.1, fun i hi => ?_⟩
   rw [this.2 i hi, VN hq]
  ·have e2 : qg l t ⟨B, LL, es⟩ a = ⟨jv l B a t, LL.set a.toNat (LL.getD a.toNat [] ++ [t]), es ++ [wG l B t a]⟩ := by unfold qg; rw [if_pos hq]
   rw [e2]
   have hin := zV hq
   have := JX hok (t := t) D (jv l B a t) (LL.set a.toNat (LL.getD a.toNat [] ++ [t])) (es ++ [wG l B t a]) (by rw [List.length_set]; exact hL)
   refine ⟨this.1, fun i hi => ?_⟩
   rw [this.2 i hi, wE D (q := rpQ l (LL.set a.toNat (LL.getD a.toNat [] ++ [t])) t) (q' := fun j => rpQ l LL t j && !decide (j = a)) fun j _ => Qb hok hL hq j]
   have hset : ((LL.set a.toNat (LL.getD a.toNat [] ++ [t])).getD i []).getLast? = if a.toNat = i then some t else (LL.getD i []).getLast? := by
    rw [List.getD_eq_getElem?_getD, List.getElem?_set]
    by_cases e : a.toNat = i
    ·rw [if_pos e, if_pos e, if_pos (by rw [hL]; omega), Option.getD_some]; simp
    ·rw [if_neg e, if_neg e, <- List.getD_eq_getElem?_getD]
   rw [Jw hq, hset]
   by_cases e : a.toNat = i
   ·have e3 : (i : Int) = a := by omega
    rw [if_pos e, if_pos (show (i : Int) ∈ a :: qa (fun j => rpQ l LL t j && !decide (j = a)) D from by rw [e3]; exact List.mem_cons_self)]
    split <;> rfl
   ·have e3 : (i : Int) ≠ a := by omega
    rw [if_neg e]
    by_cases hm : (i : Int) ∈ qa (fun j => rpQ l LL t j && !decide (j = a)) D
    ·rw [if_pos hm, if_pos (List.mem_cons_of_mem _ hm)]
    ·rw [if_neg hm, if_neg (fun h => by rcases List.mem_cons.1 h with h | h; exact e3 h; exact hm h)]
theorem VI {l : List Task} (hok : okK l = true) {T t : Int} (ht : 0 <= t ∧ t < T) : ∀ (D : List Due) (s : S27) (LL : List (List Int)), (∀ d ∈ D, d.at_ = t) -> GR l s.gs LL ->
  (D.foldl (vR T) s).lt = s.lt ++ (qa (rpQ l LL t) (D.map Due.task)).map (fun i => (⟨t, i⟩ : Due)) ∧
  GR l (D.foldl (vR T) s).gs ((D.map Due.task).foldl (qg l t) ⟨xg, LL, []⟩).LL
 | [], s, LL, _, h => ⟨by simp [qa], h⟩
 | d :: D, s, LL, hD, h => by
  have hd : d = ⟨t, d.task⟩ := by have := hD d List.mem_cons_self; cases d; simp only at this; subst this; rfl
  have ho := j5z hok h ht d.task
  rw [List.foldl_cons, List.map_cons, List.foldl_cons]
  have hD' : ∀ x ∈ D, x.at_ = t := fun x hx => hD x (List.mem_cons_of_mem _ hx)
  have hLLirr : ∀ (E : List Int) (B B' : Bk) (L : List (List Int)) (es es' : List Event), (E.foldl (qg l t) ⟨B, L, es⟩).LL = (E.foldl (qg l t) ⟨B', L, es'⟩).LL := by
   intro E
   induction E with
   | nil => intro B B' L es es'; rfl
   | cons a E ih =>
    intro B B' L es es'
    rw [List.foldl_cons, List.foldl_cons]
    cases hq : rpQ l L t a
    ·rw [show qg l t ⟨B, L, es⟩ a = ⟨B, L, es ++ [⟨t, 2, a, 0, 0⟩]⟩ by unfold qg; rw [if_neg (by simp only [hq]; decide)], show qg l t ⟨B', L, es'⟩ a = ⟨B', L, es' ++ [⟨t, 2, a, 0, 0⟩]⟩ by unfold qg; rw [if_neg (by simp only [hq]; decide)]]
     exact ih _ _ _ _ _
    ·rw [show qg l t ⟨B, L, es⟩ a = ⟨jv l B a t, L.set a.toNat (L.getD a.toNat [] ++ [t]), es ++ [wG l B t a]⟩ by unfold qg; rw [if_pos hq], show qg l t ⟨B', L, es'⟩ a = ⟨jv l B' a t, L.set a.toNat (L.getD a.toNat [] ++ [t]), es' ++ [wG l B' t a]⟩ by unfold qg; rw [if_pos hq]]
     exact ih _ _ _ _ _
  cases hq : rpQ l LL t d.task
  ·rw [hq, <- hd] at ho
   have e1 : vR T s d = ⟨s.gs, s.lt, s.rf ++ [d]⟩ := by unfold vR; rw [if_neg (by rw [ho]; decide)]
   have e2 : qg l t ⟨xg, LL, []⟩ d.task = ⟨xg, LL, [⟨t, 2, d.task, 0, 0⟩]⟩ := by unfold qg; rw [if_neg (by simp only [hq]; decide)]; rfl
   obtain ⟨i1, i2⟩ := VI hok ht D ⟨s.gs, s.lt, s.rf ++ [d]⟩ LL hD' h
   rw [e1, e2, i1, hLLirr _ _ xg _ _ []]
   refine ⟨?_, i2⟩
   rw [VN hq]
  ·rw [hq, <- hd] at ho
   have hin := zV hq
   have hat : d.at_ = t := hD d List.mem_cons_self
   have e1 : vR T s d = ⟨s.gs.set d.task.toNat ⟨(s.gs.getD d.task.toNat default).per, t, true⟩, s.lt ++ [⟨t, d.task⟩], s.rf⟩ := by unfold vR; rw [if_pos ho, hat, <- hd]
   have e2 : qg l t ⟨xg, LL, []⟩ d.task = ⟨jv l xg d.task t, LL.set d.task.toNat (LL.getD d.task.toNat [] ++ [t]), [wG l xg t d.task]⟩ := by unfold qg; rw [if_pos hq]; rfl
   obtain ⟨h1, h2, h3⟩ := h
   have hGR : GR l (s.gs.set d.task.toNat ⟨(s.gs.getD d.task.toNat default).per, t, true⟩) (LL.set d.task.toNat (LL.getD d.task.toNat [] ++ [t])) := by
    refine ⟨by rw [List.length_set]; exact h1, by rw [List.length_set]; exact h2, fun i hi => ?_⟩
    rw [Vw _ (by rw [h1]; omega), Vw _ (by rw [h2]; omega)]
    by_cases e : d.task.toNat = i
    ·subst e
     rw [if_pos rfl, if_pos rfl]
     exact ⟨(h3 _ hi).1, by simp⟩
    ·rw [if_neg e, if_neg e]
     exact h3 i hi
   obtain ⟨i1, i2⟩ := VI hok ht D ⟨s.gs.set d.task.toNat ⟨(s.gs.getD d.task.toNat default).per, t, true⟩, s.lt ++ [⟨t, d.task⟩], s.rf⟩ _ hD' hGR
   rw [e1, e2, i1, hLLirr _ _ xg _ _ []]
   refine ⟨?_, i2⟩
   rw [Jw hq, wE (D.map Due.task) (q := rpQ l (LL.set d.task.toNat (LL.getD d.task.toNat [] ++ [t])) t) (q' := fun j => rpQ l LL t j && !decide (j = d.task)) fun j _ => Qb hok h2 hq j]
   simp
theorem GR.last {l : List Task} {gs : List Gt} {LL L2 : List (List Int)} (h : GR l gs LL) (h2 : L2.length = l.length) (h3 : ∀ i : Nat, i < l.length -> (L2.getD i []).getLast? = (LL.getD i []).getLast?) : GR l gs L2 :=
 ⟨h.1, h2, fun i hi => ⟨(h.2.2 i hi).1, by rw [(h.2.2 i hi).2, h3 i hi]⟩⟩
theorem VD {S : List Due} (hs : S.Pairwise leD) (t : Int) : S.filter (fun d => decide (d.at_ < t + 1)) = S.filter (fun d => decide (d.at_ < t)) ++ S.filter (fun d => decide (d.at_ = t)) ∧ S = S.filter (fun d => decide (d.at_ < t)) ++ S.filter (fun d => !decide (d.at_ < t)) := by
 have cut : ∀ R : List Due, R.Pairwise leD -> R = R.filter (fun d => decide (d.at_ < t)) ++ R.filter (fun d => !decide (d.at_ < t)) := fun R hR => by
  have hp : R.Pairwise (fun a b => (fun d : Due => decide (d.at_ < t)) b = true -> (fun d : Due => decide (d.at_ < t)) a = true) := hR.imp fun {a b} hab hb => by
   simp only [decide_eq_true_eq] at hb ⊢
   unfold leD at hab; omega
  obtain ⟨h1, h2⟩ := Jn hp
  rw [<- h1, <- h2, List.takeWhile_append_dropWhile]
 refine ⟨?_, cut S hs⟩
 have h := cut _ (hs.filter fun d => decide (d.at_ < t + 1))
 rw [List.filter_filter, List.filter_filter] at h
 rw [h]
 congr 1
 ·refine List.filter_congr fun d _ => ?_
  rw [Bool.eq_iff_iff, Bool.and_eq_true, decide_eq_true_eq, decide_eq_true_eq]; omega
 ·refine List.filter_congr fun d _ => ?_
  rw [Bool.eq_iff_iff, Bool.and_eq_true, Bool.not_eq_true', decide_eq_false_iff_not, decide_eq_true_eq, decide_eq_true_eq]; omega
theorem XV {T : Int} : ∀ (D : List Due) (s : S27), (∀ d ∈ D, d.at_ < 0 ∨ T <= d.at_) -> (D.foldl (vR T) s).lt = s.lt ∧ (D.foldl (vR T) s).gs = s.gs
 | [], s, _ => ⟨rfl, rfl⟩
 | d :: D, s, h => by
  have hd := h d List.mem_cons_self
  have e : vR T s d = ⟨s.gs, s.lt, s.rf ++ [d]⟩ := by
   unfold vR
   rw [if_neg]
   unfold okA JY
   rcases hd with hd | hd
   ·rw [decide_eq_false (show ¬ (0 <= d.at_ ∧ 1 <= (s.gs.getD d.task.toNat default).per) by omega)]; simp
   ·rw [decide_eq_false (show ¬ (0 <= d.task ∧ d.task < s.gs.length ∧ d.at_ < T) by omega)]; simp
  rw [List.foldl_cons, e]
  exact XV D ⟨s.gs, s.lt, s.rf ++ [d]⟩ fun x hx => h x (List.mem_cons_of_mem _ hx)
def Q3 (l : List Task) (asks : List Due) (dm : List (List Int)) (S : List Due) (T : Nat) : List Due := (List.range T).flatMap fun u : Nat => (qa (rpQ l (qP l asks dm u).LL u) ((S.filter fun d => decide (d.at_ = (u : Int))).map Due.task)).map fun i => (⟨u, i⟩ : Due)
theorem YD {l : List Task} (hok : okK l = true) (asks : List Due) (dm : List (List Int)) {T : Nat} {S : List Due} (hS : S.Pairwise leD) (hp : S.Perm asks) (s0 : S27) (h0 : GR l s0.gs (List.replicate l.length [])) : ∀ t : Nat, t <= T -> t <= 100000 ->
  ((S.filter fun d => decide (d.at_ < (t : Int))).foldl (vR T) s0).lt = s0.lt ++ Q3 l asks dm S t ∧ GR l ((S.filter fun d => decide (d.at_ < (t : Int))).foldl (vR T) s0).gs (qP l asks dm t).LL
 | 0, _, _ => by
  obtain ⟨h1, h2⟩ := XV (T := T) (S.filter fun d => decide (d.at_ < ((0 : Nat) : Int))) s0 fun d hd => .inl (by have := (List.mem_filter.1 hd).2; simpa using this)
  rw [h1, h2]
  exact ⟨by simp [Q3], h0⟩
 | t + 1, ht, hb => by
  obtain ⟨i1, i2⟩ := YD hok asks dm (T := T) hS hp s0 h0 t (by omega) (by omega)
  have hc := (VD hS (t : Int)).1
  rw [show (((t + 1 : Nat)) : Int) = (t : Int) + 1 by push_cast; rfl, hc, List.foldl_append]
  generalize (S.filter fun d => decide (d.at_ < (t : Int))).foldl (vR T) s0 = s at i1 i2 ⊢
  have h8 : l.length <= 8 := by rw [okK, Bool.and_eq_true, decide_eq_true_eq] at hok; omega
  have hri := (ym h8 asks dm t (by omega)).ri
  obtain ⟨b1, b2⟩ := VI hok (T := (T : Int)) (t := (t : Int)) ⟨by omega, by omega⟩ (S.filter fun d => decide (d.at_ = (t : Int))) s (qP l asks dm t).LL (fun d hd => by simpa using (List.mem_filter.1 hd).2) i2
  refine ⟨?_, ?_⟩
  ·rw [b1, i1]
   unfold Q3
   rw [List.range_succ, List.flatMap_append]
   simp
  ·rw [xM]
   have e : (QA l asks dm (qP l asks dm t) t).LL = (qU l (qP l asks dm t).B (qP l asks dm t).LL t (jY asks t)).LL := rfl
   rw [e]
   unfold qU
   simp only
   have a1 := JX hok (t := t) (jY asks t) ((List.range l.length).foldl (ye l t) (qQ (qP l asks dm t).B t)).1 (qP l asks dm t).LL ((List.range l.length).foldl (ye l t) (qQ (qP l asks dm t).B t)).2 hri.len
   have a2 := JX hok (t := t) ((S.filter fun d => decide (d.at_ = (t : Int))).map Due.task) xg (qP l asks dm t).LL [] hri.len
   refine b2.last a1.1 fun i hi => ?_
   rw [a1.2 i hi, a2.2 i hi]
   have hm : ((i : Int) ∈ qa (rpQ l (qP l asks dm t).LL t) (jY asks t)) ↔ ((i : Int) ∈ qa (rpQ l (qP l asks dm t).LL t) ((S.filter fun d => decide (d.at_ = (t : Int))).map Due.task)) := by
    rw [vh, vh]
    unfold jY
    rw [((hp.filter fun d => decide (d.at_ = (t : Int))).map Due.task).mem_iff]
   by_cases hx : (i : Int) ∈ qa (rpQ l (qP l asks dm t).LL t) (jY asks t)
   ·rw [if_pos hx, if_pos (hm.1 hx)]
   ·rw [if_neg hx, if_neg (fun h => hx (hm.2 h))]
theorem j28 {l : List Task} (hok : okK l = true) (asks : List Due) (dm : List (List Int)) (T : Nat) (hT : T <= 100000) : jO (vl l asks dm T) = (zj l asks T).1 := by
 have hgr : GR l (qz l) (List.replicate l.length []) := by
  refine ⟨by simp [qz], List.length_replicate, fun i hi => ?_⟩
  have e1 : (qz l).getD i default = ⟨J8 (l.getD i default), 0, false⟩ := by
   unfold qz
   rw [List.getD_eq_getElem?_getD, List.getElem?_map, List.getElem?_eq_getElem hi, List.getD_eq_getElem?_getD, List.getElem?_eq_getElem hi]; rfl
  have e2 : (List.replicate l.length ([] : List Int)).getD i [] = [] := by rw [List.getD_eq_getElem?_getD, List.getElem?_replicate, if_pos hi]; rfl
  rw [e1, e2]
  exact ⟨rfl, rfl⟩
 have hS := wD asks
 obtain ⟨h1, h2⟩ := YD hok asks dm (T := T) hS (qK asks) ⟨qz l, xZ l T l.length, []⟩ hgr T (Nat.le_refl _) hT
 have hrun : (yg l (jO asks) T).lt = xZ l T l.length ++ Q3 l asks dm (jO asks) T := by
  unfold yg
  conv => lhs; rw [(VD hS (T : Int)).2]
  rw [List.foldl_append, (XV (T := T) ((jO asks).filter fun d => !decide (d.at_ < (T : Int))) _ fun d hd => .inr (by have := (List.mem_filter.1 hd).2; simp at this; omega)).1, h1]
 unfold zj
 rw [hrun]
 refine z1 ?_
 have key : ∀ t : Nat, (vl l asks dm t).Perm (ZR l t ++ Q3 l asks dm (jO asks) t) := by
  intro t
  induction t with
  | zero => exact List.Perm.refl _
  | succ t ih =>
   have e1 : vl l asks dm (t + 1) = vl l asks dm t ++ yi l (qP l asks dm t).LL asks t := by unfold vl; rw [List.range_succ, List.flatMap_append]; simp
   have e2 : ZR l (t + 1) = ZR l t ++ (vr l t).map (fun i : Nat => (⟨(t : Int), i⟩ : Due)) := by unfold ZR; rw [List.range_succ, List.flatMap_append]; simp
   have e3 : Q3 l asks dm (jO asks) (t + 1) = Q3 l asks dm (jO asks) t ++ (qa (rpQ l (qP l asks dm t).LL t) (((jO asks).filter fun d => decide (d.at_ = (t : Int))).map Due.task)).map (fun i => (⟨(t : Int), i⟩ : Due)) := by unfold Q3; rw [List.range_succ, List.flatMap_append]; simp
   rw [e1, e2, e3]
   unfold yi
   have hpp : ((qa (rpQ l (qP l asks dm t).LL t) (jY asks t)).map fun i => (⟨(t : Int), i⟩ : Due)).Perm ((qa (rpQ l (qP l asks dm t).LL t) (((jO asks).filter fun d => decide (d.at_ = (t : Int))).map Due.task)).map fun i => (⟨(t : Int), i⟩ : Due)) :=
    (Zg (((qK asks).symm.filter fun d => decide (d.at_ = (t : Int))).map Due.task) _).map _
   generalize ((qa (rpQ l (qP l asks dm t).LL t) (jY asks t)).map fun i => (⟨(t : Int), i⟩ : Due)) = b at hpp ⊢
   generalize ((qa (rpQ l (qP l asks dm t).LL t) (((jO asks).filter fun d => decide (d.at_ = (t : Int))).map Due.task)).map fun i => (⟨(t : Int), i⟩ : Due)) = b' at hpp ⊢
   generalize (vr l t).map (fun i : Nat => (⟨(t : Int), i⟩ : Due)) = a
   refine (ih.append ((List.Perm.refl a).append hpp)).trans ?_
   rw [List.append_assoc, List.append_assoc]
   refine List.Perm.append_left _ ?_
   rw [<- List.append_assoc, <- List.append_assoc]
   exact List.Perm.append_right _ List.perm_append_comm
 exact (key T).trans ((j0p hok T).append_right _)
structure PS where
 no : Int
 free : Int
 T : List Int
 m1 : List (Int × Job)
 m2 : List (Int × Due)
def ql (l : List Task) (i no : Int) (d : Due) : Job := ⟨i, no, d.at_, Vc d.at_ (l.getD i.toNat default).deadline, -1, -1, 0, false⟩
def yx (l : List Task) (dm : List (List Int)) (i : Int) (s : PS) (k : Nat) (d : Due) : PS :=
 if d.task ≠ i then s else if s.free < 0 ∨ d.at_ < s.free then { s with m2 := jq s.m2 k d }
 else { s with no := s.no + 1, free := (zc dm s.T (ql l i s.no d)).2.fin, T := (zc dm s.T (ql l i s.no d)).1, m1 := jq s.m1 k (zc dm s.T (ql l i s.no d)).2 }
def qV (l : List Task) (dm : List (List Int)) (i : Int) (lt : List Due) (s : PS) : Nat -> PS
 | 0 => s
 | k + 1 => yx l dm i (qV l dm i lt s k) k (lt.getD k default)
theorem ZQ (l : List Task) (dm : List (List Int)) (i : Int) (s : PS) (k : Nat) (d : Due) : (yx l dm i s k d).T.length = s.T.length := by
 unfold yx
 split
 ·rfl
 ·split
  ·rfl
  ·simp only [zc]; exact zR _ _ _ _ _
theorem yk (l : List Task) (dm : List (List Int)) (i : Int) (lt : List Due) (s : PS) : ∀ k, (qV l dm i lt s k).T.length = s.T.length
 | 0 => rfl
 | k + 1 => by rw [qV, ZQ, yk]
theorem VQ (l : List Task) (dm : List (List Int)) (i : Int) (lt : List Due) (s : PS) (h0 : 0 <= s.no) : ∀ k, 0 <= (qV l dm i lt s k).no ∧ (qV l dm i lt s k).no <= s.no + k
 | 0 => ⟨h0, by simp [qV]⟩
 | k + 1 => by
  have ih := VQ l dm i lt s h0 k
  rw [qV, yx]
  split
  ·omega
  ·split
   ·simp only; omega
   ·simp only; omega
set_option maxHeartbeats 4000000 in
theorem ZL (l : List Task) (dm : List (List Int)) (i : Int) (lt : List Due) (T : List Int) (m1 : List (Int × Job)) (m2 : List (Int × Due)) (hi : 0 <= i ∧ i < l.length) (hl : l.length <= 100000) (hT : T.length <= 100000) (hlt : lt.length <= 100000) (hd : ∀ d ∈ lt, 0 <= d.at_ ∧ d.at_ <= T.length) :
  FnH Tryz.prog 100 [.ptr 0 0, .int .i64 i, .lst 2 (lt.map jD)] (bdH l dm T m1 m2) (fun r h' => r = .tup [] ∧ h' = bdH l dm (qV l dm i lt ⟨0, 0, T, m1, m2⟩ lt.length).T (qV l dm i lt ⟨0, 0, T, m1, m2⟩ lt.length).m1 (qV l dm i lt ⟨0, 0, T, m1, m2⟩ lt.length).m2) := by
 refine qo Tryz.func100 (j5 (by kernel_rfl)) rfl rfl ?_
 repeat' (first | refine sT ?_ | refine sQ ?_ ?_ | intro hc | exact trivial)
 refine jk (fun k : Nat => ([(0, .ptr 0 0), (1, .int .i64 i), (6, .int .i64 (qV l dm i lt ⟨0, 0, T, m1, m2⟩ k).no), (7, .int .i64 (qV l dm i lt ⟨0, 0, T, m1, m2⟩ k).free), (11, .lst 2 (lt.map jD)), (12, .int .i64 lt.length), (13, .int .i64 k)],
   bdH l dm (qV l dm i lt ⟨0, 0, T, m1, m2⟩ k).T (qV l dm i lt ⟨0, 0, T, m1, m2⟩ k).m1 (qV l dm i lt ⟨0, 0, T, m1, m2⟩ k).m2))
  (fun k => k <= lt.length) (fun k => lt.length - k) 0 (Nat.zero_le _) les leh (fun k hk => ?_)
 rcases Nat.lt_or_eq_of_le hk with hkl | hkl
 ·have hlen := yk l dm i lt ⟨0, 0, T, m1, m2⟩ k
  have hno := VQ l dm i lt ⟨0, 0, T, m1, m2⟩ (Int.le_refl 0) k
  have hnx : qV l dm i lt ⟨0, 0, T, m1, m2⟩ (k + 1) = yx l dm i (qV l dm i lt ⟨0, 0, T, m1, m2⟩ k) k (lt.getD k default) := rfl
  have hdk := hd (lt.getD k default) (by simp [hkl])
  generalize qV l dm i lt ⟨0, 0, T, m1, m2⟩ k = s at *
  obtain ⟨d, hdd⟩ : ∃ d, lt.getD k default = d := ⟨_, rfl⟩
  rw [hdd] at hnx hdk
  obtain ⟨no, free, T', m1', m2'⟩ := s
  simp only at hlen hno ⊢
  by_cases h1 : d.task = i
  case neg =>
   rw [yx, if_pos h1] at hnx
   repeat' (first | refine sA ?_ | (show O _ _ _ _ _ _ _; first | refine jR (id := 9) rfl rfl rfl rfl rfl rfl rfl ?_) | ((first | apply kM | apply kN); (iterate 3 (· exact rfl)); (· first | (show Y _ ⟨_, .indexAddr _ _ _, _, _, _, _⟩ _ _ _; first | exact Y.mk (qe (hdd) rfl rfl rfl rfl rfl (by omega))))) | refine sY ?_ | refine sG ?_ | refine sQ ?_ ?_ | intro hc | exact trivial)
   all_goals first | (exfalso; omega) | skip
   all_goals exact ⟨k + 1, by omega, by omega, by simp only [hnx]; exact les, by simp only [hnx]; exact leh⟩
  rw [yx, if_neg (not_not_intro h1)] at hnx
  by_cases h2 : free < 0 ∨ d.at_ < free
  ·rw [if_pos h2] at hnx
   repeat' (first | refine sB ?_ | (show O _ _ _ _ _ _ _; first | refine jR (id := 9) rfl rfl rfl rfl rfl rfl rfl ?_) | ((first | apply kM | apply kN); (iterate 3 (· exact rfl)); (· first | (show Y _ ⟨_, .indexAddr _ _ _, _, _, _, _⟩ _ _ _; first | exact Y.mk (qe (hdd) rfl rfl rfl rfl rfl (by omega))))) | refine sY ?_ | refine sG ?_ | refine sQ ?_ ?_ | intro hc | exact trivial)
   all_goals first | (exfalso; omega) | skip
   all_goals refine zt (H := fun y : List (Int × Due) => bdH l dm T' m1' y ++ [(9, .blk 60 (jD d))]) (ok := fun _ => True) (tn := [6]) (ln := []) m2' leh (by kernel_rfl) (by kernel_rfl) (by kernel_rfl) trivial ?_
   all_goals repeat' (first | refine sA ?_ | refine sY ?_ | (show C _ _ _ _ _ _ _ _ _ _ _; first | refine JZ ?_ | (apply xj; (· exact rfl); (· exact rfl); (· intro y' hy'; first | exact ya)) | (apply JI; (· exact rfl); (· exact rfl); (· exact rfl); (· first | exact ya)) | refine wP rfl rfl rfl ?_) | refine sG ?_ | ((first | refine kQ rfl rfl ?_ ?_ | refine kR rfl rfl rfl rfl rfl ?_ ?_ | refine kS rfl rfl rfl ?_ ?_ | refine xh rfl rfl rfl ?_ ?_) <;> intro hc <;> (try simp only [KL, sL, reduceCtorEq] at hc) <;> (try (have hT : True := hc; clear hT hc)) <;> (try (exfalso; omega))))
   all_goals refine Yl (x' := jq m2' k d) rfl rfl trivial (TuO.post (xV (Y8 d rfl rfl rfl rfl rfl rfl rfl) rfl) leh) ?_
   all_goals repeat' (first | refine sA ?_ | refine sY ?_ | (show C _ _ _ _ _ _ _ _ _ _ _; first | refine JZ ?_ | (apply xj; (· exact rfl); (· exact rfl); (· intro y' hy'; first | exact ya)) | (apply JI; (· exact rfl); (· exact rfl); (· exact rfl); (· first | exact ya)) | refine wP rfl rfl rfl ?_) | refine sG ?_ | ((first | refine kQ rfl rfl ?_ ?_ | refine kR rfl rfl rfl rfl rfl ?_ ?_ | refine kS rfl rfl rfl ?_ ?_ | refine xh rfl rfl rfl ?_ ?_) <;> intro hc <;> (try simp only [KL, sL, reduceCtorEq] at hc) <;> (try (have hT : True := hc; clear hT hc)) <;> (try (exfalso; omega))))
   all_goals exact ⟨k + 1, by omega, by omega, by simp only [hnx]; exact les, by simp only [hnx]; exact leh⟩
  ·rw [if_neg h2] at hnx
   have hg := j0x l dm T' m1' m2' (ql l i no d) hi.1 hno.1 ⟨hdk.1, by simp only [ql]; omega⟩ (by omega) rfl rfl
   repeat' (first | refine sB ?_ | (show O _ _ _ _ _ _ _; first | refine jR (id := 9) rfl rfl rfl rfl rfl rfl rfl ?_) | ((first | apply kM | apply kN); (iterate 3 (· exact rfl)); (· first | (show Y _ ⟨_, .indexAddr _ _ _, _, _, _, _⟩ _ _ _; first | exact Y.mk (qe (hdd) rfl rfl rfl rfl rfl (by omega))))) | refine sY ?_ | refine sG ?_ | refine sQ ?_ ?_ | intro hc | exact trivial)
   all_goals first | (exfalso; omega) | skip
   obtain ⟨g, hgg⟩ : ∃ g, g = zc dm T' (ql l i no d) := ⟨_, rfl⟩
   rw [<- hgg] at hg hnx
   clear hgg
   obtain ⟨T2, j2⟩ := g
   simp only at hg hnx
   refine j62 (H := fun (y : List Int × List AV) (f : Bool) => bdH l dm y.1 m1' m2' ++ [(9, .blk 60 (jD d))] ++ (bif f then [(10, .blk 71 y.2)] else [])) (ok := fun _ => True) (ok1 := fun y => y.2 = vX ⟨0, 0, 0, 0, 0, 0, 0, false⟩) (tn := [17, 19]) (ln := []) (c := 18) (N := 10) (T', vX ⟨0, 0, 0, 0, 0, 0, 0, false⟩) leh (by kernel_rfl) (by kernel_rfl) (by kernel_rfl) trivial rfl rfl rfl rfl ?_
   repeat' (first | refine sA ?_ | refine sY ?_ | refine sC (Jf _ _) ?_ | (show NW _ _ _ _ _ _ _ _ _ _ _ _ _ _; first | refine j5u ?_ | (apply j1n; (· exact rfl); (· exact rfl); (· exact rfl); (· intro y' f' hy'; first | exact ya | exact q_c (Jf _ _) rfl); (· first | exact rfl | kernel_rfl))) | refine sG ?_ | refine sQ ?_ ?_ | intro hc | exact trivial)
   (refine j70 (x' := (T2, vX ⟨0, 0, 0, 0, 0, 0, 0, false⟩)) (v := .agg (vX j2)) rfl rfl rfl trivial rfl (fun f _ => ?_) (by first | exact rfl | kernel_rfl) ?_; (· cases f <;> exact j0G (fun i => i) (hg) rfl leh rfl rfl rfl rfl rfl rfl leh))
   refine j6T (v := .ptr 10 0) rfl rfl (fun y hy1 => ?_) ?_
   ·obtain ⟨y1, y2⟩ := y
    simp only at hy1
    subst hy1
    exact TuN.post (j3i rfl rfl rfl rfl rfl) leh
   repeat' (first | refine sA ?_ | refine sY ?_ | (show NW _ _ _ _ _ _ _ _ _ _ _ _ _ _; first | refine j5u ?_ | (apply j1n; (· exact rfl); (· exact rfl); (· exact rfl); (· intro y' f' hy'; first | exact ya); (· first | exact rfl | kernel_rfl))) | refine sG ?_ | refine sQ ?_ ?_ | intro hc | exact trivial)
   refine j6h (x' := (T2, vX j2)) rfl rfl rfl trivial (by first | exact rfl | kernel_rfl) (TuO.post (xV (VP rfl rfl rfl rfl rfl rfl (Nat.le_of_ble_eq_true rfl)) rfl) leh) (by first | exact rfl | kernel_rfl) ?_
   repeat' (first | refine sB ?_ | refine sY ?_ | (show NW _ _ _ _ _ _ _ _ _ _ _ _ _ _; first | refine j5u ?_ | (apply j1n; (· exact rfl); (· exact rfl); (· exact rfl); (· intro y' f' hy'; first | exact ya); (· first | exact rfl | kernel_rfl))) | refine sG ?_ | refine sQ ?_ ?_ | intro hc | exact trivial)
   refine zt (H := fun y : List (Int × Job) => bdH l dm T2 y m2' ++ [(9, .blk 60 (jD d)), (10, .blk 71 (vX j2))]) (ok := fun _ => True) (tn := [6]) (ln := []) m1' leh (by kernel_rfl) (by kernel_rfl) (by kernel_rfl) trivial ?_
   repeat' (first | refine sA ?_ | refine sY ?_ | (show C _ _ _ _ _ _ _ _ _ _ _; first | refine JZ ?_ | (apply xj; (· exact rfl); (· exact rfl); (· intro y' hy'; first | exact ya)) | (apply JI; (· exact rfl); (· exact rfl); (· exact rfl); (· first | exact ya)) | refine wP rfl rfl rfl ?_) | refine sG ?_ | ((first | refine kQ rfl rfl ?_ ?_ | refine kR rfl rfl rfl rfl rfl ?_ ?_ | refine kS rfl rfl rfl ?_ ?_ | refine xh rfl rfl rfl ?_ ?_) <;> intro hc <;> (try simp only [KL, sL, reduceCtorEq] at hc) <;> (try (have hT : True := hc; clear hT hc)) <;> (try (exfalso; omega))))
   refine Yl (x' := jq m1' k j2) rfl rfl trivial (TuO.post (xV (Y8 j2 rfl rfl rfl rfl rfl rfl rfl) rfl) leh) ?_
   repeat' (first | refine sA ?_ | refine sY ?_ | (show C _ _ _ _ _ _ _ _ _ _ _; first | refine JZ ?_ | (apply xj; (· exact rfl); (· exact rfl); (· intro y' hy'; first | exact ya)) | (apply JI; (· exact rfl); (· exact rfl); (· exact rfl); (· first | exact ya)) | refine wP rfl rfl rfl ?_) | refine sG ?_ | ((first | refine kQ rfl rfl ?_ ?_ | refine kR rfl rfl rfl rfl rfl ?_ ?_ | refine kS rfl rfl rfl ?_ ?_ | refine xh rfl rfl rfl ?_ ?_) <;> intro hc <;> (try simp only [KL, sL, reduceCtorEq] at hc) <;> (try (have hT : True := hc; clear hT hc)) <;> (try (exfalso; omega))))
   exact ⟨k + 1, by omega, by omega, by simp only [hnx]; exact les, by simp only [hnx]; exact leh⟩
 ·subst hkl
  repeat' (first | refine sT ?_ | refine sQ ?_ ?_ | intro hc | exact trivial)
  all_goals first | (exfalso; omega) | skip
  exact vb rfl ⟨rfl, rfl⟩
end Go.Proofs.YtfjoaeghnfkdlaaGreatDoor
