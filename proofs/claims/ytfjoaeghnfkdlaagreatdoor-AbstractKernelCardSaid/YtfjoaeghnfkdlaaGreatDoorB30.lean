/- The book of jobs beside the plan of a task: plain. No condition. -/
import Derived.Test.YtfjoaeghnfkdlaaGreatDoorB29
import Derived.Test.YtfjoaeghnfkdlaaGreatDoorB17
set_option linter.unusedSimpArgs false
set_option linter.unusedVariables false
set_option maxHeartbeats 1000000
set_option maxRecDepth 100000
namespace Go.Proofs.YtfjoaeghnfkdlaaGreatDoor
open Go.RowKit
def vG (j : Job) : Job := { j with missed := false }
structure QF (i : Int) (q : QS) : Prop where
 fin : ∀ p ∈ q.js, 0 <= p.2.fin
 cur : ∀ k j, q.cur = some (k, j) -> j.fin = -1 ∧ q.free = -1
 idle : q.cur = none -> 0 <= q.free
 no : q.no = ((q.js ++ q.cur.toList).length : Nat)
 task : ∀ p ∈ q.js ++ q.cur.toList, p.2.task = i ∧ p.2.missed = false
structure BL (l : List Task) (n : Nat) (id : Nat -> Int) (B : Bk) (Q : Nat -> QS) (JL : List (Nat × Job)) (OL : List (Nat × Due)) : Prop where
 good : GoodB l n B
 all : B.all.map vG = JL.map Prod.snd
 ovs : B.overs = OL.map Prod.snd
 qf : ∀ r < l.length, QF (id r) (Q r)
 js : ∀ r < l.length, (JL.filter fun p => decide (p.2.task = id r)) = (Q r).js ++ (Q r).cur.toList
 ov : ∀ r < l.length, (OL.filter fun p => decide (p.2.task = id r)) = (Q r).ov
 ot : ∀ p ∈ OL, ∃ r < l.length, p.2.task = id r
section
variable {l : List Task} {n : Nat} {id : Nat -> Int} {B : Bk} {Q : Nat -> QS} {JL : List (Nat × Job)} {OL : List (Nat × Due)}
theorem BL.len (h : BL l n id B Q JL OL) : JL.length = B.all.length := by
 have := congrArg List.length h.all
 simpa using this.symm
theorem BL.at_ (h : BL l n id B Q JL OL) {k : Nat} (hk : k < B.all.length) : ∃ p, JL[k]? = some p ∧ p.2 = vG (B.all.getD k default) := by
 have hk' : k < JL.length := by rw [h.len]; exact hk
 refine ⟨JL[k], List.getElem?_eq_getElem hk', ?_⟩
 have := congrArg (fun x : List Job => x[k]?) h.all
 simp [hk, hk'] at this
 simp [hk, this]
theorem BL.act (h : BL l n id B Q JL OL) {r : Nat} (hr : r < l.length) : jm B.act (id r) = (Q r).cur.isSome := by
 have hq := h.qf r hr
 have hj := h.js r hr
 cases hc : (Q r).cur with
 | some z =>
  obtain ⟨k, j⟩ := z
  have hm : (k, j) ∈ JL.filter fun p => decide (p.2.task = id r) := by rw [hj, hc]; simp
  rw [List.mem_filter] at hm
  obtain ⟨m, hm1, hm2⟩ := List.getElem_of_mem hm.1
  have hm1' : m < B.all.length := by rw [<- h.len]; exact hm1
  obtain ⟨p, hp1, hp2⟩ := h.at_ hm1'
  rw [List.getElem?_eq_getElem hm1, hm2] at hp1
  cases hp1
  simp only at hp2
  have hf := (hq.cur k j hc).1
  have h1 := h.good.opn m hm1' (by
   have : (vG (B.all.getD m default)).fin = j.fin := by rw [<- hp2]
   simp only [vG] at this
   omega)
  have h2 : (B.all.getD m default).task = id r := by
   have : (vG (B.all.getD m default)).task = j.task := by rw [<- hp2]
   simp only [vG] at this
   rw [this]; simpa using hm.2
  rw [h2] at h1
  rw [h1.1]; rfl
 | none =>
  cases hn : jm B.act (id r) with
  | false => rfl
  | true =>
   exfalso
   obtain ⟨g1, g2, g3, g4⟩ := h.good.pos hn
   obtain ⟨p, hp1, hp2⟩ := h.at_ g2
   have hpm : p ∈ JL := List.mem_of_getElem? hp1
   have e : p.2 = vG (jH B (id r)) := hp2
   have hpf : p ∈ JL.filter fun p => decide (p.2.task = id r) := List.mem_filter.2 ⟨hpm, decide_eq_true (by rw [e]; exact g3)⟩
   rw [hj, hc] at hpf
   simp only [Option.toList, List.append_nil] at hpf
   have := hq.fin p hpf
   rw [e] at this
   simp only [vG] at this
   omega
theorem ZH (JL : List (Nat × Job)) (i : Int) : ((JL.filter fun p => decide (p.2.task = i)).length : Int) = yZ (JL.map Prod.snd) i := by
 unfold yZ
 rw [List.filter_map, List.length_map]; rfl
theorem j1X (js : List Job) (i : Int) : yZ (js.map vG) i = yZ js i := by
 unfold yZ
 rw [List.filter_map, List.length_map]; rfl
theorem BL.num (h : BL l n id B Q JL OL) {r : Nat} (hr : r < l.length) : noB B (id r) = (Q r).no := by
 rw [(h.qf r hr).no, <- h.js r hr, h.good.cnt, <- j1X, h.all, ZH]
theorem QF.rS {i : Int} {q : QS} (h : QF i q) (p : Nat × Due) : QF i (rS l i q p) := by
 unfold Go.Proofs.YtfjoaeghnfkdlaaGreatDoor.rS
 split
 ·exact ⟨h.fin, h.cur, h.idle, h.no, h.task⟩
 ·rename_i hf
  have hc : q.cur = none := by
   cases hq : q.cur with
   | none => rfl
   | some z => obtain ⟨k, j⟩ := z; have := (h.cur k j hq).2; omega
  have hno := h.no
  have htk := h.task
  rw [hc] at hno htk
  simp only [Option.toList, List.append_nil] at hno htk
  refine ⟨h.fin, fun k j e => by cases e; exact ⟨rfl, rfl⟩, fun e => (by cases e), ?_, fun z hz => ?_⟩
  ·simp only [Option.toList, List.length_append, List.length_cons, List.length_nil, hno]; omega
  ·simp only [Option.toList] at hz
   rcases List.mem_append.1 hz with hz | hz
   ·exact htk z hz
   ·rw [List.mem_singleton] at hz; subst hz; exact ⟨rfl, rfl⟩
theorem BL.rel (h : BL l n id B Q JL OL) (hinj : ∀ r r', r < l.length -> r' < l.length -> id r = id r' -> r = r') {r : Nat} (hr : r < l.length) (hid : 0 <= id r ∧ id r < l.length) {t : Int} (ht : inT t = t) (k : Nat) :
  ∃ JL' OL', BL l (n + 1) id (jv l B (id r) t) (fun q => if q = r then rS l (id r) (Q r) (k, ⟨t, id r⟩) else Q q) JL' OL' ∧ (JL' = JL ∧ OL' = OL ++ [(k, ⟨t, id r⟩)] ∨ OL' = OL ∧ ∃ j, JL' = JL ++ [(k, j)]) := by
 have ha := h.act hr
 have hg := h.good.rel (id r) t
 have hq := h.qf r hr
 have hns : ∀ q, q ≠ r -> q < l.length -> ¬ id r = id q := fun q hq1 hq2 e => hq1 (hinj r q hr hq2 e).symm
 unfold jv at hg ⊢
 rw [if_neg (by omega)] at hg ⊢
 cases hc : (Q r).cur with
 | some z =>
  rw [hc] at ha
  rw [if_pos (by rw [ha]; rfl)] at hg ⊢
  obtain ⟨kk, jj⟩ := z
  have hfr := (hq.cur kk jj hc).2
  have e : rS l (id r) (Q r) (k, ⟨t, id r⟩) = { Q r with ov := (Q r).ov ++ [(k, ⟨t, id r⟩)] } := by unfold rS; rw [if_pos (by omega)]
  refine ⟨JL, OL ++ [(k, ⟨t, id r⟩)], ⟨hg, h.all, ?_, fun q hq2 => ?_, fun q hq2 => ?_, fun q hq2 => ?_, fun p hp => (List.mem_append.1 hp).elim (h.ot p) fun hp => ⟨r, hr, by rw [List.mem_singleton.1 hp]⟩⟩, .inl ⟨rfl, rfl⟩⟩
  ·simp only [h.ovs, List.map_append, List.map_cons, List.map_nil, ht]
  ·split
   ·rename_i e1; subst e1; exact hq.rS _
   ·exact h.qf q hq2
  ·split
   ·rename_i e1; subst e1; rw [e]; exact h.js q hq2
   ·exact h.js q hq2
  ·rw [List.filter_append, h.ov q hq2, List.filter_cons, List.filter_nil]
   by_cases e1 : q = r
   ·subst e1
    rw [if_pos (decide_eq_true rfl), if_pos rfl, e]
   ·rw [if_neg (fun c => hns q e1 hq2 (of_decide_eq_true c)), if_neg e1, List.append_nil]
 | none =>
  rw [hc] at ha
  rw [if_neg (by rw [ha]; simp)] at hg ⊢
  have hfr := hq.idle hc
  have hnum := h.num hr
  have e : rS l (id r) (Q r) (k, ⟨t, id r⟩) = { Q r with no := (Q r).no + 1, free := -1, cur := some (k, ql l (id r) (Q r).no ⟨t, id r⟩) } := by unfold rS; rw [if_neg (by omega)]
  have ej : wK l B (id r) t = ql l (id r) (Q r).no ⟨t, id r⟩ := by unfold wK ql; rw [ht, hnum]
  refine ⟨JL ++ [(k, ql l (id r) (Q r).no ⟨t, id r⟩)], OL, ⟨hg, ?_, h.ovs, fun q hq2 => ?_, fun q hq2 => ?_, fun q hq2 => ?_, h.ot⟩, .inr ⟨rfl, _, rfl⟩⟩
  ·simp only [List.map_append, h.all, List.map_cons, List.map_nil, ej]; rfl
  ·split
   ·rename_i e1; subst e1; exact hq.rS _
   ·exact h.qf q hq2
  ·rw [List.filter_append, h.js q hq2, List.filter_cons, List.filter_nil]
   by_cases e1 : q = r
   ·subst e1
    rw [if_pos (show decide ((k, ql l (id q) (Q q).no ⟨t, id q⟩).2.task = id q) = true from decide_eq_true rfl), if_pos rfl, e, hc]
    simp only [Option.toList, List.append_nil]
   ·rw [if_neg (show ¬ decide ((k, ql l (id r) (Q r).no ⟨t, id r⟩).2.task = id q) = true from fun c => hns q e1 hq2 (of_decide_eq_true c)), if_neg e1, List.append_nil]
  ·split
   ·rename_i e1; subst e1; rw [e]; exact h.ov q hq2
   ·exact h.ov q hq2
theorem BL.place (h : BL l n id B Q JL OL) {r : Nat} (hr : r < l.length) {k : Nat} {j : Job} (hc : (Q r).cur = some (k, j)) :
  ∃ A C, JL = A ++ (k, j) :: C ∧ A.length = qh B (id r) ∧ vG (jH B (id r)) = j ∧ (A.filter fun p => decide (p.2.task = id r)) = (Q r).js ∧ (C.filter fun p => decide (p.2.task = id r)) = [] := by
 have hq := h.qf r hr
 have hj := h.js r hr
 have ha := h.act hr
 rw [hc] at hj ha
 obtain ⟨g1, g2, g3, g4⟩ := h.good.pos ha
 obtain ⟨p, hp1, hp2⟩ := h.at_ g2
 have e : p.2 = vG (jH B (id r)) := hp2
 have hpl : qh B (id r) < JL.length := by rw [h.len]; exact g2
 have hpe : JL[qh B (id r)] = p := by rw [List.getElem?_eq_getElem hpl] at hp1; exact Option.some.inj hp1
 have hsp : JL = JL.take (qh B (id r)) ++ p :: JL.drop (qh B (id r) + 1) := by
  rw [<- hpe, <- List.drop_eq_getElem_cons hpl, List.take_append_drop]
 have hpt : p.2.task = id r := by rw [e]; exact g3
 have hpf : p.2.fin < 0 := by rw [e]; exact g4
 have hpm : p ∈ (Q r).js ++ [(k, j)] := by
  have : p ∈ JL.filter fun p => decide (p.2.task = id r) := List.mem_filter.2 ⟨by rw [<- hpe]; exact List.getElem_mem _, decide_eq_true hpt⟩
  rw [hj] at this; exact this
 have hpk : p = (k, j) := by
  rcases List.mem_append.1 hpm with hm | hm
  ·have := hq.fin p hm; omega
  ·exact List.mem_singleton.1 hm
 subst hpk
 have hf : (JL.take (qh B (id r))).filter (fun p => decide (p.2.task = id r)) ++ (k, j) :: (JL.drop (qh B (id r) + 1)).filter (fun p => decide (p.2.task = id r)) = (Q r).js ++ [(k, j)] := by
  have := hj
  rw [hsp, List.filter_append, List.filter_cons, if_pos (decide_eq_true hpt)] at this
  exact this
 have hC : (JL.drop (qh B (id r) + 1)).filter (fun p => decide (p.2.task = id r)) = [] := by
  rcases List.eq_nil_or_concat ((JL.drop (qh B (id r) + 1)).filter fun p => decide (p.2.task = id r)) with e0 | ⟨C', z, e0⟩
  ·exact e0
  ·exfalso
   rw [e0, List.concat_eq_append, <- List.cons_append, <- List.append_assoc] at hf
   have h1 := List.append_inj_left' hf rfl
   have : (k, j) ∈ (Q r).js := by rw [<- h1]; simp
   have := hq.fin _ this
   simp only at this
   have := (hq.cur k j hc).1
   omega
 rw [hC] at hf
 have hA := List.append_inj_left' hf rfl
 refine ⟨_, _, hsp, ?_, ?_, hA, hC⟩
 ·rw [List.length_take]; omega
 ·exact e.symm
theorem BL.put (h : BL l n id B Q JL OL) (hinj : ∀ r r', r < l.length -> r' < l.length -> id r = id r' -> r = r') {r : Nat} (hr : r < l.length) {k : Nat} {j : Job} (hc : (Q r).cur = some (k, j)) {m : Nat} {B' : Bk} {jb j' : Job} {q' : QS}
  (hg : GoodB l m B') (ha : B'.all = B.all.set (qh B (id r)) jb) (ho : B'.overs = B.overs) (hjb : vG jb = j') (htk : j'.task = id r) (hqf : QF (id r) q') (hq' : q'.js ++ q'.cur.toList = (Q r).js ++ [(k, j')]) (hov : q'.ov = (Q r).ov) :
  ∃ A C, JL = A ++ (k, j) :: C ∧ BL l m id B' (fun q => if q = r then q' else Q q) (A ++ (k, j') :: C) OL := by
 obtain ⟨A, C, e1, e2, e3, e4, e5⟩ := h.place hr hc
 refine ⟨A, C, e1, hg, ?_, ho.trans h.ovs, fun q hq => ?_, fun q hq => ?_, fun q hq => ?_, h.ot⟩
 ·rw [ha, List.map_set, h.all, e1, hjb, <- e2]
  simp only [List.map_append, List.map_cons]
  rw [List.set_append, if_neg (by rw [List.length_map]; omega), List.length_map, Nat.sub_self]
  rfl
 ·split
  ·rename_i e; subst e; exact hqf
  ·exact h.qf q hq
 ·have hj := h.js q hq
  rw [e1, List.filter_append, List.filter_cons] at hj
  rw [List.filter_append, List.filter_cons]
  by_cases e : q = r
  ·subst e
   rw [if_pos rfl, if_pos (show decide ((k, j').2.task = id q) = true from decide_eq_true htk), e4, e5, hq']
  ·have hjt : j.task = id r := by
    have : (vG (jH B (id r))).task = j.task := by rw [e3]
    rw [<- this]
    have ha := h.act hr
    rw [hc] at ha
    exact (h.good.pos ha).2.2.1
   have hne : ¬ id r = id q := fun c => e (hinj r q hr hq c).symm
   rw [if_neg e, if_neg (show ¬ decide ((k, j').2.task = id q) = true from fun c => hne (htk ▸ of_decide_eq_true c))]
   rw [if_neg (show ¬ decide ((k, j).2.task = id q) = true from fun c => hne (hjt ▸ of_decide_eq_true c))] at hj
   exact hj
 ·split
  ·rename_i e; subst e; rw [hov]; exact h.ov q hq
  ·exact h.ov q hq
theorem BL.step (h : BL l n id B Q JL OL) (hinj : ∀ r r', r < l.length -> r' < l.length -> id r = id r' -> r = r') {r : Nat} (hr : r < l.length) {k : Nat} {j : Job} (hc : (Q r).cur = some (k, j)) {t : Nat} (ht : inT t = t) (most : Int) (hm : j.steps < most) (T : List Int) :
  (jH (jc B (id r) t) (id r)).steps = j.steps + 1 ∧
  ∃ A C, JL = A ++ (k, j) :: C ∧ BL l (n + 2) id (if most <= j.steps + 1 then vk (jc B (id r) t) (id r) t else jc B (id r) t) (fun q => if q = r then wF { Q r with cur := none } T k (qH most j t) else Q q) (A ++ (k, qH most j t) :: C) OL := by
 have hq := h.qf r hr
 have ha := h.act hr
 rw [hc] at ha
 have ha' : jm B.act (id r) = true := ha
 obtain ⟨g1, g2, g3, g4⟩ := h.good.pos ha
 obtain ⟨A0, C0, p1, p2, p3, p4, p5⟩ := h.place hr hc
 have hfin := (hq.cur k j hc).1
 have htsk := hq.task (k, j) (by rw [hc]; simp)
 have hno := hq.no
 have htk := hq.task
 rw [hc] at hno htk
 have s1 : jc B (id r) t = yz B (id r) (qn t (jH B (id r))) := by unfold jc; rw [if_pos ha']
 have hj1 : jH (jc B (id r) t) (id r) = qn t (jH B (id r)) := by
  rw [s1]
  show (B.all.set (qh B (id r)) _).getD (qh B (id r)) default = _
  rw [vS _ g2, if_pos rfl]
 have hcs : (vG (jH B (id r))).steps = j.steps := by rw [p3]
 have hcs' : (jH B (id r)).steps = j.steps := hcs
 refine ⟨by rw [hj1]; simp only [qn, hcs'], ?_⟩
 have hqf : QF (id r) (wF { Q r with cur := none } T k (qH most j t)) := by
  have hst : (qH most j t).task = id r ∧ (qH most j t).missed = false := ⟨htsk.1, htsk.2⟩
  unfold wF
  split
  ·rename_i hf
   refine ⟨hq.fin, fun k' j' e => ?_, fun e => (by cases e), ?_, fun z hz => ?_⟩
   ·cases e
    refine ⟨?_, rfl⟩
    simp only [qH] at hf ⊢
    split at hf
    ·omega
    ·rename_i h3; rw [if_neg h3]; exact hfin
   ·simpa using hno
   ·simp only [Option.toList] at hz
    rcases List.mem_append.1 hz with hz | hz
    ·exact htk z (by simp [hz])
    ·rw [List.mem_singleton] at hz; subst hz; exact hst
  ·rename_i hf
   refine ⟨fun z hz => ?_, fun k' j' e => (by cases e), fun _ => by simp only; omega, ?_, fun z hz => ?_⟩
   ·rcases List.mem_append.1 hz with hz | hz
    ·exact hq.fin z hz
    ·rw [List.mem_singleton] at hz; subst hz; simp only; omega
   ·simpa using hno
   ·simp only [Option.toList, List.append_nil] at hz
    rcases List.mem_append.1 hz with hz | hz
    ·exact htk z (by simp [hz])
    ·rw [List.mem_singleton] at hz; subst hz; exact hst
 have hjs : (wF { Q r with cur := none } T k (qH most j t)).js ++ (wF { Q r with cur := none } T k (qH most j t)).cur.toList = (Q r).js ++ [(k, qH most j t)] := by
  unfold wF; split <;> simp
 have hov : (wF { Q r with cur := none } T k (qH most j t)).ov = (Q r).ov := by
  unfold wF; split <;> rfl
 have ecore : ∀ f : Int, vG { qn t (jH B (id r)) with fin := f } = { vG (jH B (id r)) with start := if j.steps = 0 then (t : Int) else j.start, steps := j.steps + 1, fin := f } := fun f => by
  have hst : (vG (jH B (id r))).start = j.start := by rw [p3]
  have hst' : (jH B (id r)).start = j.start := hst
  simp only [vG, qn, hcs', hst', ht]
 by_cases hmo : most <= j.steps + 1
 ·rw [if_pos hmo]
  have hme : j.steps + 1 = most := by omega
  have hg := (h.good.step (id r) t).fin (id r) t
  have he : (vk (jc B (id r) t) (id r) t).all = B.all.set (qh B (id r)) (vQ t (qn t (jH B (id r)))) := by
   have ha2 : jm (jc B (id r) t).act (id r) = true := by rw [s1]; exact ha'
   unfold vk
   rw [if_pos ha2, hj1, s1]
   show (B.all.set (qh B (id r)) _).set (qh B (id r)) _ = _
   rw [List.set_set]
  have ho : (vk (jc B (id r) t) (id r) t).overs = B.overs := by
   have ha2 : jm (jc B (id r) t).act (id r) = true := by rw [s1]; exact ha'
   unfold vk
   rw [if_pos ha2, s1]; rfl
  have hcj : vG (vQ t (qn t (jH B (id r)))) = qH most j t := by
   have := ecore (inT t + 1)
   unfold vQ
   rw [this, p3]
   unfold qH
   rw [if_pos hme, ht]
  exact h.put hinj hr hc hg he ho hcj htsk.1 hqf hjs hov
 ·rw [if_neg hmo]
  have hg := (h.good.step (id r) t).mono
  have he : (jc B (id r) t).all = B.all.set (qh B (id r)) (qn t (jH B (id r))) := by rw [s1]; rfl
  have ho : (jc B (id r) t).overs = B.overs := by rw [s1]; rfl
  have hcj : vG (qn t (jH B (id r))) = qH most j t := by
   have := ecore (jH B (id r)).fin
   have e1 : ({ qn t (jH B (id r)) with fin := (jH B (id r)).fin } : Job) = qn t (jH B (id r)) := rfl
   rw [e1] at this
   rw [this, p3]
   have hf2 : (vG (jH B (id r))).fin = j.fin := by rw [p3]
   have hf3 : (jH B (id r)).fin = j.fin := hf2
   unfold qH
   rw [if_neg (show ¬ j.steps + 1 = most by omega), hf3]
  exact h.put hinj hr hc hg he ho hcj htsk.1 hqf hjs hov
end
def pkA (ah : Int -> Int -> Bool) (B : Bk) (k : Nat) : Int := (List.range k).foldl (fun (b : Int) (i : Nat) => if jm B.act (i : Int) && (decide (b < 0) || ah (i : Int) b) then (i : Int) else b) (-1)
theorem Qj (ah : Int -> Int -> Bool) (B : Bk) (k : Nat) : pkA ah B (k + 1) = if jm B.act k && (decide (pkA ah B k < 0) || ah k (pkA ah B k)) then (k : Int) else pkA ah B k := by
 rw [pkA, List.range_succ, List.foldl_append]; rfl
structure RKI (n : Nat) (id : Nat -> Int) (ah : Int -> Int -> Bool) : Prop where
 rng : ∀ r < n, 0 <= id r ∧ id r < n
 sur : ∀ i : Nat, i < n -> ∃ r < n, id r = i
 ord : ∀ r r', r < r' -> r' < n -> ah (id r) (id r') = true ∧ ah (id r') (id r) = false
theorem RKI.inj {n : Nat} {id : Nat -> Int} {ah : Int -> Int -> Bool} (h : RKI n id ah) : ∀ r r', r < n -> r' < n -> id r = id r' -> r = r' := fun r r' h1 h2 e => by
 rcases Nat.lt_trichotomy r r' with h3 | h3 | h3
 ·have := h.ord r r' h3 h2
  rw [e] at this; rw [this.1] at this; exact absurd this.2 (by simp)
 ·exact h3
 ·have := h.ord r' r h3 h1
  rw [e] at this; rw [this.1] at this; exact absurd this.2 (by simp)
def yR (id : Nat -> Int) (act : Nat -> Bool) : Nat -> Int
 | 0 => -1
 | r + 1 => if act r = true ∧ yR id act r = -1 then id r else yR id act r
theorem zQ (id : Nat -> Int) (act : Nat -> Bool) : ∀ m, (∀ r < m, 0 <= id r) -> (yR id act m = -1 ∧ ∀ r < m, act r = false) ∨ ∃ r < m, act r = true ∧ yR id act m = id r ∧ ∀ r' < r, act r' = false
 | 0, _ => .inl ⟨rfl, fun r h => absurd h (Nat.not_lt_zero _)⟩
 | m + 1, h => by
  rw [yR]
  rcases zQ id act m (fun r hr => h r (by omega)) with ⟨h1, h2⟩ | ⟨r, hr, h1, h2, h3⟩
  ·cases ha : act m with
   | true =>
    rw [if_pos ⟨rfl, h1⟩]
    exact .inr ⟨m, by omega, ha, rfl, h2⟩
   | false =>
    rw [if_neg (by simp)]
    refine .inl ⟨h1, fun r hr => ?_⟩
    rcases Nat.lt_or_eq_of_le (Nat.le_of_lt_succ hr) with h4 | h4
    ·exact h2 r h4
    ·rw [h4]; exact ha
  ·have := h r (by omega)
   rw [if_neg (by omega)]
   exact .inr ⟨r, by omega, h1, h2, h3⟩
theorem Qv {n : Nat} {id : Nat -> Int} {ah : Int -> Int -> Bool} (hk : RKI n id ah) (B : Bk) : ∀ k, k <= n ->
  (pkA ah B k = -1 ∧ ∀ r < n, id r < k -> jm B.act (id r) = false) ∨ ∃ r < n, pkA ah B k = id r ∧ id r < k ∧ jm B.act (id r) = true ∧ ∀ r' < n, id r' < k -> jm B.act (id r') = true -> r <= r'
 | 0, _ => .inl ⟨rfl, fun r hr h => by have := (hk.rng r hr).1; omega⟩
 | k + 1, hn => by
  obtain ⟨q, hq, e⟩ := hk.sur k (by omega)
  have hlast : ∀ r' < n, id r' < (k + 1 : Nat) -> id r' < k ∨ r' = q := fun r' h1 h2 => by
   by_cases h3 : id r' < k
   ·exact .inl h3
   ·exact .inr (hk.inj r' q h1 hq (by omega))
  rw [Qj]
  cases ha : jm B.act (k : Int) with
  | false =>
   simp only [Bool.false_and, Bool.false_eq_true, if_false]
   rcases Qv hk B k (by omega) with ⟨h1, h2⟩ | ⟨r, hr, h1, h2, h3, h4⟩
   ·refine .inl ⟨h1, fun r hr h => ?_⟩
    rcases hlast r hr h with h5 | h5
    ·exact h2 r hr h5
    ·rw [h5, e]; exact ha
   ·refine .inr ⟨r, hr, h1, by omega, h3, fun r' hr' h5 h6 => ?_⟩
    rcases hlast r' hr' h5 with h7 | h7
    ·exact h4 r' hr' h7 h6
    ·rw [h7, e, ha] at h6; cases h6
  | true =>
   rcases Qv hk B k (by omega) with ⟨h1, h2⟩ | ⟨r, hr, h1, h2, h3, h4⟩
   ·rw [h1]
    simp only [show decide ((-1 : Int) < 0) = true from rfl, Bool.true_or, Bool.true_and, if_true]
    refine .inr ⟨q, hq, e.symm, by omega, by rw [e]; exact ha, fun r' hr' h5 h6 => ?_⟩
    rcases hlast r' hr' h5 with h7 | h7
    ·rw [h2 r' hr' h7] at h6; cases h6
    ·omega
   ·have h0 := (hk.rng r hr).1
    rw [h1]
    have hd : decide (id r < 0) = false := decide_eq_false (by omega)
    rw [hd]
    simp only [Bool.false_or, Bool.true_and]
    have hne : q ≠ r := fun c => by rw [c] at e; omega
    rcases Nat.lt_or_gt_of_ne hne with h5 | h5
    ·have := (hk.ord q r h5 hr).1
     rw [e] at this
     rw [if_pos this]
     refine .inr ⟨q, hq, e.symm, by omega, by rw [e]; exact ha, fun r' hr' h6 h7 => ?_⟩
     rcases hlast r' hr' h6 with h8 | h8
     ·have := h4 r' hr' h8 h7; omega
     ·omega
    ·have := (hk.ord r q h5 hq).2
     rw [e] at this
     rw [if_neg (by rw [this]; simp)]
     refine .inr ⟨r, hr, rfl, by omega, h3, fun r' hr' h6 h7 => ?_⟩
     rcases hlast r' hr' h6 with h8 | h8
     ·exact h4 r' hr' h8 h7
     ·omega
theorem j5f {n : Nat} {id : Nat -> Int} {ah : Int -> Int -> Bool} (hk : RKI n id ah) (B : Bk) (act : Nat -> Bool) (ha : ∀ r < n, jm B.act (id r) = act r) : pkA ah B n = yR id act n := by
 rcases Qv hk B n (Nat.le_refl _) with ⟨h1, h2⟩ | ⟨r, hr, h1, h2, h3, h4⟩
 ·rcases zQ id act n (fun r hr => (hk.rng r hr).1) with ⟨g1, g2⟩ | ⟨r', g0, g1, g2, g3⟩
  ·rw [h1, g1]
  ·have := h2 r' g0 (hk.rng r' g0).2
   rw [ha r' g0, g1] at this; cases this
 ·rcases zQ id act n (fun r hr => (hk.rng r hr).1) with ⟨g1, g2⟩ | ⟨r', g0, g1, g2, g3⟩
  ·rw [ha r hr, g2 r hr] at h3; cases h3
  ·rw [h1, g2]
   have e1 := h4 r' g0 (hk.rng r' g0).2 (by rw [ha r' g0]; exact g1)
   have e2 : ¬ r < r' := fun c => by have := g3 r c; rw [<- ha r hr, h3] at this; cases this
   rw [show r = r' by omega]
theorem j25 (l : List Task) (dm : List (List Int)) (S : List Due) (rk : List Int) (t : Nat) : ∀ r, xR l dm S rk t r = yR (fun r => jF rk r 0) (fun r => (pR l dm S rk t r).cur.isSome) r
 | 0 => rfl
 | r + 1 => by rw [xR, yR, j25 l dm S rk t r]
section
variable {l : List Task} {n : Nat} {id : Nat -> Int} {B : Bk} {Q Q' : Nat -> QS} {JL : List (Nat × Job)} {OL : List (Nat × Due)}
theorem BL.congr (h : BL l n id B Q JL OL) (e : ∀ r < l.length, (Q r).no = (Q' r).no ∧ (Q r).free = (Q' r).free ∧ (Q r).js = (Q' r).js ∧ (Q r).cur = (Q' r).cur ∧ (Q r).ov = (Q' r).ov) : BL l n id B Q' JL OL := by
 refine ⟨h.good, h.all, h.ovs, fun r hr => ?_, fun r hr => ?_, fun r hr => ?_, h.ot⟩
 ·obtain ⟨e1, e2, e3, e4, e5⟩ := e r hr
  have hq := h.qf r hr
  exact ⟨by rw [<- e3]; exact hq.fin, by rw [<- e4, <- e2]; exact hq.cur, by rw [<- e4, <- e2]; exact hq.idle, by rw [<- e1, <- e3, <- e4]; exact hq.no, by rw [<- e3, <- e4]; exact hq.task⟩
 ·obtain ⟨e1, e2, e3, e4, e5⟩ := e r hr
  rw [<- e3, <- e4]; exact h.js r hr
 ·obtain ⟨e1, e2, e3, e4, e5⟩ := e r hr
  rw [<- e5]; exact h.ov r hr
theorem BL.mono (h : BL l n id B Q JL OL) : BL l (n + 1) id B Q JL OL := { h with good := h.good.mono }
theorem BL.up (h : BL l n id B Q JL OL) {m : Nat} (hm : n <= m) : BL l m id B Q JL OL := by
 obtain ⟨d, rfl⟩ := Nat.exists_eq_add_of_le hm
 clear hm
 induction d with
 | zero => exact h
 | succ d ih => exact ih.mono
theorem BL.rels {ah : Int -> Int -> Bool} (hk : RKI l.length id ah) {t : Nat} (ht : inT t = t) : ∀ (L : List (Nat × Due)) {n : Nat} {B : Bk} {Q : Nat -> QS} {JL : List (Nat × Job)} {OL : List (Nat × Due)}, BL l n id B Q JL OL -> (∀ p ∈ L, p.2.at_ = t ∧ 0 <= p.2.task ∧ p.2.task < l.length) ->
  ∃ JL' OL', BL l (n + L.length) id (L.foldl (fun B p => jv l B p.2.task t) B) (fun r => (L.filter fun p => decide (p.2.task = id r)).foldl (rS l (id r)) (Q r)) JL' OL' ∧ ∃ JN ON, JL' = JL ++ JN ∧ OL' = OL ++ ON ∧ (JN.map Prod.fst ++ ON.map Prod.fst).Perm (L.map Prod.fst) ∧ (JN.map Prod.fst).Sublist (L.map Prod.fst) ∧ (ON.map Prod.fst).Sublist (L.map Prod.fst)
 | [], n, B, Q, JL, OL, h, _ => ⟨JL, OL, h, [], [], by simp, by simp, by simp, by simp, by simp⟩
 | p :: L, n, B, Q, JL, OL, h, hp => by
  obtain ⟨k, d⟩ := p
  obtain ⟨h1, h2, h3⟩ := hp (k, d) List.mem_cons_self
  simp only at h1 h2 h3
  obtain ⟨r, hr, e⟩ := hk.sur d.task.toNat (by omega)
  have e' : id r = d.task := by omega
  have hd : (⟨(t : Int), id r⟩ : Due) = d := by obtain ⟨a, b⟩ := d; simp only at h1 e'; rw [h1, e']
  obtain ⟨JL1, OL1, g, gs⟩ := h.rel hk.inj hr (hk.rng r hr) ht k
  rw [hd] at g gs
  rw [e'] at g
  obtain ⟨JL2, OL2, g2, JN, ON, q1, q2, q3, q4, q5⟩ := BL.rels hk ht L g (fun p hp' => hp p (List.mem_cons_of_mem _ hp'))
  refine ⟨JL2, OL2, ?_, ?_⟩
  ·have g3 := g2.congr (Q' := fun r' => (((k, d) :: L).filter fun p => decide (p.2.task = id r')).foldl (rS l (id r')) (Q r')) fun r' hr' => by
    have : (L.filter fun p => decide (p.2.task = id r')).foldl (rS l (id r')) (if r' = r then rS l d.task (Q r) (k, d) else Q r') = (((k, d) :: L).filter fun p => decide (p.2.task = id r')).foldl (rS l (id r')) (Q r') := by
     rw [List.filter_cons]
     by_cases er : r' = r
     ·subst er
      rw [if_pos rfl, if_pos (show decide ((k, d).2.task = id r') = true from decide_eq_true e'.symm), List.foldl_cons, e']
     ·rw [if_neg er, if_neg (show ¬ decide ((k, d).2.task = id r') = true from fun c => er (hk.inj r' r hr' hr ((of_decide_eq_true c).symm.trans e'.symm)))]
    rw [<- this]
    exact ⟨rfl, rfl, rfl, rfl, rfl⟩
   rw [List.length_cons, show n + (L.length + 1) = n + 1 + L.length by omega]
   exact g3
  ·rcases gs with ⟨rfl, rfl⟩ | ⟨rfl, j, rfl⟩
   ·refine ⟨JN, (k, d) :: ON, q1, by rw [q2]; simp, ?_, ?_, ?_⟩
    ·simp only [List.map_cons]
     exact (List.perm_middle).trans (q3.cons _)
    ·exact q4.trans (List.sublist_cons_self _ _)
    ·simp only [List.map_cons]; exact q5.cons_cons _
   ·refine ⟨(k, j) :: JN, ON, by rw [q1]; simp, q2, ?_, ?_, ?_⟩
    ·simp only [List.map_cons, List.cons_append]; exact q3.cons _
    ·simp only [List.map_cons]; exact q4.cons_cons _
    ·exact q5.trans (List.sublist_cons_self _ _)
end
def j2Q (ah : Int -> Int -> Bool) (l : List Task) (dm : List (List Int)) (t : Nat) (B : Bk) : Bk :=
 let i := pkA ah B l.length
 if i < 0 then B else
  let B2 := jc B i t
  if ji dm i (jH B2 i).no <= (jH B2 i).steps then vk B2 i t else B2
def yh (S : List Due) (t : Nat) : List (Nat × Due) := ((List.range S.length).map fun k => (k, S.getD k default)).filter fun p => decide (p.2.at_ = (t : Int))
def j2G (l : List Task) (S : List Due) (t : Nat) (B : Bk) : Bk := (yh S t).foldl (fun B p => jv l B p.2.task t) B
def Jm (ah : Int -> Int -> Bool) (l : List Task) (dm : List (List Int)) (S : List Due) : Nat -> Bk × List Int
 | 0 => (xg, [])
 | t + 1 =>
  let B := j2G l S t (Jm ah l dm S t).1
  (j2Q ah l dm t B, (Jm ah l dm S t).2 ++ [pkA ah B l.length])
theorem Yi (S : List Due) (t : Nat) (i : Int) : ((yh S t).filter fun p => decide (p.2.task = i)) = Yv i S t := by
 unfold yh Yv yP
 rw [List.filter_filter, List.filter_filter]
 congr 1
 funext p
 exact Bool.and_comm _ _
theorem Yg {S : List Due} {t : Nat} {p : Nat × Due} (h : p ∈ yh S t) : p.1 < S.length ∧ p.2 = S.getD p.1 default ∧ p.2.at_ = t := by
 unfold yh at h
 rw [List.mem_filter, List.mem_map] at h
 obtain ⟨⟨k, hk, rfl⟩, h2⟩ := h
 exact ⟨List.mem_range.1 hk, rfl, by simpa using h2⟩
theorem j3s (S : List Due) (t : Nat) : (yh S t).length <= S.length := by
 unfold yh
 exact Nat.le_trans (List.length_filter_le _ _) (by simp)
section
variable {l : List Task} {n : Nat} {id : Nat -> Int} {B : Bk} {Q : Nat -> QS} {JL : List (Nat × Job)} {OL : List (Nat × Due)}
theorem BL.day {ah : Int -> Int -> Bool} (hk : RKI l.length id ah) (dm : List (List Int)) {t : Nat} (ht : inT t = t) (h : BL l n id B Q JL OL) (hb : ∀ r < l.length, ∀ k j, (Q r).cur = some (k, j) -> j.steps < ji dm (id r) j.no) :
  pkA ah B l.length = yR id (fun r => (Q r).cur.isSome) l.length ∧
  ∃ JL', BL l (n + 2) id (j2Q ah l dm t B) (fun r => qX dm (id r) t (yR id (fun r => (Q r).cur.isSome) r) (Q r)) JL' OL ∧ JL'.map Prod.fst = JL.map Prod.fst := by
 have hp := j5f hk B (fun r => (Q r).cur.isSome) (fun r hr => h.act hr)
 refine ⟨hp, ?_⟩
 have hrest : ∀ r, ∀ x, (x ≠ -1 ∨ (Q r).cur = none) -> ((qX dm (id r) t x (Q r)).no = (Q r).no ∧ (qX dm (id r) t x (Q r)).free = (Q r).free ∧ (qX dm (id r) t x (Q r)).js = (Q r).js ∧ (qX dm (id r) t x (Q r)).cur = (Q r).cur ∧ (qX dm (id r) t x (Q r)).ov = (Q r).ov) := fun r x hx => by
  generalize Q r = q at hx
  obtain ⟨no, free, T, js, cur, ov⟩ := q
  unfold qX
  cases cur with
  | none => exact ⟨rfl, rfl, rfl, rfl, rfl⟩
  | some z =>
   obtain ⟨k, j⟩ := z
   have hx1 : x ≠ -1 := hx.resolve_right (by simp)
   simp only [if_neg hx1]
   exact ⟨trivial, trivial, trivial, trivial, trivial⟩
 unfold j2Q
 simp only [hp]
 rcases zQ id (fun r => (Q r).cur.isSome) l.length (fun r hr => (hk.rng r hr).1) with ⟨g1, g2⟩ | ⟨r, hr, g1, g2, g3⟩
 ·rw [g1, if_pos (by decide)]
  refine ⟨JL, (h.congr fun r hr => ?_).mono.mono, rfl⟩
  have := hrest r (yR id (fun r => (Q r).cur.isSome) r) (.inr (by have := g2 r hr; simpa using this))
  exact ⟨this.1.symm, this.2.1.symm, this.2.2.1.symm, this.2.2.2.1.symm, this.2.2.2.2.symm⟩
 ·have h0 := (hk.rng r hr).1
  rw [g2, if_neg (by omega)]
  cases hc : (Q r).cur with
  | none => rw [hc] at g1; cases g1
  | some z =>
   obtain ⟨k, j⟩ := z
   have hst := hb r hr k j hc
   obtain ⟨s1, A, C, s2, s3⟩ := h.step hk.inj hr hc ht (ji dm (id r) j.no) hst ((Q r).T ++ [id r])
   have hno : (jH (jc B (id r) t) (id r)).no = j.no := by
    have ha := h.act hr
    rw [hc] at ha
    have ha' : jm B.act (id r) = true := ha
    obtain ⟨g1, g2, g3, g4⟩ := h.good.pos ha'
    obtain ⟨A0, C0, p1, p2, p3, p4, p5⟩ := h.place hr hc
    have e1 : jc B (id r) t = yz B (id r) (qn t (jH B (id r))) := by unfold jc; rw [if_pos ha']
    have e2 : jH (jc B (id r) t) (id r) = qn t (jH B (id r)) := by
     rw [e1]
     show (B.all.set (qh B (id r)) _).getD (qh B (id r)) default = _
     rw [vS _ g2, if_pos rfl]
    rw [e2]
    have : (vG (jH B (id r))).no = j.no := by rw [p3]
    exact this
   have hyr : yR id (fun r => (Q r).cur.isSome) r = -1 := by
    rcases zQ id (fun r => (Q r).cur.isSome) r (fun r' hr' => (hk.rng r' (by omega)).1) with ⟨q1, q2⟩ | ⟨r', q0, q1, q2, q3⟩
    ·exact q1
    ·have := g3 r' q0; rw [q1] at this; cases this
   rw [hno, s1]
   refine ⟨A ++ (k, qH (ji dm (id r) j.no) j t) :: C, s3.congr fun r' hr' => ?_, by rw [s2]; simp⟩
   by_cases e : r' = r
   ·subst e
    rw [if_pos rfl]
    unfold qX
    rw [hc, hyr]
    simp only [if_true]
    exact ⟨trivial, trivial, trivial, trivial, trivial⟩
   ·rw [if_neg e]
    have hor : yR id (fun r => (Q r).cur.isSome) r' ≠ -1 ∨ (Q r').cur = none := by
     cases hc' : (Q r').cur with
     | none => exact .inr rfl
     | some z =>
      refine .inl ?_
      have hlt : r < r' := by
       rcases Nat.lt_trichotomy r r' with h3 | h3 | h3
       ·exact h3
       ·exact absurd h3.symm e
       ·have := g3 r' h3; rw [hc'] at this; cases this
      rcases zQ id (fun r => (Q r).cur.isSome) r' (fun q hq => (hk.rng q (by omega)).1) with ⟨q1, q2⟩ | ⟨q, q0, q1, q2, q3⟩
      ·have := q2 r hlt; rw [hc] at this; cases this
      ·rw [q2]; have := (hk.rng q (by omega)).1; omega
    have := hrest r' (yR id (fun r => (Q r).cur.isSome) r') hor
    exact ⟨this.1.symm, this.2.1.symm, this.2.2.1.symm, this.2.2.2.1.symm, this.2.2.2.2.symm⟩
end
structure KeyI (S : List Due) (t : Nat) (ks : List Nat) : Prop where
 lt : ks.Pairwise (· < ·)
 bnd : ∀ k ∈ ks, k < S.length ∧ (S.getD k default).at_ < t
theorem j1a (S : List Due) (t : Nat) : ((yh S t).map Prod.fst).Pairwise (· < ·) := by
 unfold yh
 rw [List.pairwise_map]
 refine List.Pairwise.filter _ ?_
 rw [List.pairwise_map]
 exact List.pairwise_lt_range
theorem KeyI.more {S : List Due} {t : Nat} {ks new : List Nat} (hS : S.Pairwise leD) (h : KeyI S t ks) (hn : new.Sublist ((yh S t).map Prod.fst)) : KeyI S (t + 1) (ks ++ new) := by
 have hb : ∀ k ∈ new, k < S.length ∧ (S.getD k default).at_ = t := fun k hk => by
  obtain ⟨p, hp, rfl⟩ := List.mem_map.1 (hn.subset hk)
  obtain ⟨a, b, c⟩ := Yg hp
  exact ⟨a, by rw [<- b]; exact c⟩
 refine ⟨?_, fun k hk => ?_⟩
 ·rw [List.pairwise_append]
  refine ⟨h.lt, (j1a S t).sublist hn, fun a ha b hb' => ?_⟩
  obtain ⟨a1, a2⟩ := h.bnd a ha
  obtain ⟨b1, b2⟩ := hb b hb'
  rcases Nat.lt_trichotomy a b with c | c | c
  ·exact c
  ·subst c; omega
  ·have := List.pairwise_iff_getElem.1 hS b a b1 a1 c
   have e1 : S.getD a default = S[a] := by simp [a1]
   have e2 : S.getD b default = S[b] := by simp [b1]
   rw [e1] at a2; rw [e2] at b2
   unfold leD at this
   omega
 ·rcases List.mem_append.1 hk with hk | hk
  ·have := h.bnd k hk; exact ⟨this.1, by omega⟩
  ·have := hb k hk; exact ⟨this.1, by omega⟩
theorem zy {l : List Task} {dm : List (List Int)} {S : List Due} {ah : Int -> Int -> Bool} (hl : l.length <= 64) (rk : List Int) (hk : RKI l.length (fun r => jF rk r 0) ah) (hS : S.Pairwise leD) (h0 : ∀ d ∈ S, 0 <= d.at_ ∧ 0 <= d.task ∧ d.task < l.length) : ∀ t : Nat, t <= 1000000 ->
  (Jm ah l dm S t).2 = plT l dm S rk t l.length ∧ ∃ JL OL, BL l ((S.length + 2) * t) (fun r => jF rk r 0) (Jm ah l dm S t).1 (fun r => qR l dm S rk t r) JL OL ∧ KeyI S t (JL.map Prod.fst) ∧ KeyI S t (OL.map Prod.fst)
 | 0, _ => by
  have hp : ∀ r, plT l dm S rk 0 r = [] ∧ qR l dm S rk 0 r = q0 [] := fun r => by
   have hrel : ∀ i, Xe i S 0 = [] := fun i => List.filter_eq_nil_iff.2 fun p hp => by
    obtain ⟨a, b, c⟩ := J0 hp
    have e : S.getD p.1 default = S[p.1] := by simp [a]
    have := (h0 S[p.1] (List.getElem_mem _)).1
    rw [<- e, <- b] at this
    rw [decide_eq_true_eq]; simp only [Int.natCast_zero] at *; omega
   induction r with
   | zero => exact ⟨rfl, by unfold qR; rw [hrel]; rfl⟩
   | succ r ih =>
    have e : plT l dm S rk 0 (r + 1) = [] := by
     show (qR l dm S rk 0 r).T = []
     rw [ih.2]; rfl
    exact ⟨e, by unfold qR; rw [hrel, e]; rfl⟩
  refine ⟨(hp _).1.symm, [], [], ⟨(VB hl), rfl, rfl, fun r hr => ?_, fun r hr => ?_, fun r hr => ?_, fun p hp => (by cases hp)⟩, ⟨List.Pairwise.nil, fun k hk => (by cases hk)⟩, ⟨List.Pairwise.nil, fun k hk => (by cases hk)⟩⟩
  ·simp only [(hp r).2]
   exact ⟨fun p hp => (by cases hp), fun k j e => (by cases e), fun _ => Int.le_refl _, rfl, fun p hp => (by cases hp)⟩
  ·simp only [(hp r).2]; rfl
  ·simp only [(hp r).2]; rfl
 | t + 1, ht => by
  obtain ⟨ih1, JL, OL, ih2, ih3, ih4⟩ := zy hl rk hk hS h0 t (by omega)
  have hin : inT (t : Int) = t := by unfold inT; omega
  have hpl := fun r => Ve (l := l) (dm := dm) hS (fun d hd => (h0 d hd).1) rk t r
  obtain ⟨JL1, OL1, g1, JN, ON, w1, w2, w3, w4, w5⟩ := BL.rels hk hin (yh S t) ih2 (fun p hp => by
   obtain ⟨a, b, c⟩ := Yg hp
   have e : S.getD p.1 default = S[p.1] := by simp [a]
   have := h0 S[p.1] (List.getElem_mem _)
   rw [<- e, <- b] at this
   exact ⟨c, this.2⟩)
  have g2 : BL l ((S.length + 2) * t + (yh S t).length) (fun r => jF rk r 0) (j2G l S t (Jm ah l dm S t).1) (fun r => pR l dm S rk t r) JL1 OL1 := g1.congr fun r hr => by
   have : ((yh S t).filter fun p => decide (p.2.task = jF rk r 0)).foldl (rS l (jF rk r 0)) (qR l dm S rk t r) = pR l dm S rk t r := by
    rw [Yi]; rfl
   simp only [this]
   exact ⟨trivial, trivial, trivial, trivial, trivial⟩
  obtain ⟨d1, JL2, d2, d3⟩ := g2.day hk dm hin (fun r hr k j hc => by
   have hq := (QI.foldR (l := l) (Yv (jF rk r 0) S t) (hpl r).2.2.1).busy k j hc
   exact hq.2.2.1)
  have hx : ∀ r, yR (fun r => jF rk r 0) (fun r => (pR l dm S rk t r).cur.isSome) r = xR l dm S rk t r := fun r => (j25 l dm S rk t r).symm
  have hlen := j3s S t
  refine ⟨?_, JL2, OL1, ?_, by rw [d3, w1, List.map_append]; exact ih3.more hS w4, by rw [w2, List.map_append]; exact ih4.more hS w5⟩
  ·show (Jm ah l dm S t).2 ++ [pkA ah (j2G l S t (Jm ah l dm S t).1) l.length] = _
   rw [ih1, d1, hx, (hpl l.length).2.1]
  ·have d4 := d2.congr (Q' := fun r => qR l dm S rk (t + 1) r) fun r hr => by
    have : qX dm (jF rk r 0) t (yR (fun r => jF rk r 0) (fun r => (pR l dm S rk t r).cur.isSome) r) (pR l dm S rk t r) = qR l dm S rk (t + 1) r := by
     rw [hx, (hpl r).2.2.2]
    simp only [this]
    exact ⟨trivial, trivial, trivial, trivial, trivial⟩
   exact d4.up (by rw [Nat.mul_succ]; omega)
theorem Ord.ltP {prio : List Int} {n : Nat} {o : List Int} (h : Ord prio n o) {a b : Int} (ha : 0 <= a ∧ a < n) (hb : 0 <= b ∧ b < n) (hr : rk prio n a < rk prio n b) : vW prio a b = true := by
 obtain ⟨h1, h2⟩ := h.back ha
 obtain ⟨h3, h4⟩ := h.back hb
 have hs := List.pairwise_iff_getElem.1 h.srt (rk prio n a) (rk prio n b) (by rw [h.len]; exact h1) (by rw [h.len]; exact h3) hr
 have e1 : o.getD (rk prio n a) default = o[rk prio n a]'(by rw [h.len]; exact h1) := by simp [h.len, h1]
 have e2 : o.getD (rk prio n b) default = o[rk prio n b]'(by rw [h.len]; exact h3) := by simp [h.len, h3]
 rw [<- e1, <- e2, h2, h4] at hs
 exact hs
theorem YV : ∀ (l : List Int) (x : Int) (k : Nat), x ∈ l -> l.getD (jF l x k - k).toNat default = x
 | [], x, k, h => by cases h
 | y :: r, x, k, h => by
  rw [jF]
  split
  ·rename_i e
   rw [show (((k : Int) - k).toNat) = 0 by omega]; exact e.symm
  ·rename_i hne
   rcases List.mem_cons.1 h with h | h
   ·exact absurd h hne
   ·have h1 := zL r x (k + 1) h
    have h2 := YV r x (k + 1) h
    rw [show ((jF r x (k + 1) - k).toNat) = (jF r x (k + 1) - ((k + 1 : Nat) : Int)).toNat + 1 by omega, List.getD_cons_succ]
    exact h2
theorem rki (l : List Task) : RKI l.length (fun r => jF (rkL (jE l) l.length) r 0) (vW (jE l)) := by
 obtain ⟨o, ho⟩ := ZE (jE l) l.length
 have hrank : ∀ q : Nat, q < l.length -> (0 <= jF (rkL (jE l) l.length) q 0 ∧ jF (rkL (jE l) l.length) q 0 < l.length) ∧ rk (jE l) l.length (jF (rkL (jE l) l.length) q 0) = q := fun q hq => by
  have h1 := zL (rkL (jE l) l.length) q 0 (ZZ l hq)
  have h2 := YV (rkL (jE l) l.length) q 0 (ZZ l hq)
  rw [JO] at h1
  have h0 : 0 <= jF (rkL (jE l) l.length) q 0 ∧ jF (rkL (jE l) l.length) q 0 < l.length := by omega
  refine ⟨h0, ?_⟩
  rw [show (jF (rkL (jE l) l.length) q 0 - ((0 : Nat) : Int)).toNat = (jF (rkL (jE l) l.length) q 0).toNat by simp, j2u _ (by omega)] at h2
  rw [show (((jF (rkL (jE l) l.length) q 0).toNat : Nat) : Int) = jF (rkL (jE l) l.length) q 0 by omega] at h2
  exact Int.ofNat.inj h2
 refine ⟨fun r hr => (hrank r hr).1, fun i hi => ?_, fun r r' h1 h2 => ?_⟩
 ·have hb := ho.back (i := (i : Int)) ⟨by omega, by omega⟩
  obtain ⟨g1, g2⟩ := hrank _ hb.1
  have hc := ho.back g1
  refine ⟨rk (jE l) l.length i, hb.1, ?_⟩
  have e := hc.2
  rw [g2, hb.2] at e
  exact e.symm
 ·obtain ⟨g1, g2⟩ := hrank r (by omega)
  obtain ⟨g3, g4⟩ := hrank r' h2
  have hb := ho.ltP g1 g3 (by omega)
  refine ⟨hb, ?_⟩
  unfold vW at hb ⊢
  rw [decide_eq_true_eq] at hb
  rw [decide_eq_false_iff_not]
  omega
theorem j3Y (l : List Task) (dm : List (List Int)) (S : List Due) (rk : List Int) (N : Nat) (h0 : ∀ d ∈ S, 0 <= d.at_ ∧ d.at_ < N) : ∀ r : Nat,
  (vu l dm S rk ⟨List.replicate N (-1), [], []⟩ r) = ⟨plT l dm S rk N r, (List.range r).foldl (fun m q => j1S N m (qR l dm S rk N q)) [], (List.range r).foldl (fun m q => j1V m (qR l dm S rk N q)) []⟩
 | 0 => rfl
 | r + 1 => by
  have ih := j3Y l dm S rk N h0 r
  have hl : (plT l dm S rk N r).length = N := by
   have := Jq l dm S rk ⟨List.replicate N (-1), [], []⟩ r
   rw [ih] at this
   simpa using this
  have hrel : Xe (jF rk r 0) S N = yP (jF rk r 0) S S.length := List.filter_eq_self.2 fun p hp => by
   obtain ⟨a, b, c⟩ := J0 hp
   have e : S.getD p.1 default = S[p.1] := by simp [a]
   have := (h0 S[p.1] (List.getElem_mem _)).2
   rw [<- e, <- b] at this
   exact decide_eq_true this
  have hp := Vu l dm (jF rk r 0) S (plT l dm S rk N r) ((List.range r).foldl (fun m q => j1S N m (qR l dm S rk N q)) []) ((List.range r).foldl (fun m q => j1V m (qR l dm S rk N q)) []) (fun d hd => by rw [hl]; exact h0 d hd) S.length (Nat.le_refl _)
  have eq : (yP (jF rk r 0) S S.length).foldl (qS l dm (jF rk r 0)) (q0 (plT l dm S rk N r)) = qR l dm S rk N r := by rw [<- hrel]; rfl
  rw [eq, hl] at hp
  simp only [vu]
  rw [ih]
  simp only [hp]
  rw [List.range_succ, List.foldl_append, List.foldl_append]
  rfl
theorem VA {α β : Type} (f : α -> β) : ∀ (E : List (Nat × α)) (m : List (Int × β)), (E.map Prod.fst).Nodup -> (∀ p ∈ E, noK m (p.1 : Int)) -> E.foldl (fun m p => jq m p.1 (f p.2)) m = m ++ E.map fun p => ((p.1 : Int), f p.2)
 | [], m, _, _ => by simp
 | p :: E, m, hn, hm => by
  rw [List.map_cons, List.nodup_cons] at hn
  rw [List.foldl_cons, QN (hm p List.mem_cons_self), VA f E _ hn.2 fun q hq => ?_]
  ·simp
  ·intro z hz
   rcases List.mem_append.1 hz with hz | hz
   ·exact hm q (List.mem_cons_of_mem _ hq) z hz
   ·rw [List.mem_singleton] at hz; subst hz
    intro e
    exact hn.1 (List.mem_map.2 ⟨q, hq, by simp only at e; omega⟩)
theorem Q2 {α β : Type} (f : α -> β) (P : Nat -> List (Nat × α)) : ∀ (rs : List Nat) (m : List (Int × β)), rs.foldl (fun m r => (P r).foldl (fun m p => jq m p.1 (f p.2)) m) m = (rs.flatMap P).foldl (fun m p => jq m p.1 (f p.2)) m
 | [], m => rfl
 | r :: rs, m => by rw [List.foldl_cons, List.flatMap_cons, List.foldl_append, Q2 f P rs]
theorem Ze {α : Type} {n : Nat} {id : Nat -> Int} (tk : α -> Int) {L : List (Nat × α)} (hL : (L.map Prod.fst).Pairwise (· < ·)) (hs : ∀ p ∈ L, ∃ r < n, tk p.2 = id r) (hinj : ∀ r r', r < n -> r' < n -> id r = id r' -> r = r') :
  (((List.range n).flatMap fun r => L.filter fun p => decide (tk p.2 = id r)).map Prod.fst).Nodup ∧ (((List.range n).flatMap fun r => L.filter fun p => decide (tk p.2 = id r)).map Prod.fst).Perm (L.map Prod.fst) ∧ ∀ p, p ∈ ((List.range n).flatMap fun r => L.filter fun p => decide (tk p.2 = id r)) ↔ p ∈ L := by
 have hmem : ∀ p, p ∈ ((List.range n).flatMap fun r => L.filter fun p => decide (tk p.2 = id r)) ↔ p ∈ L := fun p => by
  rw [List.mem_flatMap]
  constructor
  ·rintro ⟨r, _, hp⟩; exact (List.mem_filter.1 hp).1
  ·intro hp
   obtain ⟨r, hr, e⟩ := hs p hp
   exact ⟨r, List.mem_range.2 hr, List.mem_filter.2 ⟨hp, decide_eq_true e⟩⟩
 have hLn : (L.map Prod.fst).Nodup := hL.imp fun h => Nat.ne_of_lt h
 have hkey : ∀ p ∈ L, ∀ q ∈ L, p.1 = q.1 -> p = q := fun p hp q hq e => by
  obtain ⟨i, hi, rfl⟩ := List.getElem_of_mem hp
  obtain ⟨j, hj, rfl⟩ := List.getElem_of_mem hq
  have := List.pairwise_iff_getElem.1 hL
  rcases Nat.lt_trichotomy i j with h | h | h
  ·have := this i j (by simpa using hi) (by simpa using hj) h
   simp only [List.getElem_map] at this; omega
  ·subst h; rfl
  ·have := this j i (by simpa using hj) (by simpa using hi) h
   simp only [List.getElem_map] at this; omega
 have hnd : (((List.range n).flatMap fun r => L.filter fun p => decide (tk p.2 = id r)).map Prod.fst).Nodup := by
  rw [List.map_flatMap]
  unfold List.Nodup
  rw [List.pairwise_flatMap]
  refine ⟨fun r _ => ?_, ?_⟩
  ·exact (hL.sublist (List.Sublist.map _ (List.filter_sublist))).imp fun h => Nat.ne_of_lt h
  ·refine (List.pairwise_lt_range).imp_of_mem fun {a b} ha hb hab x hx y hy e => ?_
   subst e
   obtain ⟨p, hp, rfl⟩ := List.mem_map.1 hx
   obtain ⟨q, hq, e⟩ := List.mem_map.1 hy
   rw [List.mem_filter] at hp hq
   have := hkey p hp.1 q hq.1 e.symm
   subst this
   have e1 := of_decide_eq_true hp.2
   have e2 := of_decide_eq_true hq.2
   have := hinj a b (List.mem_range.1 ha) (List.mem_range.1 hb) (e1.symm.trans e2)
   omega
 refine ⟨hnd, (List.perm_ext_iff_of_nodup hnd hLn).2 fun k => ?_, hmem⟩
 constructor
 ·intro h
  obtain ⟨p, hp, rfl⟩ := List.mem_map.1 h
  exact List.mem_map.2 ⟨p, (hmem p).1 hp, rfl⟩
 ·intro h
  obtain ⟨p, hp, rfl⟩ := List.mem_map.1 h
  exact List.mem_map.2 ⟨p, (hmem p).2 hp, rfl⟩
theorem Zw {α : Type} : ∀ {m : List (Int × α)} {k : Int} {x : α}, (m.map Prod.fst).Nodup -> (k, x) ∈ m -> jw m k = some x
 | (k', v) :: r, k, x, hn, h => by
  rw [List.map_cons, List.nodup_cons] at hn
  rw [jw]
  rcases List.mem_cons.1 h with h | h
  ·cases h; rw [if_pos rfl]
  ·rw [if_neg (fun e => hn.1 (by rw [e]; exact List.mem_map.2 ⟨_, h, rfl⟩))]
   exact Zw hn.2 h
theorem JD {α β : Type} {f g : β -> α -> β} : ∀ (l : List α) (b : β), (∀ b a, a ∈ l -> f b a = g b a) -> l.foldl f b = l.foldl g b
 | [], _, _ => rfl
 | a :: l, b, h => by
  rw [List.foldl_cons, List.foldl_cons, h b a List.mem_cons_self]
  exact JD l _ fun b a ha => h b a (List.mem_cons_of_mem _ ha)
theorem Vj {α β : Type} {n : Nat} {id : Nat -> Int} (tk : α -> Int) (f : α -> β) (P : Nat -> List (Nat × α)) {L : List (Nat × α)} (hL : (L.map Prod.fst).Pairwise (· < ·)) (hs : ∀ p ∈ L, ∃ r < n, tk p.2 = id r) (hinj : ∀ r r', r < n -> r' < n -> id r = id r' -> r = r')
  (hP : ∀ r < n, P r = L.filter fun p => decide (tk p.2 = id r)) :
  (((List.range n).foldl (fun m r => (P r).foldl (fun m p => jq m p.1 (f p.2)) m) ([] : List (Int × β))).map Prod.fst).Perm (L.map fun p => (p.1 : Int)) ∧ ∀ p ∈ L, jw ((List.range n).foldl (fun m r => (P r).foldl (fun m p => jq m p.1 (f p.2)) m) []) p.1 = some (f p.2) := by
 obtain ⟨h1, h2, h3⟩ := Ze tk hL hs hinj
 have e : (List.range n).foldl (fun m r => (P r).foldl (fun m p => jq m p.1 (f p.2)) m) ([] : List (Int × β)) = ((List.range n).flatMap fun r => L.filter fun p => decide (tk p.2 = id r)).map fun p => ((p.1 : Int), f p.2) := by
  rw [JD (g := fun m r => (L.filter fun p => decide (tk p.2 = id r)).foldl (fun m p => jq m p.1 (f p.2)) m) _ _ fun b a ha => by rw [hP a (List.mem_range.1 ha)]]
  rw [Q2 f (fun r => L.filter fun p => decide (tk p.2 = id r)), VA f _ _ h1 (fun p _ => JW _), List.nil_append]
 rw [e]
 have hk : ((((List.range n).flatMap fun r => L.filter fun p => decide (tk p.2 = id r)).map fun p => ((p.1 : Int), f p.2)).map Prod.fst) = ((((List.range n).flatMap fun r => L.filter fun p => decide (tk p.2 = id r)).map Prod.fst).map fun k : Nat => (k : Int)) := by
  rw [List.map_map, List.map_map]; rfl
 refine ⟨?_, fun p hp => ?_⟩
 ·rw [hk]
  have := h2.map fun k : Nat => (k : Int)
  rw [List.map_map (l := L)] at this
  exact this
 ·refine Zw ?_ (List.mem_map.2 ⟨p, (h3 p).2 hp, rfl⟩)
  rw [hk]
  unfold List.Nodup at h1 ⊢
  rw [List.pairwise_map]
  exact h1.imp fun h e => h (by omega)
theorem j2H {n : Nat} {lt : List Due} {N : Int} {d : Due} (h : d ∈ jO (yC n lt N)) : (0 <= d.task ∧ d.task < n) ∧ 0 <= d.at_ ∧ d.at_ < N := by
 have := (qK _).mem_iff.1 h
 unfold yC at this
 exact of_decide_eq_true (List.mem_filter.1 this).2
theorem j0y (l : List Task) (lt : List Due) (dm : List (List Int)) (ticks : Int) (hl : l.length <= 64) : ∃ (JL : List (Nat × Job)) (OL : List (Nat × Due)),
  (yA l lt dm ticks).T = (Jm (vW (jE l)) l dm (jO (yC l.length lt (qY ticks))) (qY ticks)).2 ∧
  (((yA l lt dm ticks).m1.map Prod.fst).Perm (JL.map fun p : Nat × Job => (p.1 : Int)) ∧ (JL.map Prod.fst).Pairwise (· < ·) ∧ (∀ p ∈ JL, jw (yA l lt dm ticks).m1 p.1 = some (x8 (qY ticks) p.2)) ∧ (Jm (vW (jE l)) l dm (jO (yC l.length lt (qY ticks))) (qY ticks)).1.all.map (x8 (qY ticks)) = JL.map fun p => x8 (qY ticks) p.2) ∧
  (((yA l lt dm ticks).m2.map Prod.fst).Perm (OL.map fun p : Nat × Due => (p.1 : Int)) ∧ (OL.map Prod.fst).Pairwise (· < ·) ∧ (∀ p ∈ OL, jw (yA l lt dm ticks).m2 p.1 = some p.2) ∧ (Jm (vW (jE l)) l dm (jO (yC l.length lt (qY ticks))) (qY ticks)).1.overs = OL.map Prod.snd) ∧
  GoodB l ((jO (yC l.length lt (qY ticks))).length * qY ticks + 2 * qY ticks) (Jm (vW (jE l)) l dm (jO (yC l.length lt (qY ticks))) (qY ticks)).1 := by
 obtain ⟨N, hN⟩ : ∃ N, N = qY ticks := ⟨_, rfl⟩
 obtain ⟨S, hSe⟩ : ∃ S, S = jO (yC l.length lt (qY ticks)) := ⟨_, rfl⟩
 have hNb : N <= 1000000 := by rw [hN]; unfold qY; omega
 have hS : S.Pairwise leD := by rw [hSe]; exact wD _
 have hm : ∀ d ∈ S, (0 <= d.task ∧ d.task < l.length) ∧ 0 <= d.at_ ∧ d.at_ < N := fun d hd => by rw [hSe] at hd; have := j2H hd; rw [hN]; exact this
 have hk := rki l
 obtain ⟨r1, JL, OL, r2, r3, r4⟩ := zy (dm := dm) (S := S) hl (rkL (jE l) l.length) hk hS (fun d hd => ⟨(hm d hd).2.1, (hm d hd).1⟩) N hNb
 have hlay := j3Y l dm S (rkL (jE l) l.length) N (fun d hd => (hm d hd).2) l.length
 have hF : yA l lt dm ticks = vu l dm S (rkL (jE l) l.length) ⟨List.replicate N (-1), [], []⟩ l.length := by
  unfold yA; rw [hSe, hN]
 rw [<- hSe, <- hN, hF, hlay]
 have hJs : ∀ p ∈ JL, ∃ r < l.length, p.2.task = jF (rkL (jE l) l.length) r 0 := fun p hp => by
  obtain ⟨i, hi, e⟩ := List.getElem_of_mem hp
  have hi' : i < (Jm (vW (jE l)) l dm S N).1.all.length := by rw [<- r2.len]; exact hi
  obtain ⟨q, q1, q2⟩ := r2.at_ hi'
  rw [List.getElem?_eq_getElem hi, e] at q1
  cases q1
  have ht := r2.good.task i hi'
  have ht2 : p.2.task = ((Jm (vW (jE l)) l dm S N).1.all.getD i default).task := by rw [q2]; rfl
  obtain ⟨r, hr, er⟩ := hk.sur p.2.task.toNat (by omega)
  exact ⟨r, hr, by omega⟩
 have hkey : ∀ p ∈ OL, ∃ r < l.length, p.2.task = jF (rkL (jE l) l.length) r 0 := r2.ot
 have hJ := Vj (fun j : Job => j.task) (x8 N) (fun r => (qR l dm S (rkL (jE l) l.length) N r).js ++ (qR l dm S (rkL (jE l) l.length) N r).cur.toList) r3.lt hJs hk.inj (fun r hr => (r2.js r hr).symm)
 have hO := Vj (fun d : Due => d.task) (fun d => d) (fun r => (qR l dm S (rkL (jE l) l.length) N r).ov) r4.lt hkey hk.inj (fun r hr => (r2.ov r hr).symm)
 refine ⟨JL, OL, r1.symm, ⟨hJ.1, r3.lt, hJ.2, ?_⟩, ⟨hO.1, r4.lt, hO.2, r2.ovs⟩, ?_⟩
 ·have := congrArg (List.map (x8 N)) r2.all
  rw [List.map_map, List.map_map] at this
  exact this
 ·have e : (S.length + 2) * N = S.length * N + 2 * N := Nat.add_mul _ _ _
  rw [<- e]; exact r2.good
theorem GoodB.le {l : List Task} {n : Nat} {B : Bk} (h : GoodB l n B) : ∀ k, GoodB l (n + k) B
 | 0 => h
 | k + 1 => (h.le k).mono
theorem Vx {ah ah' : Int -> Int -> Bool} {B : Bk} {n : Nat} (h : ∀ a b : Int, 0 <= a -> a < n -> 0 <= b -> b < n -> ah a b = ah' a b) : ∀ k, k <= n -> pkA ah B k = pkA ah' B k ∧ (pkA ah B k < 0 ∨ pkA ah B k < k)
 | 0, _ => ⟨rfl, .inl (by show (-1 : Int) < 0; omega)⟩
 | k + 1, hk => by
  obtain ⟨ih, h2⟩ := Vx h k (by omega)
  rw [Qj, Qj, <- ih]
  have e : (decide (pkA ah B k < 0) || ah k (pkA ah B k)) = (decide (pkA ah B k < 0) || ah' k (pkA ah B k)) := by
   by_cases h3 : pkA ah B k < 0
   ·rw [decide_eq_true h3]; rfl
   ·rw [decide_eq_false h3, h k (pkA ah B k) (by omega) (by omega) (by omega) (by omega)]
  rw [e]
  refine ⟨rfl, ?_⟩
  split
  ·right; omega
  ·omega
theorem Q7 (g : Bk -> Due -> Bk) : ∀ (ps : List (Nat × Due)) (B : Bk), ps.foldl (fun B p => g B p.2) B = (ps.map Prod.snd).foldl g B
 | [], _ => rfl
 | p :: ps, B => by rw [List.foldl_cons, List.map_cons, List.foldl_cons, Q7 g ps]
theorem j2n (S : List Due) (t : Nat) : (yh S t).map Prod.snd = S.filter fun d => decide (d.at_ = (t : Int)) := by
 have e : S = (List.range S.length).map fun k => S.getD k default := by
  apply List.ext_getElem
  ·simp
  ·intro i h1 h2; simp at h2; simp [h2]
 unfold yh
 conv => rhs; rw [e]
 rw [List.filter_map, List.filter_map, List.map_map]
 rfl
end Go.Proofs.YtfjoaeghnfkdlaaGreatDoor
