/- Regions in whatever order in which one operation moves a row of the call's own (an append): what named the row is known no more behind it. No condition. -/
import Derived.Test.YtfjoaeghnfkdlaaGreatDoorB11
set_option linter.unusedSimpArgs false
set_option linter.unusedVariables false
set_option maxHeartbeats 1000000
set_option maxRecDepth 100000
namespace Go.Proofs.YtfjoaeghnfkdlaaGreatDoor
open Go.RowKit
section
variable {P : Program} {n : Md} {Q : Exit -> j6 -> j8 -> Prop} {s : j6} {h : j8} {ops : Array Oper} {rest : List Oper} {o : Oper}
def TuK (P : Program) (R : Nat) (o : Oper) (s : j6) (h h' : j8) (v : AV) : Prop :=
 ∀ (E : Env) (σ : Sig) (ι : Nat -> Value) (a : Act) (w : World), Rel E σ ι h w -> (∀ y ∈ o.op.operands.toList, VR σ ι (evA s y) (a.eval y)) ->
  ∀ (K : Act -> World -> Prop) (Q : Exit -> Act -> World -> Prop), (∀ σ' ι' w' u, Sig.le σ σ' -> (∀ (n : Md) (s : j6) (a : Act), TR n σ ι s a -> TR n σ' ι' (qv R s) a) -> Rel E σ' ι' h' w' -> VR σ' ι' v u -> K (a.put o.dst u) w') -> o.wp P a w K Q
variable {β : Type} {H : β -> j8} {ok : β -> Prop} {K : j6 -> β -> Prop} {tn ln : List Nat} {c R : Nat}
def cQ (ops : Array Oper) (c R : Nat) (m : Nat) (o : Oper) (s : j6) (v : AV) : Bool :=
 bif Nat.blt m c then ((Region.before ops).getD c 0).testBit m || (!jg R v && (qZ ops o).all fun t => !jg R (get s t)) else Nat.beq m c || ((Region.before ops).getD m 0).testBit c || !jg R v
def ADk (P : Program) (ops : Array Oper) (H : β -> j8) (ok : β -> Prop) (tn ln : List Nat) (c R : Nat) (K : j6 -> β -> Prop) : Nat -> List Oper -> j6 -> β -> Prop
 | m, [], s, x => c < m ∧ ∃ s', (∀ t, get s t = get s' t) ∧ K s' x
 | m, o :: rest, s, x => (GoG ops s o ∧ m ≠ c ∧ tn.contains m = true ∧ ∃ x' v, ok x' ∧ cQ ops c R m o s v = true ∧ TuO P o s (H x) (H x') v ∧ ADk P ops H ok tn ln c R K (m + 1) rest (jX s o.dst v) x') ∨
   (GoG ops s o ∧ m = c ∧ tn.contains m = true ∧ ∃ x' v, ok x' ∧ TuK P R o s (H x) (H x') v ∧ ADk P ops H ok tn ln c R K (m + 1) rest (jX (qv R s) o.dst v) x') ∨
   (GoG ops s o ∧ m ≠ c ∧ tn.contains m = false ∧ ∃ v, cQ ops c R m o s v = true ∧ ((ln.contains m = true ∧ OkO P o s (H x) v) ∨ ∀ y, ok y -> OkO P o s (H y) v) ∧ ADk P ops H ok tn ln c R K (m + 1) rest (jX s o.dst v) x) ∨
   (SkG ops s o ∧ m ≠ c ∧ cQ ops c R m o s (.tup []) = true ∧ ADk P ops H ok tn ln c R K (m + 1) rest (jX s o.dst (.tup [])) x)
theorem TuK.congr {s s' : j6} {h h' : j8} {v : AV} (e : ∀ t, get s t = get s' t) (hk : TuK P R o s h h' v) : TuK P R o s' h h' v := fun E σ ι a w hr hx =>
 hk E σ ι a w hr fun x hm => by rw [y7 e]; exact hx x hm
theorem Qy {s s' : j6} {m : Nat} {v : AV} (e : ∀ t, get s t = get s' t) : cQ ops c R m o s v = cQ ops c R m o s' v := by
 unfold cQ
 simp only [e]
theorem Zo {s s' : j6} (e : ∀ t, get s t = get s' t) : ∀ t, get (qv R s) t = get (qv R s') t := fun t => by rw [wX, wX, e]
theorem xJ : ∀ (rest : List Oper) (m : Nat) {s s' : j6} {x : β}, (∀ t, get s t = get s' t) -> ADk P ops H ok tn ln c R K m rest s x -> ADk P ops H ok tn ln c R K m rest s' x
 | [], _, s, s', x, e, ⟨h0, s2, e2, hk⟩ => ⟨h0, s2, fun t => (e t).symm.trans (e2 t), hk⟩
 | o :: rest, m, s, s', x, e, hk => by
  unfold ADk at hk ⊢
  rcases hk with ⟨hg, hm, ht, x', v, h1, hq, h2, h3⟩ | ⟨hg, hm, ht, x', v, h1, h2, h3⟩ | ⟨hg, hm, ht, v, hq, h2, h3⟩ | ⟨hg, hm, hq, h3⟩
  ·exact .inl ⟨hg.congr e, hm, ht, x', v, h1, by rw [<- Qy e]; exact hq, h2.congr e, xJ rest _ (qb e _ _) h3⟩
  ·exact .inr (.inl ⟨hg.congr e, hm, ht, x', v, h1, h2.congr e, xJ rest _ (qb (Zo e) _ _) h3⟩)
  ·refine .inr (.inr (.inl ⟨hg.congr e, hm, ht, v, by rw [<- Qy e]; exact hq, ?_, xJ rest _ (qb e _ _) h3⟩))
   rcases h2 with ⟨h4, h5⟩ | h5
   ·exact .inl ⟨h4, h5.congr e⟩
   ·exact .inr fun y hy => (h5 y hy).congr e
  ·exact .inr (.inr (.inr ⟨hg.congr e, hm, by rw [<- Qy e]; exact hq, xJ rest _ (qb e _ _) h3⟩))
def mkA (R : Nat) (v : AV) : AV := bif jg R v then .undef else v
def vK (c R : Nat) (vs : Nat -> AV) (j : Nat) : AV := if j < c then mkA R (vs j) else vs j
theorem y6 (R : Nat) (s : j6) (t : Nat) : get (qv R s) t = mkA R (get s t) := by
 rw [wX, mkA]
 cases jg R (get s t) <;> rfl
theorem XW {R : Nat} {v : AV} (h : jg R v = false) : mkA R v = v := by rw [mkA, h]; rfl
def tx (l : List Oper) (c R : Nat) (s : j6) (vs : Nat -> AV) (i : Nat) : j6 := if c < i then jG (qv R s) l (vK c R vs) (fun _ => true) i else jG s l vs (fun _ => true) i
theorem Xc (l : List Oper) (s : j6) (vs : Nat -> AV) (L : Nat -> Bool) : ∀ k, k <= c -> ∀ t, get (jG (qv R s) l (vK c R vs) L k) t = mkA R (get (jG s l vs L k) t)
 | 0, _, t => by simp only [jG]; exact y6 R s t
 | k + 1, hk, t => by
  have ih := Xc l s vs L k (by omega)
  simp only [jG]
  cases L k with
  | false => simpa using ih t
  | true =>
   simp only [if_true, jx]
   split
   ·rw [vK, if_pos (by omega)]
   ·exact ih t
theorem j0U (l : List Oper) (s : j6) (vs : Nat -> AV) (L : Nat -> Bool) : ∀ k t, get (jG (qv R s) l (vK c R vs) L k) t = get (jG s l vs L k) t ∨ get (jG (qv R s) l (vK c R vs) L k) t = .undef
 | 0, t => by
  simp only [jG]
  rw [y6, mkA]
  cases jg R (get s t) with
  | true => exact .inr rfl
  | false => exact .inl rfl
 | k + 1, t => by
  have ih := j0U l s vs L k t
  simp only [jG]
  cases L k with
  | false => simpa using ih
  | true =>
   simp only [if_true, jx]
   split
   ·rw [vK]
    split
    ·rw [mkA]
     cases jg R (vs k) with
     | true => exact .inr rfl
     | false => exact .inl rfl
    ·exact .inl rfl
   ·exact ih
theorem Q6 {l : List Oper} {vs : Nat -> AV} {L : Nat -> Bool} (hun : ∀ k, c <= k -> (hk : k < l.length) -> L k = true -> mkA R (vs k) = vs k) : ∀ k, k <= l.length -> ∀ t, get (jG (qv R s) l (vK c R vs) L k) t = mkA R (get (jG s l vs L k) t)
 | 0, _, t => by simp only [jG]; exact y6 R s t
 | k + 1, hk, t => by
  have ih := Q6 hun k (by omega)
  simp only [jG]
  cases hLk : L k with
  | false => simpa using ih t
  | true =>
   simp only [if_true, jx]
   split
   ·rw [vK]
    split
    ·rfl
    ·rw [hun k (by omega) (by omega) hLk]
   ·exact ih t
def KnK (P : Program) (H : β -> j8) (ok : β -> Prop) (tn ln : List Nat) (c R : Nat) (l : List Oper) (s : j6) (vs : Nat -> AV) (ys : Nat -> β) (i : Nat) (o : Oper) : Prop :=
 (GoG l.toArray (tx l c R s vs i) o ∧ i ≠ c ∧ tn.contains i = true ∧ cQ l.toArray c R i o (tx l c R s vs i) (vs i) = true ∧ TuO P o (tx l c R s vs i) (H (ys (cTn tn i))) (H (ys (cTn tn i + 1))) (vs i)) ∨
 (GoG l.toArray (tx l c R s vs i) o ∧ i = c ∧ tn.contains i = true ∧ TuK P R o (tx l c R s vs i) (H (ys (cTn tn i))) (H (ys (cTn tn i + 1))) (vs i)) ∨
 (GoG l.toArray (tx l c R s vs i) o ∧ i ≠ c ∧ tn.contains i = false ∧ cQ l.toArray c R i o (tx l c R s vs i) (vs i) = true ∧ ((ln.contains i = true ∧ OkO P o (tx l c R s vs i) (H (ys (cTn tn i))) (vs i)) ∨ ∀ y, ok y -> OkO P o (tx l c R s vs i) (H y) (vs i))) ∨
 (SkG l.toArray (tx l c R s vs i) o ∧ i ≠ c ∧ cQ l.toArray c R i o (tx l c R s vs i) (vs i) = true ∧ vs i = .tup [] ∧ (tn.contains i = true -> ys (cTn tn i + 1) = ys (cTn tn i)))
theorem j2I {vs vs' : Nat -> AV} {j : Nat} (h : vs j = vs' j) : vK c R vs j = vK c R vs' j := by unfold vK; rw [h]
theorem j2h {l : List Oper} {vs vs' : Nat -> AV} (k : Nat) (h : ∀ j, j < k -> vs j = vs' j) : tx l c R s vs k = tx l c R s vs' k := by
 unfold tx
 split
 ·exact vf k fun j hj => j2I (h j hj)
 ·exact vf k h
theorem j4Y {l : List Oper} {vs : Nat -> AV} {m : Nat} {o : Oper} (ho : l[m]? = some o) : ∀ t, get (tx l c R s vs (m + 1)) t = get (jX (if m = c then qv R (tx l c R s vs m) else tx l c R s vs m) o.dst (vs m)) t := fun t => by
 have hd : (l[m]?).bind (·.dst) = o.dst := by rw [ho]; rfl
 by_cases hm : m = c
 ·subst hm
  rw [if_pos rfl, tx, if_pos (by omega), tx, if_neg (by omega)]
  simp only [jG, if_true, hd, jx]
  split
  ·rw [vK, if_neg (by omega)]
  ·rw [Xc l s vs _ m (Nat.le_refl _), y6]
 ·rw [if_neg hm]
  by_cases hlt : c < m
  ·rw [tx, if_pos (by omega), tx, if_pos hlt]
   simp only [jG, if_true, hd, jx]
   split
   ·rw [vK, if_neg (by omega)]
   ·rfl
  ·rw [tx, if_neg (by omega), tx, if_neg hlt]
   simp only [jG, if_true, hd]
theorem Zh (l : List Oper) : ∀ (rest : List Oper) (m : Nat) (vs : Nat -> AV) (ys : Nat -> β), l.drop m = rest -> m <= l.length -> ADk P l.toArray H ok tn ln c R K m rest (tx l c R s vs m) (ys (cTn tn m)) ->
  (∀ k, k <= cTn tn m -> ok (ys k)) -> (∀ (i : Nat) (o : Oper), i < m -> l[i]? = some o -> KnK P H ok tn ln c R l s vs ys i o) ->
  ∃ (vs' : Nat -> AV) (ys' : Nat -> β), (∀ k, k = 0 -> ys' k = ys k) ∧ c < l.length ∧ (∃ s', (∀ t, get (tx l c R s vs' l.length) t = get s' t) ∧ K s' (ys' (cTn tn l.length))) ∧ (∀ k, k <= cTn tn l.length -> ok (ys' k)) ∧ ∀ (i : Nat) (o : Oper), l[i]? = some o -> KnK P H ok tn ln c R l s vs' ys' i o
 | [], m, vs, ys, hr, hm, hd, hok, hk => by
  have hm' : m = l.length := by
   have := List.drop_eq_nil_iff.1 hr; omega
  subst hm'
  exact ⟨vs, ys, fun _ _ => rfl, hd.1, hd.2, hok, fun i o ho => hk i o (List.getElem?_eq_some_iff.1 ho).1 ho⟩
 | o :: rest, m, vs, ys, hr, hm, hd, hok, hk => by
  have hlt : m < l.length := by
   have : (l.drop m).length = (o :: rest).length := by rw [hr]
   simp at this; omega
  have ho : l[m]? = some o := by
   have : (l.drop m)[0]? = some o := by rw [hr]; rfl
   simpa using this
  have hr' : l.drop (m + 1) = rest := by rw [<- List.drop_drop, hr]; rfl
  have hcm : ∀ i, i < m -> tn.contains i = true -> cTn tn i + 1 <= cTn tn m := fun i hi hs => by
   have h1 := vH tn i
   rw [hs, if_pos rfl] at h1
   have h2 : cTn tn (i + 1) <= cTn tn m := wr tn hi
   omega
  have hcle : ∀ i, i <= m -> cTn tn i <= cTn tn m := fun i hi => wr tn hi
  have e : ∀ v k, k <= m -> tx l c R s (fun i => if i = m then v else vs i) k = tx l c R s vs k := fun v k hk => j2h k fun j hj => by
   show (if j = m then v else vs j) = vs j; rw [if_neg (by omega)]
  have nx : ∀ v t, get (jX (if m = c then qv R (tx l c R s vs m) else tx l c R s vs m) o.dst v) t = get (tx l c R s (fun i => if i = m then v else vs i) (m + 1)) t := fun v t => by
   rw [j4Y ho, e v m (Nat.le_refl _), if_pos rfl]
  have go1 : ∀ v x', tn.contains m = true -> ok x' -> ADk P l.toArray H ok tn ln c R K (m + 1) rest (jX (if m = c then qv R (tx l c R s vs m) else tx l c R s vs m) o.dst v) x' ->
    (∀ (vs2 : Nat -> AV) (ys2 : Nat -> β), vs2 m = v -> tx l c R s vs2 m = tx l c R s vs m -> ys2 (cTn tn m) = ys (cTn tn m) -> ys2 (cTn tn m + 1) = x' -> KnK P H ok tn ln c R l s vs2 ys2 m o) ->
    ∃ (vs' : Nat -> AV) (ys' : Nat -> β), (∀ k, k = 0 -> ys' k = ys k) ∧ c < l.length ∧ (∃ s', (∀ t, get (tx l c R s vs' l.length) t = get s' t) ∧ K s' (ys' (cTn tn l.length))) ∧ (∀ k, k <= cTn tn l.length -> ok (ys' k)) ∧ ∀ (i : Nat) (o : Oper), l[i]? = some o -> KnK P H ok tn ln c R l s vs' ys' i o := by
   intro v x' hs hx' hd hkn
   have hc := vH tn m
   rw [hs, if_pos rfl] at hc
   obtain ⟨ys2, hys2⟩ : ∃ ys2 : Nat -> β, ys2 = fun k => if k = cTn tn m + 1 then x' else ys k := ⟨_, rfl⟩
   have e1 : ∀ k, k <= cTn tn m -> ys2 k = ys k := fun k hk => by rw [hys2]; show (if _ then _ else _) = _; rw [if_neg (by omega)]
   have e2 : ys2 (cTn tn m + 1) = x' := by rw [hys2]; show (if _ then _ else _) = _; rw [if_pos rfl]
   obtain ⟨vs', ys', q1, q2, q3, q4⟩ := Zh l rest (m + 1) (fun i => if i = m then v else vs i) ys2 hr' hlt (by
     rw [hc, e2]; exact xJ rest _ (nx v) hd)
    (fun k hk => by
      rw [hc] at hk
      by_cases hke : k = cTn tn m + 1
      ·rw [hke, e2]; exact hx'
      ·rw [e1 k (by omega)]; exact hok k (by omega))
    (fun i o' hi ho' => by
      by_cases him : i = m
      ·subst him
       rw [ho] at ho'; cases ho'
       exact hkn _ _ (by simp) (e v i (Nat.le_refl _)) (e1 _ (Nat.le_refl _)) e2
      ·have := hk i o' (by omega) ho'
       unfold KnK at this ⊢
       simp only [e v i (by omega), if_neg him]
       rcases this with ⟨h0, h1, hs, hq, h2⟩ | ⟨h0, h1, hs, h2⟩ | ⟨h0, h1, hs, hq, h2⟩ | ⟨h0, h1, hq, h3, h2⟩
       ·exact .inl ⟨h0, h1, hs, hq, by rw [e1 _ (hcle i (by omega)), e1 _ (hcm i (by omega) hs)]; exact h2⟩
       ·exact .inr (.inl ⟨h0, h1, hs, by rw [e1 _ (hcle i (by omega)), e1 _ (hcm i (by omega) hs)]; exact h2⟩)
       ·exact .inr (.inr (.inl ⟨h0, h1, hs, hq, by rw [e1 _ (hcle i (by omega))]; exact h2⟩))
       ·exact .inr (.inr (.inr ⟨h0, h1, hq, h3, fun hs => by rw [e1 _ (hcle i (by omega)), e1 _ (hcm i (by omega) hs)]; exact h2 hs⟩)))
   exact ⟨vs', ys', fun k hk => (q1 k hk).trans (e1 k (by omega)), q2, q3, q4⟩
  have go2 : ∀ v, m ≠ c -> tn.contains m = false -> ADk P l.toArray H ok tn ln c R K (m + 1) rest (jX (tx l c R s vs m) o.dst v) (ys (cTn tn m)) ->
    (∀ (vs2 : Nat -> AV), vs2 m = v -> tx l c R s vs2 m = tx l c R s vs m -> KnK P H ok tn ln c R l s vs2 ys m o) ->
    ∃ (vs' : Nat -> AV) (ys' : Nat -> β), (∀ k, k = 0 -> ys' k = ys k) ∧ c < l.length ∧ (∃ s', (∀ t, get (tx l c R s vs' l.length) t = get s' t) ∧ K s' (ys' (cTn tn l.length))) ∧ (∀ k, k <= cTn tn l.length -> ok (ys' k)) ∧ ∀ (i : Nat) (o : Oper), l[i]? = some o -> KnK P H ok tn ln c R l s vs' ys' i o := by
   intro v hmc hs hd hkn
   have hc := vH tn m
   rw [hs, if_neg (by simp), Nat.add_zero] at hc
   refine Zh l rest (m + 1) (fun i => if i = m then v else vs i) ys hr' hlt ?_ (by rw [hc]; exact hok) ?_
   ·rw [hc]
    refine xJ rest _ (fun t => ?_) hd
    have := nx v t
    rwa [if_neg hmc] at this
   ·intro i o' hi ho'
    by_cases him : i = m
    ·subst him
     rw [ho] at ho'; cases ho'
     exact hkn _ (by simp) (e v i (Nat.le_refl _))
    ·have := hk i o' (by omega) ho'
     unfold KnK at this ⊢
     simp only [e v i (by omega), if_neg him]
     exact this
  unfold ADk at hd
  rcases hd with ⟨hg, hm2, hs, x', v, hx', hq, htu, hd⟩ | ⟨hg, hm2, hs, x', v, hx', htu, hd⟩ | ⟨hg, hm2, hs, v, hq, hv, hd⟩ | ⟨hg, hm2, hq, hd⟩
  ·exact go1 v x' hs hx' (by rw [if_neg hm2]; exact hd) fun vs2 ys2 e1 e2 e3 e4 => .inl ⟨by rw [e2]; exact hg, hm2, hs, by rw [e1, e2]; exact hq, by rw [e1, e2, e3, e4]; exact htu⟩
  ·exact go1 v x' hs hx' (by rw [if_pos hm2]; exact hd) fun vs2 ys2 e1 e2 e3 e4 => .inr (.inl ⟨by rw [e2]; exact hg, hm2, hs, by rw [e1, e2, e3, e4]; exact htu⟩)
  ·exact go2 v hm2 hs hd fun vs2 e1 e2 => .inr (.inr (.inl ⟨by rw [e2]; exact hg, hm2, hs, by rw [e1, e2]; exact hq, by rw [e1, e2]; exact hv⟩))
  ·cases hs : tn.contains m with
   | true => exact go1 (.tup []) _ hs (hok _ (Nat.le_refl _)) (by rw [if_neg hm2]; exact hd) fun vs2 ys2 e1 e2 e3 e4 => .inr (.inr (.inr ⟨by rw [e2]; exact hg, hm2, by rw [e1, e2]; exact hq, e1, fun _ => by rw [e4, e3]⟩))
   | false => exact go2 (.tup []) hm2 hs hd fun vs2 e1 e2 => .inr (.inr (.inr ⟨by rw [e2]; exact hg, hm2, by rw [e1, e2]; exact hq, e1, fun h => by rw [hs] at h; cases h⟩))
def Xq (l : List Oper) (c R : Nat) (s : j6) (vs : Nat -> AV) (L : Nat -> Bool) : j6 := if L c = true then jG (qv R s) l (vK c R vs) L l.length else jG s l vs L l.length
theorem j0d {id : Nat} {l : List Oper} {x0 : β} (hm : P.follows .mixedOrders = true) (hok : wy n l = true) (hst : tuQ tn ln l = true) (hx0 : ok x0) (hk : ADk P l.toArray H ok tn ln c R (fun s' x => Q .normal s' (H x)) 0 l s x0) : AWp P n (.region id l.toArray true) Q s (H x0) := by
 intro E σ0 ι0 a w hr ht
 obtain ⟨vs, ys, hy0, hcl0, ⟨sF, hF, hQ⟩, hoky, hkn⟩ := Zh (s := s) (c := c) (R := R) l l 0 (fun _ => .undef) (fun _ => x0) rfl (Nat.zero_le _) (by rw [tx, if_neg (by omega)]; exact hk) (fun _ _ => hx0) (fun i o hi => absurd hi (by omega))
 have hy0 := hy0 0 rfl
 refine wpIn_region_any hm ?_
 have hr' : Rel E σ0 ι0 (H (ys 0)) { w with drawn := w.drawn + 1 } := by rw [hy0]; exact ⟨hr.os, hr.tape, hr.output, hr.size, hr.old, hr.sigOld, hr.sub, hr.ch, hr.foot, hr.dj, hr.pin, hr.low, hr.xo⟩
 have key : ∀ (fuel : Nat) (listed : Array Bool) (σ : Sig) (ι : Nat -> Value) (a : Act) (w : World), listed.size = l.length ->
   (∀ j o, l[j]? = some o -> listed.getD j false = true -> ∀ e ∈ o.after.toList, Region.binds .any e = true -> listed.getD e.on false = true) ->
   (List.range l.length).countP (fun j => !listed.getD j false) <= fuel ->
   Rel E σ ι (H (ys (cLn tn l.length (fun j => listed.getD j false)))) w -> TR n σ ι (Xq l c R s vs (fun j => listed.getD j false)) a ->
   wpAnyIn (qd n.ro) 0 P .any l.toArray (fun e a' w' => ∃ s' h' σ' ι', Q e s' h' ∧ Rel E σ' ι' h' w' ∧ TR n σ' ι' s' a') fuel listed a w := by
  have done : ∀ (listed : Array Bool) (σ : Sig) (ι : Nat -> Value) (a : Act) (w : World), listed.size = l.length ->
    Region.ready .any l.toArray listed = [] -> Rel E σ ι (H (ys (cLn tn l.length (fun j => listed.getD j false)))) w -> TR n σ ι (Xq l c R s vs (fun j => listed.getD j false)) a -> ∃ s' h' σ' ι', Q .normal s' h' ∧ Rel E σ' ι' h' w ∧ TR n σ' ι' s' a := by
   intro listed σ ι a w hsz hready hr ht
   have hall : ∀ m j, j < m -> j < l.length -> listed.getD j false = true := by
    intro m
    induction m with
    | zero => intro j hj; omega
    | succ m ih =>
     intro j hj hlen
     by_cases hlt : j < m
     ·exact ih j hlt hlen
     obtain rfl : j = m := by omega
     cases hl : listed.getD j false with
     | true => rfl
     | false =>
      exfalso
      have : j ∈ Region.ready .any l.toArray listed := by
       unfold Region.ready
       refine List.mem_filter.2 ⟨by simpa using hlen, ?_⟩
       have ho : l[j]? = some l[j] := List.getElem?_eq_getElem hlen
       have hj' : listed.getD j true = false := by
        have hb : j < listed.size := by omega
        simpa [Array.getD, hb] using hl
       simp only [hj', Bool.not_false, Bool.true_and, List.getElem?_toArray, ho, Option.map_some, Option.getD_some]
       rw [<- Array.all_toList]
       refine List.all_eq_true.2 fun e he => ?_
       cases hb : Region.binds .any e with
       | false => simp
       | true =>
        have h3 := (qi hok ho).2.2.2.1 e he hb
        rw [ih e.on h3 (by omega)]; simp
      rw [hready] at this; cases this
   have hcl : cLn tn l.length (fun j => listed.getD j false) = cTn tn l.length := wt (Nat.le_refl _) (fun j hj _ => hall _ j hj hj) (fun j hj hj2 => by omega)
   rw [hcl] at hr
   refine ⟨_, _, σ, ι, hQ, hr, ?_⟩
   refine ⟨ht.size, ht.defers, fun t => ?_⟩
   have := ht.at_ t
   rw [Xq, if_pos (hall _ c hcl0 hcl0), qW (M := fun _ => true) l.length fun j hj _ => hall _ j hj hj] at this
   rwa [<- hF, tx, if_pos hcl0]
  intro fuel
  induction fuel with
  | zero =>
   intro listed σ ι a w hsz _ hc hr ht
   have hready : Region.ready .any l.toArray listed = [] := by
    rw [List.eq_nil_iff_forall_not_mem]
    intro j hj
    obtain ⟨h1, h2⟩ := List.mem_filter.1 hj
    have h1' : j < l.length := by simpa using h1
    have hb : j < listed.size := by omega
    have h3 : listed.getD j false = false := by
     have := (Bool.and_eq_true _ _ ▸ h2).1
     simpa [Array.getD, hb] using this
    have : 0 < (List.range l.length).countP (fun j => !listed.getD j false) := List.countP_pos_iff.2 ⟨j, List.mem_range.2 h1', by simp [h3]⟩
    omega
   exact ⟨hready, done listed σ ι a w hsz hready hr ht⟩
  | succ fuel ih =>
   intro listed σ ι a w hsz hdown hc hr ht
   refine ⟨fun hready => done listed σ ι a w hsz hready hr ht, fun i hi => ?_⟩
   obtain ⟨h1, h2⟩ := List.mem_filter.1 hi
   have hil : i < l.length := by simpa using h1
   have hb : i < listed.size := by omega
   have ho : l[i]? = some l[i] := List.getElem?_eq_getElem hil
   have h2' := Bool.and_eq_true _ _ ▸ h2
   have hif : listed.getD i false = false := by
    have := h2'.1
    simpa [Array.getD, hb] using this
   have hafter : ∀ e ∈ l[i].after.toList, Region.binds .any e = true -> listed.getD e.on false = true := by
    have h3 := h2'.2
    simp only [List.getElem?_toArray, ho, Option.map_some, Option.getD_some] at h3
    rw [<- Array.all_toList] at h3
    intro e he hbe
    have := List.all_eq_true.1 h3 e he
    simpa [hbe] using this
   have hopsA : ∀ j o, l.toArray[j]? = some o ↔ l[j]? = some o := fun j o => by rw [List.getElem?_toArray]
   obtain ⟨c0, c1, c2, c3, c4, c5⟩ := qi hok ho
   -- ahead of this one
   have hL' : ∀ x, (listed.setIfInBounds i true).getD x false = (listed.getD x false || x == i) := fun x => by
    by_cases hx : x = i
    ·subst hx; simp [Array.getD, hb]
    ·have : ¬ i = x := fun e => hx e.symm
     simp [Array.getD_eq_getD_getElem?, Array.getElem?_setIfInBounds, this, hx]
   have hdown' : ∀ j o, l[j]? = some o -> (listed.setIfInBounds i true).getD j false = true -> ∀ e ∈ o.after.toList, Region.binds .any e = true -> (listed.setIfInBounds i true).getD e.on false = true := by
    intro j o hjo hj e he hbe
    rw [hL'] at hj ⊢
    rcases (Bool.or_eq_true _ _).mp hj with hj | hj
    ·rw [hdown j o hjo hj e he hbe]; rfl
    ·have : j = i := by simpa using hj
     subst this
     rw [ho] at hjo; cases hjo
     rw [hafter e he hbe]; rfl
   have hbef' := qG (ops := l.toArray) (L := fun j => (listed.setIfInBounds i true).getD j false) (fun j o hjo => hdown' j o ((hopsA j o).1 hjo))
   have hbef := qG (ops := l.toArray) (L := fun j => listed.getD j false) (fun j o hjo => hdown j o ((hopsA j o).1 hjo))
   have hlow : ∀ x, x ≠ i -> ((Region.before l.toArray).getD i 0).testBit x = true -> listed.getD x false = true := by
    intro x hx hbit
    have := hbef' i x (by simp [hL']) hbit
    simp only [hL'] at this
    rcases (Bool.or_eq_true _ _).mp this with h | h
    ·exact h
    ·exact absurd (by simpa using h) hx
   -- a slot that it names: those that write it ahead of it, in the text, have come up; the others have not
   have hside : ∀ t, (t ∈ qZ l.toArray l[i] ∨ l[i].dst = some t) -> ∀ j, j < l.length -> (l[j]?).bind (·.dst) = some t -> j ≠ i -> listed.getD j false = decide (j < i) := by
    intro t htm j hj hjd hne
    have hd : jz l.toArray j = some t := by simpa [jz] using hjd
    have hbit := c5 j t hj hne hd htm
    by_cases hlt : j < i
    ·rw [Nat.max_eq_right (by omega), Nat.min_eq_left (by omega)] at hbit
     rw [hlow j hne hbit]; simp [hlt]
    ·have hgt : i < j := by omega
     rw [Nat.max_eq_left (by omega), Nat.min_eq_right (by omega)] at hbit
     simp only [hlt, decide_false]
     cases hc : listed.getD j false with
     | false => rfl
     | true => have := hbef j i hc hbit; simp only [hif] at this; cases this
   have j9 : ∀ (s0 : j6) (us : Nat -> AV) t, (t ∈ qZ l.toArray l[i] ∨ l[i].dst = some t) -> get (jG s0 l us (fun j => listed.getD j false) l.length) t = get (jG s0 l us (fun _ => true) i) t := by
    intro s0 us t htm
    rw [qJ (i := i) l.length (by omega) fun j h3 h4 hjd => ?_]
    ·exact qW i fun j h3 hjd => by rw [hside t htm j (by omega) hjd (by omega)]; simp [h3]
    ·by_cases hji : j = i
     ·subst hji; exact hif
     ·rw [hside t htm j h4 hjd hji]; simp; omega
   have hcount : (List.range l.length).countP (fun j => !(listed.setIfInBounds i true).getD j false) <= fuel := by
    have hlt : (List.range l.length).countP (fun j => !(listed.setIfInBounds i true).getD j false) < (List.range l.length).countP (fun j => !listed.getD j false) := by
     have hsplit : List.range l.length = List.range i ++ i :: (List.range' (i + 1) (l.length - (i + 1))) := by
      obtain ⟨m, hm⟩ : ∃ m, l.length = i + (m + 1) := ⟨l.length - (i + 1), by omega⟩
      rw [hm, show i + (m + 1) - (i + 1) = m by omega, List.range_eq_range', List.range_eq_range', <- List.range'_append_1, List.range'_succ]
      simp
     rw [hsplit, List.countP_append, List.countP_append, List.countP_cons, List.countP_cons]
     have e1 : (List.range i).countP (fun j => !(listed.setIfInBounds i true).getD j false) = (List.range i).countP (fun j => !listed.getD j false) := List.countP_congr fun x hx => by
      rw [hL']; have := List.mem_range.1 hx; simp [show x ≠ i by omega]
     have e2 : (List.range' (i + 1) (l.length - (i + 1))).countP (fun j => !(listed.setIfInBounds i true).getD j false) = (List.range' (i + 1) (l.length - (i + 1))).countP (fun j => !listed.getD j false) := List.countP_congr fun x hx => by
      rw [hL']; have := (List.mem_range'_1.1 hx).1; simp [show x ≠ i by omega]
     rw [e1, e2, hL']
     simp [hif]
    omega
   have hcL' : cLn tn l.length (fun j => (listed.setIfInBounds i true).getD j false) = cLn tn l.length (fun j => listed.getD j false) + (if tn.contains i then 1 else 0) := by
    have hsplit : List.range l.length = List.range i ++ i :: (List.range' (i + 1) (l.length - (i + 1))) := by
     obtain ⟨m, hm⟩ : ∃ m, l.length = i + (m + 1) := ⟨l.length - (i + 1), by omega⟩
     rw [hm, show i + (m + 1) - (i + 1) = m by omega, List.range_eq_range', List.range_eq_range', <- List.range'_append_1, List.range'_succ]
     simp
    unfold cLn
    rw [hsplit, List.countP_append, List.countP_append, List.countP_cons, List.countP_cons]
    have e1 : (List.range i).countP (fun j => (listed.setIfInBounds i true).getD j false && tn.contains j) = (List.range i).countP (fun j => listed.getD j false && tn.contains j) := List.countP_congr fun x hx => by
     rw [hL']; have := List.mem_range.1 hx; simp [show x ≠ i by omega]
    have e2 : (List.range' (i + 1) (l.length - (i + 1))).countP (fun j => (listed.setIfInBounds i true).getD j false && tn.contains j) = (List.range' (i + 1) (l.length - (i + 1))).countP (fun j => listed.getD j false && tn.contains j) := List.countP_congr fun x hx => by
     rw [hL']; have := (List.mem_range'_1.1 hx).1; simp [show x ≠ i by omega]
    rw [e1, e2]
    simp only [hL', hif, BEq.rfl, Bool.or_true, Bool.true_and, Bool.false_and]
    cases tn.contains i <;> simp <;> omega
   have hput : ∀ (s0 : j6) (us : Nat -> AV) t, get (jG s0 l us (fun j => (listed.setIfInBounds i true).getD j false) l.length) t = get (jX (jG s0 l us (fun j => listed.getD j false) l.length) l[i].dst (us i)) t := by
    intro s0 us t
    rw [jx]
    by_cases hdt : l[i].dst = some t
    ·rw [if_pos hdt, qJ (i := i + 1) l.length (by omega) fun j h4 h5 hjd => ?_]
     ·simp only [jG, hL', hif, BEq.rfl, Bool.or_true, if_true, jx, ho, Option.bind_some, if_pos hdt]
     ·rw [hL', hside t (.inr hdt) j h5 hjd (by omega)]; simp; omega
    ·rw [if_neg hdt]
     exact qW _ fun j h4 hjd => by
      rw [hL']
      have : j ≠ i := fun e => by subst e; rw [ho] at hjd; exact hdt (by simpa using hjd)
      simp [this]
   have hkn' := hkn i _ ho
   -- what is known of the one that comes up
   have hq : i ≠ c -> cQ l.toArray c R i l[i] (tx l c R s vs i) (vs i) = true := fun hne => by
    unfold KnK at hkn'
    rcases hkn' with ⟨_, _, _, hq, _⟩ | ⟨_, e, _⟩ | ⟨_, _, _, hq, _⟩ | ⟨_, _, hq, _⟩
    ·exact hq
    ·exact absurd e hne
    ·exact hq
    ·exact hq
   have hval : ∀ t ∈ qZ l.toArray l[i], VR σ ι (get (tx l c R s vs i) t) (a.tmps.getD t undef) := fun t htm => by
    have hv := ht.at_ t
    unfold Xq at hv
    by_cases hLc : listed.getD c false = true
    ·rw [if_pos hLc, j9 _ _ t (.inl htm)] at hv
     have hic : i ≠ c := fun e => by rw [<- e, hif] at hLc; cases hLc
     by_cases hci : c < i
     ·rw [tx, if_pos hci]; exact hv
     ·rw [Xc l s vs _ i (by omega)] at hv
      have h3 := hq hic
      rw [cQ, show Nat.blt i c = true by simp only [Nat.blt_eq]; omega, cond_true] at h3
      rcases (Bool.or_eq_true _ _).mp h3 with h3 | h3
      ·have h4 : listed.getD i false = true := hbef c i hLc h3
       rw [hif] at h4; cases h4
      ·have h4 := List.all_eq_true.1 (Bool.and_eq_true _ _ ▸ h3).2 t htm
       rw [tx, if_neg hci] at h4 ⊢
       rw [XW (by simpa using h4)] at hv
       exact hv
    ·rw [if_neg hLc, j9 _ _ t (.inl htm)] at hv
     by_cases hci : c < i
     ·rw [tx, if_pos hci]
      rcases j0U (c := c) (R := R) l s vs (fun _ => true) i t with h3 | h3
      ·rw [h3]; exact hv
      ·rw [h3]; exact .base _ _ (.undef _)
     ·rw [tx, if_neg hci]; exact hv
   have fin : ∀ σ' ι' w' u, (∀ (n : Md) (s : j6) (a : Act), TR n σ ι s a -> TR n σ' ι' (if i = c then qv R s else s) a) -> Rel E σ' ι' (H (ys (cLn tn l.length (fun j => (listed.setIfInBounds i true).getD j false)))) w' -> VR σ' ι' (vs i) u ->
     wpAnyIn (qd n.ro) 0 P .any l.toArray (fun e a' w' => ∃ s' h' σ' ι', Q e s' h' ∧ Rel E σ' ι' h' w' ∧ TR n σ' ι' s' a') fuel (listed.setIfInBounds i true) (a.put l[i].dst u) w' := by
    intro σ' ι' w' u hle hr'' hv
    refine ih _ σ' ι' _ w' (by simpa using hsz) hdown' hcount hr'' ?_
    have hp := (hle _ _ _ ht).putS c2 hv
    refine ⟨hp.size, hp.defers, fun t => ?_⟩
    have h3 := hp.at_ t
    suffices e : get (Xq l c R s vs (fun j => (listed.setIfInBounds i true).getD j false)) t = get (jX (if i = c then qv R (Xq l c R s vs (fun j => listed.getD j false)) else Xq l c R s vs (fun j => listed.getD j false)) l[i].dst (vs i)) t by
     rw [e]; exact h3
    unfold Xq
    by_cases hic : i = c
    ·subst hic
     rw [if_pos rfl]
     simp only [hif]
     rw [if_pos (by rw [hL']; simp), if_neg (by simp), hput, jx, jx]
     split
     ·rw [vK, if_neg (by omega)]
     ·rw [y6]
      refine Q6 (fun k hik hk hLk => ?_) l.length (Nat.le_refl _) t
      have hne : k ≠ i := fun e => by simp only [e, hif] at hLk; cases hLk
      have hqk : cQ l.toArray i R k l[k] (tx l i R s vs k) (vs k) = true := by
       have hkk := hkn k _ (List.getElem?_eq_getElem hk)
       unfold KnK at hkk
       rcases hkk with ⟨_, _, _, hq, _⟩ | ⟨_, e, _⟩ | ⟨_, _, _, hq, _⟩ | ⟨_, _, hq, _⟩
       ·exact hq
       ·exact absurd e hne
       ·exact hq
       ·exact hq
      rw [cQ, show Nat.blt k i = false from Bool.eq_false_iff.2 (fun e => by rw [Nat.blt_eq] at e; omega), cond_false, show Nat.beq k i = false from Bool.eq_false_iff.2 (fun e => hne (Nat.eq_of_beq_eq_true e)), Bool.false_or] at hqk
      rcases (Bool.or_eq_true _ _).mp hqk with h4 | h4
      ·have := hbef k i hLk h4
       simp only [hif] at this; cases this
      ·exact XW (by simpa using h4)
    ·rw [if_neg hic]
     have hLc : (listed.setIfInBounds i true).getD c false = listed.getD c false := by
      rw [hL', show (c == i) = false from by simp; exact fun e => hic e.symm, Bool.or_false]
     simp only [hLc]
     by_cases hl : listed.getD c false = true
     ·rw [if_pos hl, if_pos hl, hput, jx, jx]
      split
      ·rw [vK]
       split
       ·rename_i hlt
        have h3 := hq hic
        rw [cQ, show Nat.blt i c = true by simp only [Nat.blt_eq]; omega, cond_true] at h3
        rcases (Bool.or_eq_true _ _).mp h3 with h3 | h3
        ·have h4 : listed.getD i false = true := hbef c i hl h3
         rw [hif] at h4; cases h4
        ·have h5 := (Bool.and_eq_true _ _ ▸ h3).1
         exact XW (by simpa using h5)
       ·rfl
      ·rfl
     ·rw [if_neg hl, if_neg hl, hput]
   unfold wpOpIn
   simp only [List.getElem?_toArray, ho]
   have hopnd : ∀ x ∈ l[i].op.operands.toList, VR σ ι (evA (tx l c R s vs i) x) (a.eval x) := by
    intro x hx
    refine jZ (List.all_eq_true.1 c1 x hx) fun t htx => ?_
    exact hval t (List.mem_append_left _ (List.mem_filterMap.2 ⟨x, hx, by rw [htx]⟩))
   have hdn : ∀ j want d, l[i].guard = some (j, want) -> jz l.toArray j = some d -> d < n.n := fun j want d hg hd => by
    have hj : ∃ oj, l[j]? = some oj ∧ oj.dst = some d := by
     unfold jz at hd
     cases hjo : l[j]? with
     | none => simp [hjo] at hd
     | some oj => exact ⟨oj, rfl, by simpa [hjo] using hd⟩
    obtain ⟨oj, hjo, hjd⟩ := hj
    have := (qi hok hjo).2.2.1
    rw [hjd] at this
    simpa [qj] using this
   have hdt : ∀ j want d, l[i].guard = some (j, want) -> jz l.toArray j = some d -> d ∈ qZ l.toArray l[i] := fun j want d hg hd => List.mem_append_right _ (by rw [hg]; simp [hd])
   have hwant : GoG l.toArray (tx l c R s vs i) l[i] -> Region.wanted l[i] (yielded l.toArray a.tmps) = true := by
    rintro (hg | ⟨j, want, d, hg, hd, hb'⟩)
    ·simp [Region.wanted, hg]
    ·have hv := hval d (hdt j want d hg hd)
     rw [hb'] at hv
     rw [vU hg hd (by rw [ht.size]; exact hdn j want d hg hd) hv]
     simp
   have hskip : SkG l.toArray (tx l c R s vs i) l[i] -> Region.wanted l[i] (yielded l.toArray a.tmps) = false := by
    rintro ⟨j, want, d, hg, hd, hb'⟩
    have hv := hval d (hdt j want d hg hd)
    rcases hb' with hb' | hb'
    ·rw [hb'] at hv
     rw [vU hg hd (by rw [ht.size]; exact hdn j want d hg hd) hv]
     cases want <;> rfl
    ·rw [hb'] at hv
     exact wB hg hd (by rw [ht.size]; exact hdn j want d hg hd) hv.tup0_inv
   -- an operation that touches what is turned: those in the text ahead of it have come up, the others have not
   have hstage : tn.contains i = true ∨ ln.contains i = true -> cLn tn l.length (fun j => listed.getD j false) = cTn tn i := fun hmem => by
    refine wt (by omega) (fun j hj hs => ?_) fun j hj hjl hs => ?_
    ·refine hlow j (by omega) (xy hst hj hil ?_)
     rcases hmem with hmem | hmem <;> simp only [hs, hmem, Bool.true_or, Bool.or_true, Bool.true_and, Bool.and_true]
    ·by_cases hji : j = i
     ·subst hji; exact hif
     ·have hbit := xy hst (show i < j by omega) hjl (by rcases hmem with hmem | hmem <;> simp only [hs, hmem, Bool.true_or, Bool.or_true, Bool.true_and, Bool.and_true])
      cases hc : listed.getD j false with
      | false => rfl
      | true => have := hbef j i hc hbit; simp only [hif] at this; cases this
   unfold KnK at hkn'
   rcases hkn' with ⟨hg, hic, hs, _, hS⟩ | ⟨hg, hic, hs, hS⟩ | ⟨hg, hic, hs, _, hO⟩ | ⟨hg, hic, _, hv0, hy⟩
   ·rw [if_pos (hwant hg)]
    refine Je c0 ?_
    have hc := hstage (.inl hs)
    rw [hc] at hr
    refine hS E σ ι a w hr hopnd _ _ fun σ' ι' w' u h2 h3 h4 h5 => fin σ' ι' w' u (fun n s a t => by rw [if_neg hic]; exact h3 n s a t) ?_ h5
    rw [hcL', hs, if_pos rfl, hc]; exact h4
   ·rw [if_pos (hwant hg)]
    refine Je c0 ?_
    have hc := hstage (.inl hs)
    rw [hc] at hr
    refine hS E σ ι a w hr hopnd _ _ fun σ' ι' w' u h2 h3 h4 h5 => fin σ' ι' w' u (fun n s a t => by rw [if_pos hic]; exact h3 n s a t) ?_ h5
    rw [hcL', hs, if_pos rfl, hc]; exact h4
   ·have hc2 : cLn tn l.length (fun j => (listed.setIfInBounds i true).getD j false) = cLn tn l.length (fun j => listed.getD j false) := by rw [hcL', hs]; simp
    rw [if_pos (hwant hg)]
    refine Je c0 ?_
    rcases hO with ⟨hl, hO⟩ | hO
    ·rw [hstage (.inr hl)] at hr
     exact hO E σ ι a w hr hopnd _ _ fun σ' w' u h3 h4 h5 => fin σ' ι w' u (fun _ _ _ t => by rw [if_neg hic]; exact t.mono h3) (by rw [hc2, hstage (.inr hl)]; exact h4) h5
    ·have hcle : cLn tn l.length (fun j => listed.getD j false) <= cTn tn l.length := by
      refine List.countP_mono_left fun x _ hx => ?_
      exact (Bool.and_eq_true _ _ ▸ hx).2
     exact hO _ (hoky _ hcle) E σ ι a w hr hopnd _ _ fun σ' w' u h3 h4 h5 => fin σ' ι w' u (fun _ _ _ t => by rw [if_neg hic]; exact t.mono h3) (by rw [hc2]; exact h4) h5
   ·rw [if_neg (by rw [hskip hg]; simp)]
    refine ⟨fun _ _ => trivial, fin σ ι w undef (fun _ _ _ t => by rw [if_neg hic]; exact t) ?_ (by rw [hv0]; exact VR.tup0)⟩
    cases hs : tn.contains i with
    | false => rw [hcL', hs]; simpa using hr
    | true =>
     have hc := hstage (.inl hs)
     rw [hcL', hs, if_pos rfl, hc, hy hs, <- hc]; exact hr
 have hrep : ∀ j, (Array.replicate l.toArray.size false).getD j false = false := fun j => by
  simp only [Array.getD_eq_getD_getElem?, Array.getElem?_replicate]; split <;> rfl
 have hc0 : cLn tn l.length (fun j => (Array.replicate l.toArray.size false).getD j false) = 0 := by
  unfold cLn; rw [List.countP_eq_zero]; intro j _; simp only [hrep]; simp
 refine key l.toArray.size _ σ0 ι0 a _ (by simp) ?_ ?_ (by rw [hc0]; exact hr') ?_
 ·intro j o hj hl
  rw [hrep] at hl; cases hl
 ·refine Nat.le_trans List.countP_le_length ?_
  simp
 ·refine ⟨ht.size, ht.defers, fun t => ?_⟩
  have := ht.at_ t
  rw [Xq, if_neg (by rw [hrep]; simp), qJ (i := 0) l.length (Nat.zero_le _) fun j _ _ _ => hrep j]
  exact this

end
section
variable {P : Program} {n : Md} {Q : Exit -> j6 -> j8 -> Prop} {s : j6} {h : j8} {ops : Array Oper} {rest : List Oper} {o : Oper}
theorem Jx {α : Type} {id sz by_ : Nat} {l ys : List α} {f : α -> List AV} {t e : TypeId} {x y : Operand} (ho : o.op = .call { callee := .builtin .append, args := #[x, y], argTypes := #[t, t] }) (ht : qD P t = some e) (hz : q9 P e sz = true) {z0 : List AV} (h0 : wQ P e = some z0) (hz0 : z0.length = sz)
  (hby : w0 P e by_ = true) (hx : evA s x = .own id) (hg : j9 h id = some (.row e sz (l.map f))) {yl : List (List AV)} (hy : evA s y = .lst sz yl) (hyl : yl = ys.map f) (hq : ∀ y ∈ ys, (f y).all Ql = true) (hlen : (l.length + ys.length) * by_ <= 140737488355328) (hlen2 : l.length + ys.length <= 9223372036854775807)
  (h5 : Nat.ble 5 id = true) (hl : wl id h = true) : TuK P id o s h ((id, .row e sz ((l ++ ys).map f)) :: h) (.own id) := fun E σ ι a w hr hv K Q hK => by
 subst hyl
 have hX : VR σ ι (evA s x) (a.eval x) := hv x (by rw [ho]; simp [Op.operands, Call.operands])
 have hY : VR σ ι (evA s y) (a.eval y) := hv y (by rw [ho]; simp [Op.operands, Call.operands])
 rw [hx] at hX
 rw [hy] at hY
 obtain ⟨hsz0, hsz, vs, hown, hL⟩ := hr.ch id _ hg
 obtain ⟨zi, z, hzi, hzz, hzL⟩ := vI h0
 have hisz : zi.size = sz := by unfold q9 at hz; rw [hzi] at hz; exact Nat.eq_of_beq_eq_true hz
 have hiby : zi.bytes = by_ := by unfold w0 at hby; rw [hzi] at hby; exact Nat.eq_of_beq_eq_true hby
 have hzs : z.cells.size = sz := by rw [<- Array.length_toList, <- (hzL σ).1, hz0]
 have e1 := hX.own_inv
 have hu := qF ht
 -- what append yields
 have key : ∃ v' w' ws, (Builtin.append_ #[t, t] o.type #[ι id, a.eval y]).run P w = .ok v' w' ∧ w'.ownsRow 0 e sz v' (l.length + ys.length) (vs ++ ws) ∧ w.grownBy w' (ι id).ownBlock ∧ (jC v' = jC (ι id) ∨ jC v' = some w.heap.size) ∧ L2 (VR0 σ) (ys.map f).flatten ws ∧ (∀ c ∈ ys.map f, c.length = sz) := by
  obtain ⟨A, cap, e2, e3, e4, e5⟩ := hY.lst_inv
  rw [List.length_map] at hown
  by_cases hnil : ys = []
  ·subst hnil
   refine ⟨ι id, w, [], ?_, by simpa using hown, ⟨rfl, rfl, rfl, Nat.le_refl _, fun _ _ _ => rfl⟩, .inl rfl, L2.nil _, by simp⟩
   rw [e2]
   rcases hown.2 with ⟨h2, h3⟩ | ⟨g, cap', cur, h2, _, h3, h4, _, h6, _⟩
   ·rw [h2]
    cases A with
    | none => simp [Builtin.append_, run_underlying hu, sizeOf, typeInfo, hzi, Builtin.lenOf, Builtin.firstCells]
    | some ad =>
     have hl0 := run_loadCells_list (P := P) w ad [] (by simp)
     simp only [List.length_nil] at hl0
     simp [Builtin.append_, run_underlying hu, sizeOf, typeInfo, hzi, Builtin.lenOf, Builtin.firstCells, hl0]
   ·rw [h2]
    cases A with
    | none => simp [Builtin.append_, run_underlying hu, sizeOf, typeInfo, hzi, Builtin.lenOf, Builtin.firstCells, h4, storeCells]
    | some ad =>
     have hl0 := run_loadCells_list (P := P) w ad [] (by simp)
     simp only [List.length_nil] at hl0
     simp [Builtin.append_, run_underlying hu, sizeOf, typeInfo, hzi, Builtin.lenOf, Builtin.firstCells, h4, storeCells, hl0]
  ·rcases e5 with e5 | ⟨b, off, g, rfl, h3, h4, h5'⟩
   ·exact absurd (by simpa using e5) hnil
   have hfl : ((ys.map f).flatten).length = ys.length * sz := by rw [qM h3, List.length_map]
   obtain ⟨ws, hws⟩ : ∃ ws : List Value, ws = (List.range (ys.length * sz)).map g := ⟨_, rfl⟩
   have hwl : ws.length = ys.length * sz := by rw [hws]; simp
   have hwg : ∀ j u, ws[j]? = some u -> j < ys.length * sz ∧ u = g j := fun j u hj => by
    have hjl : j < ys.length * sz := by rw [<- hwl]; exact (List.getElem?_eq_some_iff.1 hj).1
    refine ⟨hjl, ?_⟩
    rw [hws] at hj
    simpa [hjl] using hj.symm
   have hone : ∀ u ∈ ws, u.oneCell' = true := fun u hu => by
    obtain ⟨j, hj⟩ := List.getElem?_of_mem hu
    obtain ⟨hjl, rfl⟩ := hwg j u hj
    have h6 : (ys.map f).flatten[j]? = some ((ys.map f).flatten[j]'(by omega)) := List.getElem?_eq_getElem (by omega)
    have h7 : (ys.map f).flatten[j]'(by omega) ∈ (ys.map f).flatten := List.getElem_mem _
    obtain ⟨c, hc, hc2⟩ := List.mem_flatten.1 h7
    obtain ⟨y0, hy0, rfl⟩ := List.mem_map.1 hc
    exact (VR.base (ι := ι) _ _ (h5' j _ h6)).one (List.all_eq_true.1 (hq y0 hy0) _ hc2)
   have hnews : ∀ j u, ws[j]? = some u -> w.cell? ((⟨b, off, none⟩ : Addr).add j) = some u := fun j u hj => by
    obtain ⟨hjl, rfl⟩ := hwg j u hj
    rw [Go.WideShapes.add_plain]
    exact hr.sub _ _ (h4 j _ (List.getElem?_eq_getElem (by omega)))
   have hmax : l.length + ys.length <= maxLen := by simp only [maxLen]; omega
   obtain ⟨v', w', h6, h7, h8, _⟩ := run_append_own (P := P) w 0 t o.type e zi z sz by_ hu hzi hzz hisz hiby hzs hsz0 (ι id) l.length vs hown ⟨b, off, none⟩ ys.length cap ws hwl hnews hone hmax hlen (Nat.zero_le _)
   have hft : jC v' = jC (ι id) ∨ jC v' = some w.heap.size := by
    have h7' := h7
    rcases hown.2 with ⟨h2, h3'⟩ | ⟨g0, cap0, cur0, h2, _, hg0, hn0, hc0, hs0, htake⟩
    ·-- out of nothing
     have hown' : w.ownsRow w.heap.size e sz (ι id) l.length vs := ⟨hown.1, .inl ⟨h2, h3'⟩⟩
     obtain ⟨v2, w2, k6, k7, k8, _⟩ := run_append_own (P := P) w w.heap.size t o.type e zi z sz by_ hu hzi hzz hisz hiby hzs hsz0 (ι id) l.length vs hown' ⟨b, off, none⟩ ys.length cap ws hwl hnews hone hmax hlen (Nat.le_refl _)
     rw [h6] at k6
     injection k6 with k6 k6'
     subst k6; subst k6'
     have hnr := run_append_nil (P := P) w t o.type e zi z hu hzi hzz ⟨b, off, none⟩ ys.length cap ws (by rw [hisz]; exact hwl) hnews (by have := List.length_pos_iff.2 hnil; omega) (by omega) (by rw [h3'] at hlen; simp only [Nat.zero_add] at hlen; rw [hiby]; omega)
     rw [<- h2, h6] at hnr
     injection hnr with hnr _
     exact .inr (by rw [hnr]; rfl)
    ·by_cases hroom : l.length + ys.length <= cap0
     ·have hrr := run_append_room (P := P) w t o.type e zi hu hzi g0 l.length cap0 cur0 hg0 ⟨b, off, none⟩ ys.length cap ws (by rw [hisz]; exact hwl) hnews hone hroom (by rw [hisz, hwl, hs0, <- Nat.add_mul]; exact Nat.mul_le_mul_right _ hroom)
      rw [<- h2, h6] at hrr
      injection hrr with hrr _
      exact .inl (by rw [hrr, h2]; rfl)
     ·have hgr := run_append_grow (P := P) w t o.type e zi z hu hzi hzz ⟨g0, 0, none⟩ l.length cap0 vs (by rw [hisz]; exact hown.1) (hown.cells (g := g0) (by rw [h2]; rfl)) ⟨b, off, none⟩ ys.length cap ws (by rw [hisz]; exact hwl) hnews (by omega) (by omega) (growslice_fits (by omega) (by rw [hiby]; exact hlen))
      rw [<- h2, h6] at hgr
      injection hgr with hgr _
      exact .inr (by rw [hgr]; rfl)
   rw [List.length_map] at e2
   rw [e2]
   refine ⟨v', w', ws, h6, h7, h8, hft, ⟨by omega, fun j x u hx hu => ?_⟩, h3⟩
   obtain ⟨hjl, rfl⟩ := hwg j u hu
   exact h5' j x hx
 obtain ⟨v', w', ws, h6, h7, h8, hft, h9, h10⟩ := key
 unfold Oper.wp
 have hrun : (execOp a.eval o).run P w = .ok (.value v') w' := by
  unfold execOp
  simp only [ho, resolve, invoke, builtin, Sem.run_bind, Sem.run_pure, Result.andThen_ok, List.map_toArray, List.map_cons, List.map_nil, e1, h6]
 rw [hrun]
 have hform : ∃ A m c, v' = .slice A m c := by
  rcases h7.2 with ⟨h2, _⟩ | ⟨g, cap', cur, h2, _⟩
  ·exact ⟨_, _, _, h2⟩
  ·exact ⟨_, _, _, h2⟩
 obtain ⟨A0, m0, c0, e0⟩ := hform
 obtain ⟨B0, d0, hi0, _⟩ := hr.rowForm hg
 have hob : ∀ k, (ι id).ownBlock = some k ↔ jC (ι id) = some k := fun k => by rw [hi0]; cases B0 <;> simp [jC, Value.ownBlock]
 have hnew := hr.turn (id := id) (u := v') (h' := (id, .row e sz ((l ++ ys).map f)) :: h) (c' := .row e sz ((l ++ ys).map f)) (w' := w')
  (fun i c hi hc => by
    rw [j7, if_neg (fun e => hi e.symm)] at hc
    exact ⟨hc, .inr (vM hl i c hc)⟩)
  (by rw [j7, if_pos rfl])
  ⟨hsz0, fun c hc => by
   rw [List.map_append] at hc
   rcases List.mem_append.1 hc with hc | hc
   ·exact hsz c hc
   ·exact h10 c hc, vs ++ ws, by rw [jM, List.length_map, List.length_append]; exact h7, by rw [List.map_append, List.flatten_append]; exact hL.append h9⟩
  h8.os h8.tape h8.output h8.size
  (fun k hk hne => h8.block k hk fun e => hne _ hg ((hob k).1 e.symm))
  (fun g hv => by
    rcases hft with h1 | h1
    ·exact .inl ⟨_, hg, by rw [<- h1]; exact hv⟩
    ·rw [h1] at hv; cases hv; exact .inr (Nat.le_refl _))
  (.inl (Nat.ble_eq ▸ h5))
 refine hK σ _ _ _ (Sig.le.refl σ) (fun n s a t => t.kill id (Nat.ble_eq ▸ h5) v') hnew ?_
 have h2 := VR.own (σ := σ) (ι := upd ι id v') id (by rw [jM, e0]; rfl)
 rwa [jM] at h2
def xk : List AV -> List Bool -> List AV
 | x :: xs, b :: bs => (bif b then .undef else x) :: xk xs bs
 | xs, _ => xs
theorem XA : ∀ (xs : List AV) (bs : List Bool) (j : Nat) (x : AV), (xk xs bs)[j]? = some x -> ∃ y, xs[j]? = some y ∧ (x = y ∨ x = .undef)
 | [], bs, j, x, h => by cases bs <;> simp [xk] at h
 | y :: ys, [], j, x, h => ⟨x, by simpa [xk] using h, .inl rfl⟩
 | y :: ys, b :: bs, 0, x, h => by
  refine ⟨y, rfl, ?_⟩
  cases b with
  | true => right; simp [xk] at h; exact h.symm
  | false => left; simp [xk] at h; exact h.symm
 | y :: ys, b :: bs, j + 1, x, h => by
  obtain ⟨z, h1, h2⟩ := XA ys bs j x (by simpa [xk] using h)
  exact ⟨z, by simpa using h1, h2⟩
theorem Vh : ∀ (xs : List AV) (bs : List Bool), (xk xs bs).length = xs.length
 | [], bs => by cases bs <;> rfl
 | y :: ys, [] => rfl
 | y :: ys, b :: bs => by simp [xk, Vh ys bs]
theorem Rel.maskB {E : Env} {σ : Sig} {ι : Nat -> Value} {w : World} (hr : Rel E σ ι h w) {id : Nat} {ty : TypeId} {cs : List AV} (bs : List Bool) (hg : j9 h id = some (.blk ty cs)) : Rel E σ ι ((id, .blk ty (xk cs bs)) :: h) w := by
 obtain ⟨g, cur, e1, e2, e3⟩ := hr.ch id _ hg
 have hsame : upd ι id (ι id) = ι := by funext i; unfold upd; split <;> simp_all
 have hnew := hr.turn (id := id) (u := ι id) (h' := (id, .blk ty (xk cs bs)) :: h) (c' := .blk ty (xk cs bs)) (w' := w)
  (fun i c hi hc => by rw [j7, if_neg (fun e => hi e.symm)] at hc; exact ⟨hc, .inl rfl⟩) (by rw [j7, if_pos rfl])
  (by rw [hsame]; exact ⟨g, cur, e1, e2, by rw [Vh]; exact e3.1, fun j x y hx hy => by
    obtain ⟨z, h1, h2⟩ := XA cs bs j x hx
    rcases h2 with rfl | rfl
    ·exact e3.2 j x y h1 hy
    ·exact .base _ _ (.undef _)⟩)
  rfl rfl rfl (Nat.le_refl _) (fun _ _ _ => rfl) (fun g hv => .inl ⟨_, hg, hv⟩) (.inr rfl)
 rw [hsame] at hnew
 exact hnew
theorem yL {id : Nat} {ty : TypeId} {cs : List AV} (bs : List Bool) (hg : j9 h id = some (.blk ty cs)) : Turns n s h s ((id, .blk ty (xk cs bs)) :: h) := fun E σ ι a w hr ht => ⟨σ, ι, hr.maskB bs hg, ht⟩
theorem TuK.post {R : Nat} {h' h'' : j8} {v : AV} (ht : TuK P R o s h h' v) (hh : LeH h' h'') : TuK P R o s h h'' v := fun E σ ι a w hr hv K Q hK =>
 ht E σ ι a w hr hv K Q fun σ' ι' w' u k1 k2 k3 k4 => hK σ' ι' w' u k1 k2 (k3.le hh) k4
theorem TuK.pre {R : Nat} {h0 h' : j8} {v : AV} (hp : ∀ (E : Env) (σ : Sig) (ι : Nat -> Value) (w : World), Rel E σ ι h0 w -> Rel E σ ι h w) (ht : TuK P R o s h h' v) : TuK P R o s h0 h' v := fun E σ ι a w hr hv K Q hK =>
 ht E σ ι a w (hp E σ ι w hr) hv K Q hK
theorem Qu {h2 : j8} {id : Nat} {ty : TypeId} {cs : List AV} (bs : List Bool) (hg : j9 h id = some (.blk ty cs)) (hh : LeH ((id, .blk ty (xk cs bs)) :: h) h2) : ∀ (E : Env) (σ : Sig) (ι : Nat -> Value) (w : World), Rel E σ ι h w -> Rel E σ ι h2 w :=
 fun E σ ι w hr => (hr.maskB bs hg).le hh
variable {β : Type} {H : β -> j8} {ok : β -> Prop} {K : j6 -> β -> Prop} {tn ln : List Nat} {c R : Nat}
structure KW (P : Program) (ops : Array Oper) (H : β -> j8) (ok : β -> Prop) (tn ln : List Nat) (c R : Nat) (K : j6 -> β -> Prop) (m : Nat) (rest : List Oper) (s : j6) (x : β) : Prop where
 out : ADk P ops H ok tn ln c R K m rest s x
variable {m : Nat} {x : β}
theorem Xk (hc : Nat.blt c m = true) (hk : K s x) : KW P ops H ok tn ln c R K m [] s x := ⟨⟨by simpa [Nat.blt_eq] using hc, s, fun _ => rfl, hk⟩⟩
def cQ2 (ops : Array Oper) (c R : Nat) (m : Nat) (o : Oper) (s : j6) (v : AV) : Bool :=
 bif Nat.blt m c then (!jg R v && (qZ ops o).all fun t => !jg R (get s t)) || ((Region.before ops).getD c 0).testBit m else Nat.beq m c || (!jg R v || ((Region.before ops).getD m 0).testBit c)
theorem Zb {ops : Array Oper} {c R m : Nat} {o : Oper} {s : j6} {v : AV} (h : cQ2 ops c R m o s v = true) : cQ ops c R m o s v = true := by
 unfold cQ2 at h
 unfold cQ
 cases hb : Nat.blt m c
 ·rw [hb, cond_false] at h
  rw [cond_false, Bool.or_assoc, Bool.or_comm (((Region.before ops).getD m 0).testBit c)]
  exact h
 ·rw [hb, cond_true] at h
  rw [cond_true, Bool.or_comm]
  exact h
theorem J3 {v : AV} (hg : o.guard = none) (hm : Nat.beq m c = false) (ht : tn.contains m = false) (hv : ∀ y, ok y -> Y P o s (H y) v) (hq2 : cQ2 ops c R m o s v = true) (hk : KW P ops H ok tn ln c R K (m + 1) rest (jX s o.dst v) x) : KW P ops H ok tn ln c R K m (o :: rest) s x :=
 ⟨.inr (.inr (.inl ⟨.inl hg, fun e => by rw [e] at hm; simp at hm, ht, v, Zb hq2, .inr fun y hy => (hv y hy).out, hk.out⟩))⟩
theorem Xs {v : AV} (hg : o.guard = none) (hm : Nat.beq m c = false) (ht : tn.contains m = false) (hl : ln.contains m = true) (hv : Y P o s (H x) v) (hq2 : cQ2 ops c R m o s v = true) (hk : KW P ops H ok tn ln c R K (m + 1) rest (jX s o.dst v) x) : KW P ops H ok tn ln c R K m (o :: rest) s x :=
 ⟨.inr (.inr (.inl ⟨.inl hg, fun e => by rw [e] at hm; simp at hm, ht, v, Zb hq2, .inl ⟨hl, hv.out⟩, hk.out⟩))⟩
theorem j68 {v : AV} {x' : β} (hg : o.guard = none) (hm : Nat.beq m c = false) (ht : tn.contains m = true) (hx : ok x') (hv : TuO P o s (H x) (H x') v) (hq2 : cQ2 ops c R m o s v = true) (hk : KW P ops H ok tn ln c R K (m + 1) rest (jX s o.dst v) x') : KW P ops H ok tn ln c R K m (o :: rest) s x :=
 ⟨.inl ⟨.inl hg, fun e => by rw [e] at hm; simp at hm, ht, x', v, hx, Zb hq2, hv, hk.out⟩⟩
theorem j5t {v : AV} {x' : β} (hg : o.guard = none) (hm : Nat.beq m c = true) (ht : tn.contains m = true) (hx : ok x') (hv : TuK P R o s (H x) (H x') v) (hk : KW P ops H ok tn ln c R K (m + 1) rest (jX (qv R s) o.dst v) x') : KW P ops H ok tn ln c R K m (o :: rest) s x :=
 ⟨.inr (.inl ⟨.inl hg, Nat.eq_of_beq_eq_true hm, ht, x', v, hx, hv, hk.out⟩)⟩
theorem ZK {id : Nat} {l : List Oper} (H : β -> j8) (ok : β -> Prop) (tn ln : List Nat) (c R : Nat) (x0 : β) (hh : LeH h (H x0)) (hm : P.follows .mixedOrders = true) (hok : wy n l = true) (hst : tuQ tn ln l = true) (hx0 : ok x0) (hk : KW P l.toArray H ok tn ln c R (fun s' x => Q .normal s' (H x)) 0 l s x0) : W P n (.region id l.toArray true) Q s h :=
 wle (LeS.refl s) hh ⟨j0d hm hok hst hx0 hk.out⟩
end
open Go.RowKit
end Go.Proofs.YtfjoaeghnfkdlaaGreatDoor
