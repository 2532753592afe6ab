/- Regions in whatever order in which one operation makes a block and those that turn blocks may make blocks, too. No condition. -/
import Derived.Test.YtfjoaeghnfkdlaaGreatDoorB11
import Derived.Test.YtfjoaeghnfkdlaaGreatDoorB7
import Derived.Test.YtfjoaeghnfkdlaaGreatDoorB10
import Derived.Test.YtfjoaeghnfkdlaaGreatDoorB17
set_option linter.unusedSimpArgs false
set_option linter.unusedVariables false
set_option maxHeartbeats 1000000
set_option maxRecDepth 100000
namespace Go.Proofs.YtfjoaeghnfkdlaaGreatDoor
open Go.RowKit
section
variable {P : Program} {n : Md} {Q : Exit -> j6 -> j8 -> Prop} {s : j6} {h : j8} {ops : Array Oper} {rest : List Oper} {o : Oper}
def j5G (Ns : List Nat) (v : AV) : Bool := Ns.any fun N => jg N v
def TuL (P : Program) (Ns : List Nat) (o : Oper) (s : j6) (h h' : j8) (v : AV) : Prop :=
 ∀ (E : Env) (σ : Sig) (ι : Nat -> Value) (a : Act) (w : World), Rel E σ ι h w -> (∀ y ∈ o.op.operands.toList, VR σ ι (evA s y) (a.eval y)) ->
  ∀ (K : Act -> World -> Prop) (Q : Exit -> Act -> World -> Prop), (∀ σ' ι' w' u, Sig.le σ σ' -> (∀ (n : Md) (s : j6) (a : Act), (∀ N ∈ Ns, ∀ t, jg N (get s t) = false) -> TR n σ ι s a -> TR n σ' ι' s a) -> Rel E σ' ι' h' w' -> VR σ' ι' v u -> K (a.put o.dst u) w') -> o.wp P a w K Q
theorem TuL.congr {Ns : List Nat} {s s' : j6} {h h' : j8} {v : AV} (e : ∀ t, get s t = get s' t) (hk : TuL P Ns o s h h' v) : TuL P Ns o s' h h' v := fun E σ ι a w hr hx =>
 hk E σ ι a w hr fun x hm => by rw [y7 e]; exact hx x hm
theorem TuO.toL {Ns : List Nat} {h' : j8} {v : AV} (hk : TuO P o s h h' v) : TuL P Ns o s h h' v := fun E σ ι a w hr hx K Q hK =>
 hk E σ ι a w hr hx K Q fun σ' ι' w' u k1 k2 k3 k4 => hK σ' ι' w' u k1 (fun n s a _ t => k2 n s a t) k3 k4
theorem TuL.post {Ns : List Nat} {h' h'' : j8} {v : AV} (ht : TuL P Ns o s h h' v) (hh : LeH h' h'') : TuL P Ns o s h h'' v := fun E σ ι a w hr hv K Q hK =>
 ht E σ ι a w hr hv K Q fun σ' ι' w' u k1 k2 k3 k4 => hK σ' ι' w' u k1 k2 (k3.le hh) k4
theorem Qs : ∀ (ids : List Nat) (s : j6), (∀ i ∈ ids, ∀ t, jg i (get s t) = false) -> ∀ t, get (xY ids s) t = get s t
 | [], s, _, t => rfl
 | i :: r, s, h, t => by
  have e : ∀ t, get (qv i s) t = get s t := fun t => by rw [wX, h i List.mem_cons_self t]; rfl
  rw [xY, Qs r (qv i s) (fun j hj t => by rw [e]; exact h j (List.mem_cons_of_mem _ hj) t), e]
theorem xD (ρ : Nat -> Nat) {f : FuncId} {args : List AV} {hin hout : j8} {v0 v : AV} {h' : j8} {Ns : List Nat} (hf : FnH P f args hin (fun r h' => r = v0 ∧ h' = hout)) (hc : Q8 s o = some (f, y3 ρ args)) (hsub : LeH h (wb ρ hin)) (hlow : YP (jI hin) = true) (hinj : Yb ρ (jI hin) = true)
  (hrow : (vF ρ (jI hin)).all (Nat.ble 5) = true) (hlone : Vy (vF ρ (jI hin)) (vO ((jI hin).map ρ) h) = true) (hNs : (vF ρ (jI hin)).all Ns.contains = true) (hcl : qI (jI hin) v0 = true) (hclh : qB (jI hin) hout = true) (hv : ren ρ v0 = v) (hh : LeH (wb ρ hout ++ vO ((jI hin).map ρ) h) h') : TuL P Ns o s h h' v := fun E σ ι a w hr hx K Q hK => by
 obtain ⟨vs, h1, h2⟩ := xb (P := P) (w := w) hc hf.1 hx
 unfold Oper.wp
 rw [h1, Oper.upon_enter]
 have h2' : L2 (VR σ (fun i => ι (ρ i))) args vs := ⟨by rw [<- jU ρ args]; exact h2.1, fun j c v hc hv => (h2.2 j (ren ρ c) v (by rw [qm, hc]; rfl) hv).unren c rfl⟩
 obtain ⟨may, pin, hr1, back⟩ := hr.lend ρ hsub hlow hinj hrow hlone
 refine (hf.2 may pin σ _ w vs hr1 h2').mono ?_
 rintro e w' ⟨u, r, h3, σ', ι', rfl, ⟨rfl, rfl⟩, h4, h5⟩
 obtain ⟨ι2, b1, b2, b3, b4⟩ := back w' _ σ' ι' h5 hclh
 refine hK σ' ι2 w' u b2 (fun n s a hN t => ?_) (b1.le hh) (by rw [<- hv]; exact h4.reren b3 hcl)
 have b := b4 n s a t
 refine ⟨b.size, b.defers, fun t => ?_⟩
 have b5 := b.at_ t
 rwa [Qs _ s (fun i hi t => hN i (List.contains_iff_mem.1 (List.all_eq_true.1 hNs i hi)) t)] at b5
def nwQ (ops : Array Oper) (tn : List Nat) (nw : Nat -> List Nat) (m : Nat) (v : AV) : Bool := tn.all fun i => Nat.beq m i || (!j5G (nw i) v || ((Region.before ops).getD m 0).testBit i)
def mQ (ops : Array Oper) (c N : Nat) (tn : List Nat) (nw : Nat -> List Nat) (m : Nat) (v : AV) : Bool := nQ ops c N m v && nwQ ops tn nw m v
variable {β : Type} {H : β -> Bool -> j8} {ok ok1 : β -> Prop} {K : j6 -> β -> Prop} {tn ln : List Nat} {c N : Nat} {nw : Nat -> List Nat}
def ADq (P : Program) (ops : Array Oper) (H : β -> Bool -> j8) (ok ok1 : β -> Prop) (tn ln : List Nat) (c N : Nat) (nw : Nat -> List Nat) (K : j6 -> β -> Prop) : Nat -> List Oper -> j6 -> β -> Prop
 | _, [], s, x => ∃ s', (∀ t, get s t = get s' t) ∧ K s' x
 | m, o :: rest, s, x => (GoG ops s o ∧ m ≠ c ∧ tn.contains m = true ∧ ∃ x' v, ok x' ∧ (fO ops c m false = true -> ok1 x') ∧ mQ ops c N tn nw m v = true ∧ (∀ f, fO ops c m f = true -> TuL P (nw m) o s (H x f) (H x' f) v) ∧ ADq P ops H ok ok1 tn ln c N nw K (m + 1) rest (jX s o.dst v) x') ∨
   (GoG ops s o ∧ m = c ∧ ∃ v, mQ ops c N tn nw m v = true ∧ (∀ y, ok1 y -> TuN P N o s (H y false) (H y true) v) ∧ ADq P ops H ok ok1 tn ln c N nw K (m + 1) rest (jX s o.dst v) x) ∨
   (GoG ops s o ∧ m ≠ c ∧ tn.contains m = false ∧ ∃ v, mQ ops c N tn nw m v = true ∧ ((ln.contains m = true ∧ ∀ f, fO ops c m f = true -> OkO P o s (H x f) v) ∨ ∀ y f, ok y -> OkO P o s (H y f) v) ∧ ADq P ops H ok ok1 tn ln c N nw K (m + 1) rest (jX s o.dst v) x) ∨
   (SkG ops s o ∧ m ≠ c ∧ tn.contains m = false ∧ ADq P ops H ok ok1 tn ln c N nw K (m + 1) rest (jX s o.dst (.tup [])) x)
def KnQ (P : Program) (H : β -> Bool -> j8) (ok ok1 : β -> Prop) (tn ln : List Nat) (c N : Nat) (nw : Nat -> List Nat) (l : List Oper) (s : j6) (vs : Nat -> AV) (ys : Nat -> β) (i : Nat) (o : Oper) : Prop :=
 (GoG l.toArray (jG s l vs (fun _ => true) i) o ∧ i ≠ c ∧ tn.contains i = true ∧ mQ l.toArray c N tn nw i (vs i) = true ∧ (fO l.toArray c i false = true -> ok1 (ys (cTn tn i + 1))) ∧ ∀ f, fO l.toArray c i f = true -> TuL P (nw i) o (jG s l vs (fun _ => true) i) (H (ys (cTn tn i)) f) (H (ys (cTn tn i + 1)) f) (vs i)) ∨
 (GoG l.toArray (jG s l vs (fun _ => true) i) o ∧ i = c ∧ mQ l.toArray c N tn nw i (vs i) = true ∧ ∀ y, ok1 y -> TuN P N o (jG s l vs (fun _ => true) i) (H y false) (H y true) (vs i)) ∨
 (GoG l.toArray (jG s l vs (fun _ => true) i) o ∧ i ≠ c ∧ tn.contains i = false ∧ mQ l.toArray c N tn nw i (vs i) = true ∧ ((ln.contains i = true ∧ ∀ f, fO l.toArray c i f = true -> OkO P o (jG s l vs (fun _ => true) i) (H (ys (cTn tn i)) f) (vs i)) ∨ ∀ y f, ok y -> OkO P o (jG s l vs (fun _ => true) i) (H y f) (vs i))) ∨
 (SkG l.toArray (jG s l vs (fun _ => true) i) o ∧ i ≠ c ∧ vs i = .tup [] ∧ tn.contains i = false)
theorem ZG (htc : tn.contains c = false) (l : List Oper) : ∀ (rest : List Oper) (m : Nat) (vs : Nat -> AV) (ys : Nat -> β), l.drop m = rest -> m <= l.length -> ADq P l.toArray H ok ok1 tn ln c N nw K m rest (jG s l vs (fun _ => true) m) (ys (cTn tn m)) ->
  (∀ k, k <= cTn tn m -> ok (ys k)) -> (∀ (i : Nat) (o : Oper), i < m -> l[i]? = some o -> KnQ P H ok ok1 tn ln c N nw l s vs ys i o) ->
  ∃ (vs' : Nat -> AV) (ys' : Nat -> β), (∀ k, k = 0 -> ys' k = ys k) ∧ (∃ s', (∀ t, get (jG s l vs' (fun _ => true) l.length) t = get s' t) ∧ K s' (ys' (cTn tn l.length))) ∧ (∀ k, k <= cTn tn l.length -> ok (ys' k)) ∧ ∀ (i : Nat) (o : Oper), l[i]? = some o -> KnQ P H ok ok1 tn ln c N nw l s vs' ys' i o
 | [], m, vs, ys, hr, hm, hd, hok, hk => by
  have hm' : m = l.length := by
   have := List.drop_eq_nil_iff.1 hr; omega
  subst hm'
  exact ⟨vs, ys, fun _ _ => rfl, hd, hok, fun i o ho => hk i o (List.getElem?_eq_some_iff.1 ho).1 ho⟩
 | o :: rest, m, vs, ys, hr, hm, hd, hok, hk => by
  have hlt : m < l.length := by
   have : (l.drop m).length = (o :: rest).length := by rw [hr]
   simp at this; omega
  have ho : l[m]? = some o := by
   have : (l.drop m)[0]? = some o := by rw [hr]; rfl
   simpa using this
  have hr' : l.drop (m + 1) = rest := by rw [<- List.drop_drop, hr]; rfl
  have hcm : ∀ i, i < m -> tn.contains i = true -> cTn tn i + 1 <= cTn tn m := fun i hi hs => by
   have h1 := vH tn i
   rw [hs, if_pos rfl] at h1
   have h2 : cTn tn (i + 1) <= cTn tn m := wr tn hi
   omega
  have hcle : ∀ i, i <= m -> cTn tn i <= cTn tn m := fun i hi => wr tn hi
  have e : ∀ v k, k <= m -> jG s l (fun i => if i = m then v else vs i) (fun _ => true) k = jG s l vs (fun _ => true) k := fun v k hk => vf k fun j hj => by
   show (if j = m then v else vs j) = vs j; rw [if_neg (by omega)]
  have go1 : ∀ v x', tn.contains m = true -> ok x' -> ADq P l.toArray H ok ok1 tn ln c N nw K (m + 1) rest (jX (jG s l vs (fun _ => true) m) o.dst v) x' ->
    (∀ (vs2 : Nat -> AV) (ys2 : Nat -> β), vs2 m = v -> jG s l vs2 (fun _ => true) m = jG s l vs (fun _ => true) m -> ys2 (cTn tn m) = ys (cTn tn m) -> ys2 (cTn tn m + 1) = x' -> KnQ P H ok ok1 tn ln c N nw l s vs2 ys2 m o) ->
    ∃ (vs' : Nat -> AV) (ys' : Nat -> β), (∀ k, k = 0 -> ys' k = ys k) ∧ (∃ s', (∀ t, get (jG s l vs' (fun _ => true) l.length) t = get s' t) ∧ K s' (ys' (cTn tn l.length))) ∧ (∀ k, k <= cTn tn l.length -> ok (ys' k)) ∧ ∀ (i : Nat) (o : Oper), l[i]? = some o -> KnQ P H ok ok1 tn ln c N nw l s vs' ys' i o := by
   intro v x' hs hx' hd hkn
   have hc := vH tn m
   rw [hs, if_pos rfl] at hc
   obtain ⟨ys2, hys2⟩ : ∃ ys2 : Nat -> β, ys2 = fun k => if k = cTn tn m + 1 then x' else ys k := ⟨_, rfl⟩
   have e1 : ∀ k, k <= cTn tn m -> ys2 k = ys k := fun k hk => by rw [hys2]; show (if _ then _ else _) = _; rw [if_neg (by omega)]
   have e2 : ys2 (cTn tn m + 1) = x' := by rw [hys2]; show (if _ then _ else _) = _; rw [if_pos rfl]
   obtain ⟨vs', ys', q1, q2, q3, q4⟩ := ZG htc l rest (m + 1) (fun i => if i = m then v else vs i) ys2 hr' hlt (by
     simp only [jG, if_true, ho, Option.bind_some]
     rw [e v m (Nat.le_refl _), hc, e2]; exact hd)
    (fun k hk => by
      rw [hc] at hk
      by_cases hke : k = cTn tn m + 1
      ·rw [hke, e2]; exact hx'
      ·rw [e1 k (by omega)]; exact hok k (by omega))
    (fun i o' hi ho' => by
      by_cases him : i = m
      ·subst him
       rw [ho] at ho'; cases ho'
       exact hkn _ _ (by simp) (e v i (Nat.le_refl _)) (e1 _ (Nat.le_refl _)) e2
      ·have := hk i o' (by omega) ho'
       unfold KnQ at this ⊢
       simp only [e v i (by omega), if_neg him]
       rcases this with ⟨h0, hm, h1, hq, hq1, h2⟩ | ⟨h0, hm, hq, h2⟩ | ⟨h0, hm, h1, hq, h2⟩ | ⟨h0, hm, h1, h2⟩
       ·exact .inl ⟨h0, hm, h1, hq, by rw [e1 _ (hcm i (by omega) h1)]; exact hq1, by rw [e1 _ (hcle i (by omega)), e1 _ (hcm i (by omega) h1)]; exact h2⟩
       ·exact .inr (.inl ⟨h0, hm, hq, h2⟩)
       ·exact .inr (.inr (.inl ⟨h0, hm, h1, hq, by rw [e1 _ (hcle i (by omega))]; exact h2⟩))
       ·exact .inr (.inr (.inr ⟨h0, hm, h1, h2⟩)))
   exact ⟨vs', ys', fun k hk => (q1 k hk).trans (e1 k (by omega)), q2, q3, q4⟩
  have go2 : ∀ v, tn.contains m = false -> ADq P l.toArray H ok ok1 tn ln c N nw K (m + 1) rest (jX (jG s l vs (fun _ => true) m) o.dst v) (ys (cTn tn m)) ->
    (∀ (vs2 : Nat -> AV), vs2 m = v -> jG s l vs2 (fun _ => true) m = jG s l vs (fun _ => true) m -> KnQ P H ok ok1 tn ln c N nw l s vs2 ys m o) ->
    ∃ (vs' : Nat -> AV) (ys' : Nat -> β), (∀ k, k = 0 -> ys' k = ys k) ∧ (∃ s', (∀ t, get (jG s l vs' (fun _ => true) l.length) t = get s' t) ∧ K s' (ys' (cTn tn l.length))) ∧ (∀ k, k <= cTn tn l.length -> ok (ys' k)) ∧ ∀ (i : Nat) (o : Oper), l[i]? = some o -> KnQ P H ok ok1 tn ln c N nw l s vs' ys' i o := by
   intro v hs hd hkn
   have hc := vH tn m
   rw [hs, if_neg (by simp), Nat.add_zero] at hc
   refine ZG htc l rest (m + 1) (fun i => if i = m then v else vs i) ys hr' hlt ?_ (by rw [hc]; exact hok) ?_
   ·simp only [jG, if_true, ho, Option.bind_some]
    rw [e v m (Nat.le_refl _), hc]; exact hd
   ·intro i o' hi ho'
    by_cases him : i = m
    ·subst him
     rw [ho] at ho'; cases ho'
     exact hkn _ (by simp) (e v i (Nat.le_refl _))
    ·have := hk i o' (by omega) ho'
     unfold KnQ at this ⊢
     simp only [e v i (by omega), if_neg him]
     exact this
  rcases hd with ⟨hg, hm, hs, x', v, hx', hx1, hq, htu, hd⟩ | ⟨hg, hm, v, hq, htn, hd⟩ | ⟨hg, hm, hs, v, hq, hv, hd⟩ | ⟨hg, hm, hs, hd⟩
  ·exact go1 v x' hs hx' hd fun vs2 ys2 e1 e2 e3 e4 => .inl ⟨by rw [e2]; exact hg, hm, hs, by rw [e1]; exact hq, by rw [e4]; exact hx1, by rw [e1, e2, e3, e4]; exact htu⟩
  ·exact go2 v (by rw [hm]; exact htc) hd fun vs2 e1 e2 => .inr (.inl ⟨by rw [e2]; exact hg, hm, by rw [e1]; exact hq, by rw [e1, e2]; exact htn⟩)
  ·exact go2 v hs hd fun vs2 e1 e2 => .inr (.inr (.inl ⟨by rw [e2]; exact hg, hm, hs, by rw [e1]; exact hq, by rw [e1, e2]; exact hv⟩))
  ·exact go2 (.tup []) hs hd fun vs2 e1 e2 => .inr (.inr (.inr ⟨by rw [e2]; exact hg, hm, e1, hs⟩))
theorem j0j {id : Nat} {l : List Oper} {x0 : β} (hm : P.follows .mixedOrders = true) (hok : wy n l = true) (hst : tuQ tn ln l = true) (hx0 : ok x0) (hx1 : ok1 x0) (hfr : ∀ t, jg N (get s t) = false) (hfL : ∀ i, tn.contains i = true -> ∀ N ∈ nw i, ∀ t, jg N (get s t) = false) (htc : tn.contains c = false) (hcl0 : c < l.length) (hk : ADq P l.toArray H ok ok1 tn ln c N nw (fun s' x => Q .normal s' (H x true)) 0 l s x0) : AWp P n (.region id l.toArray true) Q s (H x0 false) := by
 intro E σ0 ι0 a w hr ht
 obtain ⟨vs, ys, hy0, ⟨sF, hF, hQ⟩, hoky, hkn⟩ := ZG (s := s) (c := c) (N := N) (nw := nw) htc l l 0 (fun _ => .undef) (fun _ => x0) rfl (Nat.zero_le _) hk (fun _ _ => hx0) (fun i o hi => absurd hi (by omega))
 have hy0 := hy0 0 rfl
 refine wpIn_region_any hm ?_
 have hr' : Rel E σ0 ι0 (H (ys 0) false) { w with drawn := w.drawn + 1 } := by rw [hy0]; exact ⟨hr.os, hr.tape, hr.output, hr.size, hr.old, hr.sigOld, hr.sub, hr.ch, hr.foot, hr.dj, hr.pin, hr.low, hr.xo⟩
 have key : ∀ (fuel : Nat) (listed : Array Bool) (σ : Sig) (ι : Nat -> Value) (a : Act) (w : World), listed.size = l.length ->
   (∀ j o, l[j]? = some o -> listed.getD j false = true -> ∀ e ∈ o.after.toList, Region.binds .any e = true -> listed.getD e.on false = true) ->
   (List.range l.length).countP (fun j => !listed.getD j false) <= fuel ->
   Rel E σ ι (H (ys (cLn tn l.length (fun j => listed.getD j false))) (listed.getD c false)) w -> TR n σ ι (jG s l vs (fun j => listed.getD j false) l.length) a ->
   wpAnyIn (qd n.ro) 0 P .any l.toArray (fun e a' w' => ∃ s' h' σ' ι', Q e s' h' ∧ Rel E σ' ι' h' w' ∧ TR n σ' ι' s' a') fuel listed a w := by
  have done : ∀ (listed : Array Bool) (σ : Sig) (ι : Nat -> Value) (a : Act) (w : World), listed.size = l.length ->
    Region.ready .any l.toArray listed = [] -> Rel E σ ι (H (ys (cLn tn l.length (fun j => listed.getD j false))) (listed.getD c false)) w -> TR n σ ι (jG s l vs (fun j => listed.getD j false) l.length) a -> ∃ s' h' σ' ι', Q .normal s' h' ∧ Rel E σ' ι' h' w ∧ TR n σ' ι' s' a := by
   intro listed σ ι a w hsz hready hr ht
   have hall : ∀ m j, j < m -> j < l.length -> listed.getD j false = true := by
    intro m
    induction m with
    | zero => intro j hj; omega
    | succ m ih =>
     intro j hj hlen
     by_cases hlt : j < m
     ·exact ih j hlt hlen
     obtain rfl : j = m := by omega
     cases hl : listed.getD j false with
     | true => rfl
     | false =>
      exfalso
      have : j ∈ Region.ready .any l.toArray listed := by
       unfold Region.ready
       refine List.mem_filter.2 ⟨by simpa using hlen, ?_⟩
       have ho : l[j]? = some l[j] := List.getElem?_eq_getElem hlen
       have hj' : listed.getD j true = false := by
        have hb : j < listed.size := by omega
        simpa [Array.getD, hb] using hl
       simp only [hj', Bool.not_false, Bool.true_and, List.getElem?_toArray, ho, Option.map_some, Option.getD_some]
       rw [<- Array.all_toList]
       refine List.all_eq_true.2 fun e he => ?_
       cases hb : Region.binds .any e with
       | false => simp
       | true =>
        have h3 := (qi hok ho).2.2.2.1 e he hb
        rw [ih e.on h3 (by omega)]; simp
      rw [hready] at this; cases this
   have hcl : cLn tn l.length (fun j => listed.getD j false) = cTn tn l.length := wt (Nat.le_refl _) (fun j hj _ => hall _ j hj hj) (fun j hj hj2 => by omega)
   rw [hcl, hall _ c hcl0 hcl0] at hr
   refine ⟨_, _, σ, ι, hQ, hr, ?_⟩
   refine ⟨ht.size, ht.defers, fun t => ?_⟩
   have := ht.at_ t
   rwa [qW (M := fun _ => true) l.length fun j hj _ => hall _ j hj hj, hF] at this
  intro fuel
  induction fuel with
  | zero =>
   intro listed σ ι a w hsz _ hc hr ht
   have hready : Region.ready .any l.toArray listed = [] := by
    rw [List.eq_nil_iff_forall_not_mem]
    intro j hj
    obtain ⟨h1, h2⟩ := List.mem_filter.1 hj
    have h1' : j < l.length := by simpa using h1
    have hb : j < listed.size := by omega
    have h3 : listed.getD j false = false := by
     have := (Bool.and_eq_true _ _ ▸ h2).1
     simpa [Array.getD, hb] using this
    have : 0 < (List.range l.length).countP (fun j => !listed.getD j false) := List.countP_pos_iff.2 ⟨j, List.mem_range.2 h1', by simp [h3]⟩
    omega
   exact ⟨hready, done listed σ ι a w hsz hready hr ht⟩
  | succ fuel ih =>
   intro listed σ ι a w hsz hdown hc hr ht
   refine ⟨fun hready => done listed σ ι a w hsz hready hr ht, fun i hi => ?_⟩
   obtain ⟨h1, h2⟩ := List.mem_filter.1 hi
   have hil : i < l.length := by simpa using h1
   have hb : i < listed.size := by omega
   have ho : l[i]? = some l[i] := List.getElem?_eq_getElem hil
   have h2' := Bool.and_eq_true _ _ ▸ h2
   have hif : listed.getD i false = false := by
    have := h2'.1
    simpa [Array.getD, hb] using this
   have hafter : ∀ e ∈ l[i].after.toList, Region.binds .any e = true -> listed.getD e.on false = true := by
    have h3 := h2'.2
    simp only [List.getElem?_toArray, ho, Option.map_some, Option.getD_some] at h3
    rw [<- Array.all_toList] at h3
    intro e he hbe
    have := List.all_eq_true.1 h3 e he
    simpa [hbe] using this
   have hopsA : ∀ j o, l.toArray[j]? = some o ↔ l[j]? = some o := fun j o => by rw [List.getElem?_toArray]
   obtain ⟨c0, c1, c2, c3, c4, c5⟩ := qi hok ho
   -- ahead of this one
   have hL' : ∀ x, (listed.setIfInBounds i true).getD x false = (listed.getD x false || x == i) := fun x => by
    by_cases hx : x = i
    ·subst hx; simp [Array.getD, hb]
    ·have : ¬ i = x := fun e => hx e.symm
     simp [Array.getD_eq_getD_getElem?, Array.getElem?_setIfInBounds, this, hx]
   have hdown' : ∀ j o, l[j]? = some o -> (listed.setIfInBounds i true).getD j false = true -> ∀ e ∈ o.after.toList, Region.binds .any e = true -> (listed.setIfInBounds i true).getD e.on false = true := by
    intro j o hjo hj e he hbe
    rw [hL'] at hj ⊢
    rcases (Bool.or_eq_true _ _).mp hj with hj | hj
    ·rw [hdown j o hjo hj e he hbe]; rfl
    ·have : j = i := by simpa using hj
     subst this
     rw [ho] at hjo; cases hjo
     rw [hafter e he hbe]; rfl
   have hbef' := qG (ops := l.toArray) (L := fun j => (listed.setIfInBounds i true).getD j false) (fun j o hjo => hdown' j o ((hopsA j o).1 hjo))
   have hbef := qG (ops := l.toArray) (L := fun j => listed.getD j false) (fun j o hjo => hdown j o ((hopsA j o).1 hjo))
   have hlow : ∀ x, x ≠ i -> ((Region.before l.toArray).getD i 0).testBit x = true -> listed.getD x false = true := by
    intro x hx hbit
    have := hbef' i x (by simp [hL']) hbit
    simp only [hL'] at this
    rcases (Bool.or_eq_true _ _).mp this with h | h
    ·exact h
    ·exact absurd (by simpa using h) hx
   -- a slot that it names: those that write it ahead of it, in the text, have come up; the others have not
   have hside : ∀ t, (t ∈ qZ l.toArray l[i] ∨ l[i].dst = some t) -> ∀ j, j < l.length -> (l[j]?).bind (·.dst) = some t -> j ≠ i -> listed.getD j false = decide (j < i) := by
    intro t htm j hj hjd hne
    have hd : jz l.toArray j = some t := by simpa [jz] using hjd
    have hbit := c5 j t hj hne hd htm
    by_cases hlt : j < i
    ·rw [Nat.max_eq_right (by omega), Nat.min_eq_left (by omega)] at hbit
     rw [hlow j hne hbit]; simp [hlt]
    ·have hgt : i < j := by omega
     rw [Nat.max_eq_left (by omega), Nat.min_eq_right (by omega)] at hbit
     simp only [hlt, decide_false]
     cases hc : listed.getD j false with
     | false => rfl
     | true => have := hbef j i hc hbit; simp only [hif] at this; cases this
   have j9 : ∀ t, (t ∈ qZ l.toArray l[i] ∨ l[i].dst = some t) -> get (jG s l vs (fun j => listed.getD j false) l.length) t = get (jG s l vs (fun _ => true) i) t := by
    intro t htm
    rw [qJ (i := i) l.length (by omega) fun j h3 h4 hjd => ?_]
    ·exact qW i fun j h3 hjd => by rw [hside t htm j (by omega) hjd (by omega)]; simp [h3]
    ·by_cases hji : j = i
     ·subst hji; exact hif
     ·rw [hside t htm j h4 hjd hji]; simp; omega
   have hcount : (List.range l.length).countP (fun j => !(listed.setIfInBounds i true).getD j false) <= fuel := by
    have hlt : (List.range l.length).countP (fun j => !(listed.setIfInBounds i true).getD j false) < (List.range l.length).countP (fun j => !listed.getD j false) := by
     have hsplit : List.range l.length = List.range i ++ i :: (List.range' (i + 1) (l.length - (i + 1))) := by
      obtain ⟨m, hm⟩ : ∃ m, l.length = i + (m + 1) := ⟨l.length - (i + 1), by omega⟩
      rw [hm, show i + (m + 1) - (i + 1) = m by omega, List.range_eq_range', List.range_eq_range', <- List.range'_append_1, List.range'_succ]
      simp
     rw [hsplit, List.countP_append, List.countP_append, List.countP_cons, List.countP_cons]
     have e1 : (List.range i).countP (fun j => !(listed.setIfInBounds i true).getD j false) = (List.range i).countP (fun j => !listed.getD j false) := List.countP_congr fun x hx => by
      rw [hL']; have := List.mem_range.1 hx; simp [show x ≠ i by omega]
     have e2 : (List.range' (i + 1) (l.length - (i + 1))).countP (fun j => !(listed.setIfInBounds i true).getD j false) = (List.range' (i + 1) (l.length - (i + 1))).countP (fun j => !listed.getD j false) := List.countP_congr fun x hx => by
      rw [hL']; have := (List.mem_range'_1.1 hx).1; simp [show x ≠ i by omega]
     rw [e1, e2, hL']
     simp [hif]
    omega
   have hcL' : cLn tn l.length (fun j => (listed.setIfInBounds i true).getD j false) = cLn tn l.length (fun j => listed.getD j false) + (if tn.contains i then 1 else 0) := by
    have hsplit : List.range l.length = List.range i ++ i :: (List.range' (i + 1) (l.length - (i + 1))) := by
     obtain ⟨m, hm⟩ : ∃ m, l.length = i + (m + 1) := ⟨l.length - (i + 1), by omega⟩
     rw [hm, show i + (m + 1) - (i + 1) = m by omega, List.range_eq_range', List.range_eq_range', <- List.range'_append_1, List.range'_succ]
     simp
    unfold cLn
    rw [hsplit, List.countP_append, List.countP_append, List.countP_cons, List.countP_cons]
    have e1 : (List.range i).countP (fun j => (listed.setIfInBounds i true).getD j false && tn.contains j) = (List.range i).countP (fun j => listed.getD j false && tn.contains j) := List.countP_congr fun x hx => by
     rw [hL']; have := List.mem_range.1 hx; simp [show x ≠ i by omega]
    have e2 : (List.range' (i + 1) (l.length - (i + 1))).countP (fun j => (listed.setIfInBounds i true).getD j false && tn.contains j) = (List.range' (i + 1) (l.length - (i + 1))).countP (fun j => listed.getD j false && tn.contains j) := List.countP_congr fun x hx => by
     rw [hL']; have := (List.mem_range'_1.1 hx).1; simp [show x ≠ i by omega]
    rw [e1, e2]
    simp only [hL', hif, BEq.rfl, Bool.or_true, Bool.true_and, Bool.false_and]
    cases tn.contains i <;> simp <;> omega
   have finN : ∀ σ' ι' w' u, TR n σ' ι' (jG s l vs (fun j => listed.getD j false) l.length) a -> Rel E σ' ι' (H (ys (cLn tn l.length (fun j => (listed.setIfInBounds i true).getD j false))) ((listed.setIfInBounds i true).getD c false)) w' -> VR σ' ι' (vs i) u ->
     wpAnyIn (qd n.ro) 0 P .any l.toArray (fun e a' w' => ∃ s' h' σ' ι', Q e s' h' ∧ Rel E σ' ι' h' w' ∧ TR n σ' ι' s' a') fuel (listed.setIfInBounds i true) (a.put l[i].dst u) w' := by
    intro σ' ι' w' u hle hr'' hv
    refine ih _ σ' ι' _ w' (by simpa using hsz) hdown' hcount hr'' ?_
    have hp : TR n σ' ι' (jX (jG s l vs (fun j => listed.getD j false) l.length) l[i].dst (vs i)) (a.put l[i].dst u) := hle.putS c2 hv
    refine ⟨hp.size, hp.defers, fun t => ?_⟩
    have h3 := hp.at_ t
    rw [jx] at h3
    by_cases hdt : l[i].dst = some t
    ·rw [if_pos hdt] at h3
     have : get (jG s l vs (fun j => (listed.setIfInBounds i true).getD j false) l.length) t = vs i := by
      rw [qJ (i := i + 1) l.length (by omega) fun j h4 h5 hjd => ?_]
      ·simp only [jG, hL', hif, BEq.rfl, Bool.or_true, if_true, jx, ho, Option.bind_some, if_pos hdt]
      ·rw [hL', hside t (.inr hdt) j h5 hjd (by omega)]; simp; omega
     rw [this]; exact h3
    ·rw [if_neg hdt] at h3
     have : get (jG s l vs (fun j => (listed.setIfInBounds i true).getD j false) l.length) t = get (jG s l vs (fun j => listed.getD j false) l.length) t :=
      qW _ fun j h4 hjd => by
       rw [hL']
       have : j ≠ i := fun e => by subst e; rw [ho] at hjd; exact hdt (by simpa using hjd)
       simp [this]
     rw [this]; exact h3
   have fin := fun σ' ι' w' u (hle : ∀ (n : Md) (s : j6) (a : Act), TR n σ ι s a -> TR n σ' ι' s a) => finN σ' ι' w' u (hle _ _ _ ht)
   unfold wpOpIn
   simp only [List.getElem?_toArray, ho]
   have hopnd : ∀ x ∈ l[i].op.operands.toList, VR σ ι (evA (jG s l vs (fun _ => true) i) x) (a.eval x) := by
    intro x hx
    refine jZ (List.all_eq_true.1 c1 x hx) fun t htx => ?_
    have htm : t ∈ qZ l.toArray l[i] := List.mem_append_left _ (List.mem_filterMap.2 ⟨x, hx, by rw [htx]⟩)
    have := ht.at_ t
    rwa [j9 t (.inl htm)] at this
   have hkn' := hkn i _ ho
   have hdn : ∀ j want d, l[i].guard = some (j, want) -> jz l.toArray j = some d -> d < n.n := fun j want d hg hd => by
    have hj : ∃ oj, l[j]? = some oj ∧ oj.dst = some d := by
     unfold jz at hd
     cases hjo : l[j]? with
     | none => simp [hjo] at hd
     | some oj => exact ⟨oj, rfl, by simpa [hjo] using hd⟩
    obtain ⟨oj, hjo, hjd⟩ := hj
    have := (qi hok hjo).2.2.1
    rw [hjd] at this
    simpa [qj] using this
   have hdt : ∀ j want d, l[i].guard = some (j, want) -> jz l.toArray j = some d -> d ∈ qZ l.toArray l[i] := fun j want d hg hd => List.mem_append_right _ (by rw [hg]; simp [hd])
   have hwant : GoG l.toArray (jG s l vs (fun _ => true) i) l[i] -> Region.wanted l[i] (yielded l.toArray a.tmps) = true := by
    rintro (hg | ⟨j, want, d, hg, hd, hb'⟩)
    ·simp [Region.wanted, hg]
    ·have hv := ht.at_ d
     rw [j9 d (.inl (hdt j want d hg hd)), hb'] at hv
     rw [vU hg hd (by rw [ht.size]; exact hdn j want d hg hd) hv]
     simp
   have hskip : SkG l.toArray (jG s l vs (fun _ => true) i) l[i] -> Region.wanted l[i] (yielded l.toArray a.tmps) = false := by
    rintro ⟨j, want, d, hg, hd, hb'⟩
    have hv := ht.at_ d
    rcases hb' with hb' | hb'
    ·rw [j9 d (.inl (hdt j want d hg hd)), hb'] at hv
     rw [vU hg hd (by rw [ht.size]; exact hdn j want d hg hd) hv]
     cases want <;> rfl
    ·rw [j9 d (.inl (hdt j want d hg hd)), hb'] at hv
     exact wB hg hd (by rw [ht.size]; exact hdn j want d hg hd) hv.tup0_inv
   -- an operation that touches what is turned: those in the text ahead of it have come up, the others have not
   have hstage : tn.contains i = true ∨ ln.contains i = true -> cLn tn l.length (fun j => listed.getD j false) = cTn tn i := fun hmem => by
    refine wt (by omega) (fun j hj hs => ?_) fun j hj hjl hs => ?_
    ·refine hlow j (by omega) (xy hst hj hil ?_)
     rcases hmem with hmem | hmem <;> simp only [hs, hmem, Bool.true_or, Bool.or_true, Bool.true_and, Bool.and_true]
    ·by_cases hji : j = i
     ·subst hji; exact hif
     ·have hbit := xy hst (show i < j by omega) hjl (by rcases hmem with hmem | hmem <;> simp only [hs, hmem, Bool.true_or, Bool.or_true, Bool.true_and, Bool.and_true])
      cases hc : listed.getD j false with
      | false => rfl
      | true => have := hbef j i hc hbit; simp only [hif] at this; cases this
   -- nothing that has come up names what is new
   have hfresh : i = c -> ∀ k, k <= l.length -> ∀ t, jg N (get (jG s l vs (fun j => listed.getD j false) k) t) = false := by
    intro hic
    refine JV hfr fun k hk hLk => ?_
    have hne : k ≠ i := fun e => by simp only [e, hif] at hLk; cases hLk
    have hkk := hkn k _ (List.getElem?_eq_getElem hk)
    have hq : mQ l.toArray c N tn nw k (vs k) = true ∨ vs k = .tup [] := by
     unfold KnQ at hkk
     rcases hkk with ⟨_, _, _, hq, _, _⟩ | ⟨_, _, hq, _⟩ | ⟨_, _, _, hq, _⟩ | ⟨_, _, hq, _⟩
     ·exact .inl hq
     ·exact .inl hq
     ·exact .inl hq
     ·exact .inr hq
    rcases hq with hq | hq
    ·have hq := (Bool.and_eq_true _ _ ▸ hq).1
     rw [nQ, show Nat.beq k c = false from Bool.eq_false_iff.2 (fun e => hne (by rw [hic]; exact Nat.eq_of_beq_eq_true e)), Bool.false_or] at hq
     rcases (Bool.or_eq_true _ _).mp hq with hq | hq
     ·simpa using hq
     ·have := hbef k c hLk hq
      simp only [<- hic, hif] at this; cases this
    ·rw [hq]; rfl
   -- .. nor what one that turns is to make
   have hfreshL : tn.contains i = true -> ∀ N' ∈ nw i, ∀ t, jg N' (get (jG s l vs (fun j => listed.getD j false) l.length) t) = false := by
    intro hti N' hN'
    refine JV (hfL i hti N' hN') (fun k hk hLk => ?_) l.length (Nat.le_refl _)
    have hne : k ≠ i := fun e => by simp only [e, hif] at hLk; cases hLk
    have hkk := hkn k _ (List.getElem?_eq_getElem hk)
    have hq : mQ l.toArray c N tn nw k (vs k) = true ∨ vs k = .tup [] := by
     unfold KnQ at hkk
     rcases hkk with ⟨_, _, _, hq, _, _⟩ | ⟨_, _, hq, _⟩ | ⟨_, _, _, hq, _⟩ | ⟨_, _, hq, _⟩
     ·exact .inl hq
     ·exact .inl hq
     ·exact .inl hq
     ·exact .inr hq
    rcases hq with hq | hq
    ·have hq := List.all_eq_true.1 (Bool.and_eq_true _ _ ▸ hq).2 i (List.contains_iff_mem.1 hti)
     rw [show Nat.beq k i = false from Bool.eq_false_iff.2 (fun e => hne (Nat.eq_of_beq_eq_true e)), Bool.false_or] at hq
     rcases (Bool.or_eq_true _ _).mp hq with hq | hq
     ·simp only [Bool.not_eq_true'] at hq
      cases hh : jg N' (vs k) with
      | false => rfl
      | true => exact absurd (List.any_eq_true.2 ⟨N', hN', hh⟩) (by unfold j5G at hq; rw [hq]; simp)
     ·have := hbef k i hLk hq
      simp only [hif] at this; cases this
    ·rw [hq]; rfl
   have hLc : i ≠ c -> (listed.setIfInBounds i true).getD c false = listed.getD c false := fun hne => by
    rw [hL', show (c == i) = false from by simp; exact fun e => hne e.symm, Bool.or_false]
   have hfO : i ≠ c -> fO l.toArray c i (listed.getD c false) = true := fun hne => by
    rw [fO]
    by_cases hci : c < i
    ·rw [show Nat.blt c i = true by simp only [Nat.blt_eq]; exact hci, cond_true]
     cases hL : listed.getD c false with
     | true => rfl
     | false =>
      cases hb2 : ((Region.before l.toArray).getD i 0).testBit c with
      | false => rfl
      | true => have := hlow c (by omega) hb2; rw [hL] at this; cases this
    ·rw [show Nat.blt c i = false from Bool.eq_false_iff.2 (fun e => by rw [Nat.blt_eq] at e; omega), cond_false]
     cases hL : listed.getD c false with
     | false => rfl
     | true =>
      cases hb2 : ((Region.before l.toArray).getD c 0).testBit i with
      | false => rfl
      | true => have := hbef c i hL hb2; simp only [hif] at this; cases this
   unfold KnQ at hkn'
   rcases hkn' with ⟨hg, hic, hs, _, _, hS⟩ | ⟨hg, hic, _, hSN⟩ | ⟨hg, hic, hs, _, hO⟩ | ⟨hg, hic, hv0, hy⟩
   ·rw [if_pos (hwant hg)]
    refine Je c0 ?_
    have hc := hstage (.inl hs)
    rw [hc] at hr
    refine hS _ (hfO hic) E σ ι a w hr hopnd _ _ fun σ' ι' w' u h2 h3 h4 h5 => finN σ' ι' w' u (h3 n _ a (hfreshL hs) ht) ?_ h5
    rw [hcL', hs, if_pos rfl, hc, hLc hic]; exact h4
   ·have hs : tn.contains i = false := by rw [hic]; exact htc
    have hc2 : cLn tn l.length (fun j => (listed.setIfInBounds i true).getD j false) = cLn tn l.length (fun j => listed.getD j false) := by rw [hcL', hs]; simp
    rw [if_pos (hwant hg)]
    refine Je c0 ?_
    have hok1 : ok1 (ys (cLn tn l.length (fun j => listed.getD j false))) := by
     rcases XS (tn := tn) (fun j => listed.getD j false) l.length with h6 | ⟨j, h6, h7, h8, h9⟩
     ·rw [wt (i := 0) (Nat.zero_le _) (fun j hj => by omega) (fun j _ hj ht => h6 j hj ht)]
      show ok1 (ys 0)
      rw [hy0]; exact hx1
     ·rw [wt (i := j + 1) (by omega) (fun k hk ht => ?_) (fun k hk hkl ht => h9 k (by omega) hkl ht)]
      ·rw [vH, h7, if_pos rfl]
       have hkk := hkn j _ (List.getElem?_eq_getElem h6)
       unfold KnQ at hkk
       rcases hkk with ⟨_, _, _, _, hq1, _⟩ | ⟨_, e, _⟩ | ⟨_, _, e, _⟩ | ⟨_, _, _, e⟩
       ·refine hq1 ?_
        rw [fO]
        cases hcj : Nat.blt c j with
        | false => rfl
        | true =>
         cases hb2 : ((Region.before l.toArray).getD j 0).testBit c with
         | false => rfl
         | true => have := hbef j c h8 hb2; simp only [<- hic, hif] at this; cases this
       ·rw [e, htc] at h7; cases h7
       ·rw [h7] at e; cases e
       ·rw [h7] at e; cases e
      ·by_cases hkj : k = j
       ·subst hkj; exact h8
       ·exact hbef j k h8 (xy hst (by omega) h6 (by simp only [ht, h7, Bool.true_or, Bool.true_and]))
    have hf0 : listed.getD c false = false := by rw [<- hic]; exact hif
    have hf1 : (listed.setIfInBounds i true).getD c false = true := by rw [hL', hic]; simp
    rw [hf0] at hr
    refine hSN _ hok1 E σ ι a w hr hopnd _ _ fun σ' ι' w' u h2 h3 h4 h5 => finN σ' ι' w' u (h3 n _ a (hfresh hic l.length (Nat.le_refl _)) ht) ?_ h5
    rw [hc2, hf1]; exact h4
   ·have hc2 : cLn tn l.length (fun j => (listed.setIfInBounds i true).getD j false) = cLn tn l.length (fun j => listed.getD j false) := by rw [hcL', hs]; simp
    rw [if_pos (hwant hg)]
    refine Je c0 ?_
    rcases hO with ⟨hl, hO⟩ | hO
    ·rw [hstage (.inr hl)] at hr
     exact hO _ (hfO hic) E σ ι a w hr hopnd _ _ fun σ' w' u h3 h4 h5 => fin σ' ι w' u (fun _ _ _ t => t.mono h3) (by rw [hc2, hstage (.inr hl), hLc hic]; exact h4) h5
    ·have hcle : cLn tn l.length (fun j => listed.getD j false) <= cTn tn l.length := by
      refine List.countP_mono_left fun x _ hx => ?_
      exact (Bool.and_eq_true _ _ ▸ hx).2
     exact hO _ _ (hoky _ hcle) E σ ι a w hr hopnd _ _ fun σ' w' u h3 h4 h5 => fin σ' ι w' u (fun _ _ _ t => t.mono h3) (by rw [hc2, hLc hic]; exact h4) h5
   ·rw [if_neg (by rw [hskip hg]; simp)]
    refine ⟨fun _ _ => trivial, fin σ ι w undef (fun _ _ _ t => t) ?_ (by rw [hv0]; exact VR.tup0)⟩
    rw [hLc hic, hcL', hy]; simpa using hr
 have hrep : ∀ j, (Array.replicate l.toArray.size false).getD j false = false := fun j => by
  simp only [Array.getD_eq_getD_getElem?, Array.getElem?_replicate]; split <;> rfl
 have hc0 : cLn tn l.length (fun j => (Array.replicate l.toArray.size false).getD j false) = 0 := by
  unfold cLn; rw [List.countP_eq_zero]; intro j _; simp only [hrep]; simp
 refine key l.toArray.size _ σ0 ι0 a _ (by simp) ?_ ?_ (by rw [hc0, hrep]; exact hr') ?_
 ·intro j o hj hl
  rw [hrep] at hl; cases hl
 ·refine Nat.le_trans List.countP_le_length ?_
  simp
 ·refine ⟨ht.size, ht.defers, fun t => ?_⟩
  have := ht.at_ t
  rw [qJ (i := 0) l.length (Nat.zero_le _) fun j _ _ _ => hrep j]
  exact this

structure QW (P : Program) (ops : Array Oper) (H : β -> Bool -> j8) (ok ok1 : β -> Prop) (tn ln : List Nat) (c N : Nat) (nw : Nat -> List Nat) (K : j6 -> β -> Prop) (m : Nat) (rest : List Oper) (s : j6) (x : β) : Prop where
 out : ADq P ops H ok ok1 tn ln c N nw K m rest s x
variable {m : Nat} {x : β}
theorem qr (hk : K s x) : QW P ops H ok ok1 tn ln c N nw K m [] s x := ⟨⟨s, fun _ => rfl, hk⟩⟩
theorem qt {v : AV} (hg : o.guard = none) (hm : Nat.beq m c = false) (ht : tn.contains m = false) (hv : ∀ y f, ok y -> Y P o s (H y f) v) (hq : mQ ops c N tn nw m v = true) (hk : QW P ops H ok ok1 tn ln c N nw K (m + 1) rest (jX s o.dst v) x) : QW P ops H ok ok1 tn ln c N nw K m (o :: rest) s x :=
 ⟨.inr (.inr (.inl ⟨.inl hg, fun e => by rw [e] at hm; simp at hm, ht, v, hq, .inr fun y f hy => (hv y f hy).out, hk.out⟩))⟩
theorem xP {v : AV} {x' : β} (hg : o.guard = none) (hm : Nat.beq m c = false) (ht : tn.contains m = true) (hx : ok x') (hx1 : ok1 x') (hv : ∀ f, fO ops c m f = true -> TuL P (nw m) o s (H x f) (H x' f) v) (hq : mQ ops c N tn nw m v = true) (hk : QW P ops H ok ok1 tn ln c N nw K (m + 1) rest (jX s o.dst v) x') : QW P ops H ok ok1 tn ln c N nw K m (o :: rest) s x :=
 ⟨.inl ⟨.inl hg, fun e => by rw [e] at hm; simp at hm, ht, x', v, hx, fun _ => hx1, hq, hv, hk.out⟩⟩
theorem xt {v : AV} (hg : o.guard = none) (hm : Nat.beq m c = true) (hq : mQ ops c N tn nw m v = true) (hv : ∀ y, ok1 y -> TuN P N o s (H y false) (H y true) v) (hk : QW P ops H ok ok1 tn ln c N nw K (m + 1) rest (jX s o.dst v) x) : QW P ops H ok ok1 tn ln c N nw K m (o :: rest) s x :=
 ⟨.inr (.inl ⟨.inl hg, Nat.eq_of_beq_eq_true hm, v, hq, hv, hk.out⟩)⟩
theorem xl {id : Nat} {l : List Oper} (H : β -> Bool -> j8) (ok ok1 : β -> Prop) (tn ln : List Nat) (c N : Nat) (nw : Nat -> List Nat) (x0 : β) (hh : LeH h (H x0 false)) (hm : P.follows .mixedOrders = true) (hok : wy n l = true) (hst : tuQ tn ln l = true) (hx0 : ok x0) (hx1 : ok1 x0) (hfr : zC N s = true) (hfL : (tn.all fun i => (nw i).all fun N => zC N s) = true) (htc : tn.contains c = false) (hcl : Nat.blt c l.length = true) (hk : QW P l.toArray H ok ok1 tn ln c N nw (fun s' x => Q .normal s' (H x true)) 0 l s x0) : W P n (.region id l.toArray true) Q s h :=
 wle (LeS.refl s) hh ⟨j0j hm hok hst hx0 hx1 (xc hfr) (fun i hi N hN => xc (List.all_eq_true.1 (List.all_eq_true.1 hfL i (List.contains_iff_mem.1 hi)) N hN)) htc (by simpa [Nat.blt_eq] using hcl) hk.out⟩
end
section
variable {P : Program} {n : Md} {Q : Exit -> j6 -> j8 -> Prop} {s : j6} {h : j8} {ops : Array Oper} {rest : List Oper} {o : Oper}
theorem Rel.rename {E : Env} {σ : Sig} {ι : Nat -> Value} {w : World} (hr : Rel E σ ι h w) {id id2 sz : Nat} {e : TypeId} {xs : List (List AV)} (hg : j9 h id = some (.row e sz xs)) (h10 : 10 <= id ∧ id < 100) (h5 : 5 <= id2) (hf : vo id2 h = true) : Rel E σ (upd ι id2 (ι id)) ((id2, .row e sz xs) :: yf id h) w := by
 have hin : ∀ i c, i ≠ id2 -> j9 ((id2, .row e sz xs) :: yf id h) i = some c -> i ≠ id ∧ j9 h i = some c := fun i c hi hc => by
  rw [j7, if_neg (fun e => hi e.symm), vE] at hc
  split at hc
  ·cases hc
  ·exact ⟨‹_›, hc⟩
 have hno : (id, id) = (id, id) := rfl
 have hmay : ∀ g, (id, g) ∉ E.may := fun g hm => by have := hr.low _ hm; simp only at this; omega
 refine ⟨hr.os, hr.tape, hr.output, hr.size, hr.old, hr.sigOld, hr.sub, fun i c hc => ?_, fun i c hc g hgf => ?_, fun i j c d hc hd g h1 h2 => ?_, fun p hp => ?_, hr.low, fun p hp => ⟨(hr.xo p hp).1, (hr.xo p hp).2.1, fun i c hc => ?_⟩⟩
 ·by_cases hi : i = id2
  ·subst hi
   rw [j7, if_pos rfl] at hc
   cases hc
   obtain ⟨a1, a2, vs, a3, a4⟩ := hr.ch id _ hg
   exact ⟨a1, a2, vs, by rw [jM]; exact a3, a4⟩
  ·obtain ⟨_, hc2⟩ := hin i c hi hc
   have h4 := hr.ch i c hc2
   have hfr := (ju hf i c hc2).2
   cases c with
   | blk ty cs =>
    obtain ⟨g, cur, h5, h6, h7⟩ := h4
    exact ⟨g, cur, by rw [jW hi]; exact h5, h6, h7.1, fun j x y a b => (h7.2 j x y a b).upd (qA hfr j x a)⟩
   | row e sz xs =>
    obtain ⟨h0, h5, vs, h6, h7⟩ := h4
    exact ⟨h0, h5, vs, by rw [jW hi]; exact h6, h7⟩
   | sem c => show c.rel _ _ _; rw [jW hi]; exact h4
 ·by_cases hi : i = id2
  ·subst hi
   rw [jM] at hgf
   have := hr.foot id _ hg g hgf
   exact ⟨.inr (this.1.resolve_left (hmay g)), this.2⟩
  ·rw [jW hi] at hgf
   exact hr.foot i c (hin i c hi hc).2 g hgf
 ·by_cases hi : i = id2
  ·by_cases hj : j = id2
   ·rw [hi, hj]
   ·subst hi
    rw [jM] at h1
    rw [jW hj] at h2
    exact absurd (hr.dj id j _ d hg (hin j d hj hd).2 g h1 h2).symm (hin j d hj hd).1
  ·by_cases hj : j = id2
   ·subst hj
    rw [jM] at h2
    rw [jW hi] at h1
    exact absurd (hr.dj i id c _ (hin i c hi hc).2 hg g h1 h2) (hin i c hi hc).1
   ·rw [jW hi] at h1
    rw [jW hj] at h2
    exact hr.dj i j c d (hin i c hi hc).2 (hin j d hj hd).2 g h1 h2
 ·have := hr.pin p hp
  exact ⟨this.1, by rw [jW (by omega)]; exact this.2⟩
 ·by_cases hi : i = id2
  ·subst hi; rw [jM]; exact (hr.xo p hp).2.2 id _ hg
  ·rw [jW hi]; exact (hr.xo p hp).2.2 i c (hin i c hi hc).2
theorem j4f {α : Type} {E : Env} {σ : Sig} {ι : Nat -> Value} {w : World} (hr : Rel E σ ι h w) {id sz by_ : Nat} {l ys : List α} {f : α -> List AV} {t e ot : TypeId} (ht : qD P t = some e) (hz : q9 P e sz = true) {z0 : List AV} (h0 : wQ P e = some z0) (hz0 : z0.length = sz)
  (hby : w0 P e by_ = true) (hg : j9 h id = some (.row e sz (l.map f))) {vy : Value} (hY : VR σ ι (.lst sz (ys.map f)) vy) (hq : ∀ y ∈ ys, (f y).all Ql = true) (hlen : (l.length + ys.length) * by_ <= 140737488355328) (hlen2 : l.length + ys.length <= 9223372036854775807) (h5 : Nat.ble 5 id = true) (hl : wl id h = true) :
  ∃ v' w', (Builtin.append_ #[t, t] ot #[ι id, vy]).run P w = .ok v' w' ∧ (∃ A m c, v' = .slice A m c) ∧ Rel E σ (upd ι id v') ((id, .row e sz ((l ++ ys).map f)) :: h) w' := by
 obtain ⟨hsz0, hsz, vs, hown, hL⟩ := hr.ch id _ hg
 obtain ⟨zi, z, hzi, hzz, hzL⟩ := vI h0
 have hisz : zi.size = sz := by unfold q9 at hz; rw [hzi] at hz; exact Nat.eq_of_beq_eq_true hz
 have hiby : zi.bytes = by_ := by unfold w0 at hby; rw [hzi] at hby; exact Nat.eq_of_beq_eq_true hby
 have hzs : z.cells.size = sz := by rw [<- Array.length_toList, <- (hzL σ).1, hz0]
 have hu := qF ht
 have key : ∃ v' w' ws, (Builtin.append_ #[t, t] ot #[ι id, vy]).run P w = .ok v' w' ∧ w'.ownsRow 0 e sz v' (l.length + ys.length) (vs ++ ws) ∧ w.grownBy w' (ι id).ownBlock ∧ (jC v' = jC (ι id) ∨ jC v' = some w.heap.size) ∧ L2 (VR0 σ) (ys.map f).flatten ws ∧ (∀ c ∈ ys.map f, c.length = sz) := by
  obtain ⟨A, cap, e2, e3, e4, e5⟩ := hY.lst_inv
  rw [List.length_map] at hown
  by_cases hnil : ys = []
  ·subst hnil
   refine ⟨ι id, w, [], ?_, by simpa using hown, ⟨rfl, rfl, rfl, Nat.le_refl _, fun _ _ _ => rfl⟩, .inl rfl, L2.nil _, by simp⟩
   rw [e2]
   rcases hown.2 with ⟨h2, h3⟩ | ⟨g, cap', cur, h2, _, h3, h4, _, h6, _⟩
   ·rw [h2]
    cases A with
    | none => simp [Builtin.append_, run_underlying hu, sizeOf, typeInfo, hzi, Builtin.lenOf, Builtin.firstCells]
    | some ad =>
     have hl0 := run_loadCells_list (P := P) w ad [] (by simp)
     simp only [List.length_nil] at hl0
     simp [Builtin.append_, run_underlying hu, sizeOf, typeInfo, hzi, Builtin.lenOf, Builtin.firstCells, hl0]
   ·rw [h2]
    cases A with
    | none => simp [Builtin.append_, run_underlying hu, sizeOf, typeInfo, hzi, Builtin.lenOf, Builtin.firstCells, h4, storeCells]
    | some ad =>
     have hl0 := run_loadCells_list (P := P) w ad [] (by simp)
     simp only [List.length_nil] at hl0
     simp [Builtin.append_, run_underlying hu, sizeOf, typeInfo, hzi, Builtin.lenOf, Builtin.firstCells, h4, storeCells, hl0]
  ·rcases e5 with e5 | ⟨b, off, g, rfl, h3, h4, h5'⟩
   ·exact absurd (by simpa using e5) hnil
   have hfl : ((ys.map f).flatten).length = ys.length * sz := by rw [qM h3, List.length_map]
   obtain ⟨ws, hws⟩ : ∃ ws : List Value, ws = (List.range (ys.length * sz)).map g := ⟨_, rfl⟩
   have hwl : ws.length = ys.length * sz := by rw [hws]; simp
   have hwg : ∀ j u, ws[j]? = some u -> j < ys.length * sz ∧ u = g j := fun j u hj => by
    have hjl : j < ys.length * sz := by rw [<- hwl]; exact (List.getElem?_eq_some_iff.1 hj).1
    refine ⟨hjl, ?_⟩
    rw [hws] at hj
    simpa [hjl] using hj.symm
   have hone : ∀ u ∈ ws, u.oneCell' = true := fun u hu => by
    obtain ⟨j, hj⟩ := List.getElem?_of_mem hu
    obtain ⟨hjl, rfl⟩ := hwg j u hj
    have h6 : (ys.map f).flatten[j]? = some ((ys.map f).flatten[j]'(by omega)) := List.getElem?_eq_getElem (by omega)
    have h7 : (ys.map f).flatten[j]'(by omega) ∈ (ys.map f).flatten := List.getElem_mem _
    obtain ⟨c, hc, hc2⟩ := List.mem_flatten.1 h7
    obtain ⟨y0, hy0, rfl⟩ := List.mem_map.1 hc
    exact (VR.base (ι := ι) _ _ (h5' j _ h6)).one (List.all_eq_true.1 (hq y0 hy0) _ hc2)
   have hnews : ∀ j u, ws[j]? = some u -> w.cell? ((⟨b, off, none⟩ : Addr).add j) = some u := fun j u hj => by
    obtain ⟨hjl, rfl⟩ := hwg j u hj
    rw [Go.WideShapes.add_plain]
    exact hr.sub _ _ (h4 j _ (List.getElem?_eq_getElem (by omega)))
   have hmax : l.length + ys.length <= maxLen := by simp only [maxLen]; omega
   obtain ⟨v', w', h6, h7, h8, _⟩ := run_append_own (P := P) w 0 t ot e zi z sz by_ hu hzi hzz hisz hiby hzs hsz0 (ι id) l.length vs hown ⟨b, off, none⟩ ys.length cap ws hwl hnews hone hmax hlen (Nat.zero_le _)
   have hft : jC v' = jC (ι id) ∨ jC v' = some w.heap.size := by
    have h7' := h7
    rcases hown.2 with ⟨h2, h3'⟩ | ⟨g0, cap0, cur0, h2, _, hg0, hn0, hc0, hs0, htake⟩
    ·-- out of nothing
     have hown' : w.ownsRow w.heap.size e sz (ι id) l.length vs := ⟨hown.1, .inl ⟨h2, h3'⟩⟩
     obtain ⟨v2, w2, k6, k7, k8, _⟩ := run_append_own (P := P) w w.heap.size t ot e zi z sz by_ hu hzi hzz hisz hiby hzs hsz0 (ι id) l.length vs hown' ⟨b, off, none⟩ ys.length cap ws hwl hnews hone hmax hlen (Nat.le_refl _)
     rw [h6] at k6
     injection k6 with k6 k6'
     subst k6; subst k6'
     have hnr := run_append_nil (P := P) w t ot e zi z hu hzi hzz ⟨b, off, none⟩ ys.length cap ws (by rw [hisz]; exact hwl) hnews (by have := List.length_pos_iff.2 hnil; omega) (by omega) (by rw [h3'] at hlen; simp only [Nat.zero_add] at hlen; rw [hiby]; omega)
     rw [<- h2, h6] at hnr
     injection hnr with hnr _
     exact .inr (by rw [hnr]; rfl)
    ·by_cases hroom : l.length + ys.length <= cap0
     ·have hrr := run_append_room (P := P) w t ot e zi hu hzi g0 l.length cap0 cur0 hg0 ⟨b, off, none⟩ ys.length cap ws (by rw [hisz]; exact hwl) hnews hone hroom (by rw [hisz, hwl, hs0, <- Nat.add_mul]; exact Nat.mul_le_mul_right _ hroom)
      rw [<- h2, h6] at hrr
      injection hrr with hrr _
      exact .inl (by rw [hrr, h2]; rfl)
     ·have hgr := run_append_grow (P := P) w t ot e zi z hu hzi hzz ⟨g0, 0, none⟩ l.length cap0 vs (by rw [hisz]; exact hown.1) (hown.cells (g := g0) (by rw [h2]; rfl)) ⟨b, off, none⟩ ys.length cap ws (by rw [hisz]; exact hwl) hnews (by omega) (by omega) (growslice_fits (by omega) (by rw [hiby]; exact hlen))
      rw [<- h2, h6] at hgr
      injection hgr with hgr _
      exact .inr (by rw [hgr]; rfl)
   rw [List.length_map] at e2
   rw [e2]
   refine ⟨v', w', ws, h6, h7, h8, hft, ⟨by omega, fun j x u hx hu => ?_⟩, h3⟩
   obtain ⟨hjl, rfl⟩ := hwg j u hu
   exact h5' j x hx
 obtain ⟨v', w', ws, h6, h7, h8, hft, h9, h10⟩ := key
 have hform : ∃ A m c, v' = .slice A m c := by
  rcases h7.2 with ⟨h2, _⟩ | ⟨g, cap', cur, h2, _⟩
  ·exact ⟨_, _, _, h2⟩
  ·exact ⟨_, _, _, h2⟩
 obtain ⟨B0, d0, hi0, _⟩ := hr.rowForm hg
 have hob : ∀ k, (ι id).ownBlock = some k ↔ jC (ι id) = some k := fun k => by rw [hi0]; cases B0 <;> simp [jC, Value.ownBlock]
 have hnew := hr.turn (id := id) (u := v') (h' := (id, .row e sz ((l ++ ys).map f)) :: h) (c' := .row e sz ((l ++ ys).map f)) (w' := w')
  (fun i c hi hc => by
    rw [j7, if_neg (fun e => hi e.symm)] at hc
    exact ⟨hc, .inr (vM hl i c hc)⟩)
  (by rw [j7, if_pos rfl])
  ⟨hsz0, fun c hc => by
   rw [List.map_append] at hc
   rcases List.mem_append.1 hc with hc | hc
   ·exact hsz c hc
   ·exact h10 c hc, vs ++ ws, by rw [jM, List.length_map, List.length_append]; exact h7, by rw [List.map_append, List.flatten_append]; exact hL.append h9⟩
  h8.os h8.tape h8.output h8.size
  (fun k hk hne => h8.block k hk fun e => hne _ hg ((hob k).1 e.symm))
  (fun g hv => by
    rcases hft with h1 | h1
    ·exact .inl ⟨_, hg, by rw [<- h1]; exact hv⟩
    ·rw [h1] at hv; cases hv; exact .inr (Nat.le_refl _))
  (.inl (Nat.ble_eq ▸ h5))
 exact ⟨v', w', h6, hform, hnew⟩

theorem j6j {α : Type} {id id2 sz : Nat} {l : List α} {f : α -> List AV} {t e : TypeId} {x y : Operand} {z0 : List AV} {yl : List (List AV)} {ys : List α} {by_ : Nat} {h' : j8} (ho : o.op = .call { callee := .builtin .append, args := #[x, y], argTypes := #[t, t] }) (hx : evA s x = .own id) (hg : j9 h id = some (.row e sz (l.map f))) (ht : qD P t = some e) (hz : q9 P e sz = true) (h0 : wQ P e = some z0) (hz0 : Nat.beq z0.length sz = true) (hby : w0 P e by_ = true) (hy : evA s y = .lst sz yl) (hyl : yl = ys.map f) (hq : ∀ y ∈ ys, (f y).all Ql = true)
  (hlen : (l.length + ys.length) * by_ <= 140737488355328) (hlen2 : l.length + ys.length <= 9223372036854775807) (h10 : ZV id = true) (h5 : Nat.ble 5 id2 = true) (hf : vo id2 h = true) (hlo : wl id2 (yf id h) = true) (hh : LeH ((id2, .row e sz ((l ++ ys).map f)) :: yf id h) h') : TuL P [id2] o s h h' (.own id2) := fun E σ ι a w hr hv K Q hK => by
 subst hyl
 have hX : VR σ ι (evA s x) (a.eval x) := hv x (by rw [ho]; simp [Op.operands, Call.operands])
 have hY : VR σ ι (evA s y) (a.eval y) := hv y (by rw [ho]; simp [Op.operands, Call.operands])
 rw [hx] at hX
 rw [hy] at hY
 have e1 := hX.own_inv
 have h5' := Nat.ble_eq ▸ h5
 have hr2 := hr.rename hg (yD h10) h5' hf
 obtain ⟨v', w', h6, ⟨A, m, c, e0⟩, hnew⟩ := j4f (P := P) (ot := o.type) hr2 ht hz h0 (Nat.eq_of_beq_eq_true hz0) hby (by rw [j7, if_pos rfl]) (hY.upd (u := ι id) rfl) hq hlen hlen2 h5 hlo
 rw [jM] at h6
 unfold Oper.wp
 have hrun : (execOp a.eval o).run P w = .ok (.value v') w' := by
  unfold execOp
  simp only [ho, resolve, invoke, builtin, Sem.run_bind, Sem.run_pure, Result.andThen_ok, List.map_toArray, List.map_cons, List.map_nil, e1, h6]
 rw [hrun]
 refine hK σ _ w' v' (Sig.le.refl σ) (fun n s a hN t => (t.updN h5' (hN id2 (by simp)) _).updN h5' (hN id2 (by simp)) _) ((hnew.le fun i c hc => ?_).le hh) ?_
 ·rw [j7] at hc ⊢
  split at hc
  ·rename_i e; rw [if_pos e]; exact hc
  ·rename_i e; rw [if_neg e, j7, if_neg e]; exact hc
 ·have h2 := VR.own (σ := σ) (ι := upd (upd ι id2 (ι id)) id2 v') id2 (by rw [jM, e0]; rfl)
  rwa [jM] at h2
theorem zf {N : Nat} {v : AV} (hy : Y P o s h v) : TuN P N o s h h v := fun E σ ι a w hr hv K Q hK =>
 hy.out E σ ι a w hr hv K Q fun σ' w' u k1 k2 k3 => hK σ' ι w' u k1 (fun n s a _ t => t.mono k1) k2 k3
end
section
variable {P : Program} {n : Md} {Q : Exit -> j6 -> j8 -> Prop} {s : j6} {h : j8} {ops : Array Oper} {rest : List Oper} {o : Oper}
theorem j2d {t id id2 sz : Nat} {e : TypeId} {xs : List (List AV)} (hs : get s t = .own id) (hg : j9 h id = some (.row e sz xs)) (h10 : ZV id = true) (h5 : Nat.ble 5 id2 = true) (hf : vo id2 h = true) : Turns n s h ((t, .own id2) :: qv id2 s) ((id2, .row e sz xs) :: yf id h) := by
 intro E σ ι a w hr ht
 have h5' : 5 <= id2 := Nat.ble_eq ▸ h5
 have hr0 := hr.rename hg (yD h10) h5' hf
 refine ⟨σ, upd ι id2 (ι id), hr0, ?_⟩
 have hk := ht.kill id2 h5' (ι id)
 refine ⟨hk.size, hk.defers, fun u => ?_⟩
 rw [qO]
 split
 ·rename_i e; subst e
  have hv := ht.at_ t
  rw [hs] at hv
  obtain ⟨A, cap, e2, _, _⟩ := hr.rowForm hg
  rw [hv.own_inv]
  have h2 := VR.own (σ := σ) (ι := upd ι id2 (ι id)) id2 (by rw [jM, e2]; rfl)
  rwa [jM] at h2
 ·exact hk.at_ u
end
theorem j48 {js : List Job} {k : Nat} (hk : k < js.length) : js.getD k default = js[k] := by
 rw [List.getD_eq_getElem?_getD, List.getElem?_eq_getElem hk, Option.getD_some]
def j0O (t : Int) (p : List Int × Bk) (i : Int) : List Int × Bk := if wh t (jH p.2 i) then (p.1 ++ [i], yz p.2 i (vZ (jH p.2 i))) else p
theorem XI (B : Bk) (t : Int) (ks : List Int) : ∀ k, k <= ks.length -> jN B t ks k = (ks.take k).foldl (j0O t) ([], B)
 | 0, _ => by simp [jN]
 | k + 1, h => by
  have e : ks.getD k default = ks[k] := by simp [show k < ks.length by omega]
  rw [List.take_succ_eq_append_getElem (by omega), List.foldl_append, <- XI B t ks k (by omega), <- e]
  rfl
theorem j24 (m k : Nat) (hk : k < 64) : z6 m (k + 1) = z6 m k ++ (if jm m k then [(k : Int)] else []) := by
 rw [Z7]
 congr 1
 have : jm m (k : Int) = decide (m / 2 ^ k % 2 = 1) := by
  rw [vx, <- Nat.testBit_eq_decide_div_mod_eq, Bool.eq_iff_iff, decide_eq_true_eq]
  unfold jV vJ
  rw [List.mem_map]
  constructor
  ·rintro ⟨j, hj, e⟩
   have e : j = k := by omega
   subst e
   exact (List.mem_filter.1 hj).2
  ·intro hb
   exact ⟨k, List.mem_filter.2 ⟨List.mem_range.2 hk, hb⟩, rfl⟩
 rw [this]
 by_cases h : m / 2 ^ k % 2 = 1 <;> simp [h]
def XD (B : Bk) (t : Int) (k : Nat) : List Int × Bk := (z6 B.act k).foldl (j0O t) ([], B)
theorem ZW (B : Bk) (t : Int) (k : Nat) (hk : k < 64) : XD B t (k + 1) = if jm B.act k then j0O t (XD B t k) k else XD B t k := by
 rw [XD, j24 _ _ hk, List.foldl_append]
 split
 ·rfl
 ·rfl
theorem j0f (B : Bk) (t : Int) : XD B t 64 = jN B t (jV B.act) (jV B.act).length := by
 rw [XI _ _ _ _ (Nat.le_refl _), List.take_length]; rfl
structure LateI (l : List Task) (n : Nat) (B : Bk) (k : Nat) (p : List Int × Bk) : Prop where
 good : GoodB l n p.2
 act : p.2.act = B.act
 len : p.1.length <= k
 overs : p.2.overs = B.overs
end Go.Proofs.YtfjoaeghnfkdlaaGreatDoor
