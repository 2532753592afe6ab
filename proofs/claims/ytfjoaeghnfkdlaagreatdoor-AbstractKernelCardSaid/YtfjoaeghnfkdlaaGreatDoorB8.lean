/- Regions in whatever order that store into rows of the call's own: each store and each load ahead of or behind each other store. No condition. -/
import Derived.Test.YtfjoaeghnfkdlaaGreatDoorB7
import Derived.Test.YtfjoaeghnfkdlaaGreatDoorRows
import Derived.WalkKit
import Derived.WalkSpells
import Derived.WalkLawsBesides
import Derived.Deep.Slices
import Derived.Deep.Draws
import Derived.OpenShut
import Derived.Laws.OwnMore
set_option linter.unusedSimpArgs false
set_option linter.unusedVariables false
set_option maxHeartbeats 1000000
set_option maxRecDepth 100000
namespace Go.Proofs.YtfjoaeghnfkdlaaGreatDoor
open Go.RowKit
section
variable {P : Program} {n : Md} {Q : Exit -> j6 -> j8 -> Prop} {s : j6} {h : j8} {ops : Array Oper} {rest : List Oper} {o : Oper}
def vm (o : Oper) : Bool := match o.op with | .store _ _ _ => true | _ => false
def YA (o : Oper) : Bool := match o.op with | .load _ _ => true | _ => false
def StO (P : Program) (o : Oper) (s : j6) (h h' : j8) : Prop :=
 ∀ (E : Env) (σ : Sig) (ι : Nat -> Value) (a : Act) (w : World), Rel E σ ι h w -> (∀ y ∈ o.op.operands.toList, VR σ ι (evA s y) (a.eval y)) -> ∃ w', (execOp a.eval o).run P w = .ok .skip w' ∧ Rel E σ ι h' w'
variable {β : Type} {H : β -> j8} {ok : β -> Prop} {K : j6 -> β -> Prop}
def ADs (P : Program) (H : β -> j8) (ok : β -> Prop) (K : j6 -> β -> Prop) : List Oper -> j6 -> β -> Prop
 | [], s, x => ∃ s', (∀ t, get s t = get s' t) ∧ K s' x
 | o :: rest, s, x => (vm o = true ∧ ∃ x', ok x' ∧ StO P o s (H x) (H x') ∧ ADs P H ok K rest s x') ∨
   (vm o = false ∧ ∃ v, ((YA o = true ∧ OkO P o s (H x) v) ∨ ∀ y, ok y -> OkO P o s (H y) v) ∧ ADs P H ok K rest (jX s o.dst v) x)
def cSt (l : List Oper) (i : Nat) : Nat := (l.take i).countP vm
theorem Z3 (l : List Oper) {i j : Nat} (h : i <= j) : cSt l i <= cSt l j := by
 obtain ⟨d, rfl⟩ := Nat.exists_eq_add_of_le h
 rw [cSt, cSt, List.take_add, List.countP_append]; omega
theorem JH {l : List Oper} {i : Nat} {o : Oper} (ho : l[i]? = some o) : cSt l (i + 1) = cSt l i + (if vm o then 1 else 0) := by
 obtain ⟨hi, rfl⟩ := List.getElem?_eq_some_iff.1 ho
 rw [cSt, List.take_succ_eq_append_getElem hi, List.countP_append]; simp [cSt, List.countP_cons]
def KnS (P : Program) (H : β -> j8) (ok : β -> Prop) (l : List Oper) (s : j6) (vs : Nat -> AV) (ys : Nat -> β) (i : Nat) (o : Oper) : Prop :=
 (vm o = true ∧ StO P o (jG s l vs (fun _ => true) i) (H (ys (cSt l i))) (H (ys (cSt l i + 1)))) ∨
 (vm o = false ∧ ((YA o = true ∧ OkO P o (jG s l vs (fun _ => true) i) (H (ys (cSt l i))) (vs i)) ∨ ∀ y, ok y -> OkO P o (jG s l vs (fun _ => true) i) (H y) (vs i)))
theorem ZX (l : List Oper) (hdst : ∀ (i : Nat) (o : Oper), l[i]? = some o -> vm o = true -> o.dst = none) : ∀ (rest : List Oper) (m : Nat) (vs : Nat -> AV) (ys : Nat -> β), l.drop m = rest -> m <= l.length -> ADs P H ok K rest (jG s l vs (fun _ => true) m) (ys (cSt l m)) ->
  (∀ k, k <= cSt l m -> ok (ys k)) -> (∀ (i : Nat) (o : Oper), i < m -> l[i]? = some o -> KnS P H ok l s vs ys i o) ->
  ∃ (vs' : Nat -> AV) (ys' : Nat -> β), (∀ k, k = 0 -> ys' k = ys k) ∧ (∃ s', (∀ t, get (jG s l vs' (fun _ => true) l.length) t = get s' t) ∧ K s' (ys' (cSt l l.length))) ∧ (∀ k, k <= cSt l l.length -> ok (ys' k)) ∧ ∀ (i : Nat) (o : Oper), l[i]? = some o -> KnS P H ok l s vs' ys' i o
 | [], m, vs, ys, hr, hm, hd, hok, hk => by
  have hm' : m = l.length := by
   have := List.drop_eq_nil_iff.1 hr; omega
  subst hm'
  exact ⟨vs, ys, fun _ _ => rfl, hd, hok, fun i o ho => hk i o (List.getElem?_eq_some_iff.1 ho).1 ho⟩
 | o :: rest, m, vs, ys, hr, hm, hd, hok, hk => by
  have hlt : m < l.length := by
   have : (l.drop m).length = (o :: rest).length := by rw [hr]
   simp at this; omega
  have ho : l[m]? = some o := by
   have : (l.drop m)[0]? = some o := by rw [hr]; rfl
   simpa using this
  have hr' : l.drop (m + 1) = rest := by rw [<- List.drop_drop, hr]; rfl
  have hcm : ∀ (i : Nat) (o' : Oper), i < m -> l[i]? = some o' -> vm o' = true -> cSt l i + 1 <= cSt l m := fun i o' hi ho' hs => by
   have h1 := JH ho'
   rw [hs, if_pos rfl] at h1
   have h2 : cSt l (i + 1) <= cSt l m := Z3 l hi
   omega
  have hcle : ∀ i, i <= m -> cSt l i <= cSt l m := fun i hi => Z3 l hi
  rcases hd with ⟨hs, x', hx', hst, hd⟩ | ⟨hs, v, hv, hd⟩
  ·-- a store
   have hc := JH ho
   rw [hs, if_pos rfl] at hc
   obtain ⟨ys2, hys2⟩ : ∃ ys2 : Nat -> β, ys2 = fun k => if k = cSt l m + 1 then x' else ys k := ⟨_, rfl⟩
   have e1 : ∀ k, k <= cSt l m -> ys2 k = ys k := fun k hk => by rw [hys2]; show (if _ then _ else _) = _; rw [if_neg (by omega)]
   have e2 : ys2 (cSt l m + 1) = x' := by rw [hys2]; show (if _ then _ else _) = _; rw [if_pos rfl]
   obtain ⟨vs', ys', q1, q2, q3, q4⟩ := ZX l hdst rest (m + 1) vs ys2 hr' hlt (by
     simp only [jG, if_true, ho, Option.bind_some, hdst m o ho hs, jX]
     rw [hc, e2]; exact hd)
    (fun k hk => by
      rw [hc] at hk
      by_cases hke : k = cSt l m + 1
      ·rw [hke, e2]; exact hx'
      ·rw [e1 k (by omega)]; exact hok k (by omega))
    (fun i o' hi ho' => by
      by_cases him : i = m
      ·subst him
       rw [ho] at ho'; cases ho'
       exact .inl ⟨hs, by rw [e1 _ (Nat.le_refl _), e2]; exact hst⟩
      ·have := hk i o' (by omega) ho'
       unfold KnS at this ⊢
       rcases this with ⟨h1, h2⟩ | ⟨h1, h2⟩
       ·exact .inl ⟨h1, by rw [e1 _ (hcle i (by omega)), e1 _ (hcm i o' (by omega) ho' h1)]; exact h2⟩
       ·exact .inr ⟨h1, by rw [e1 _ (hcle i (by omega))]; exact h2⟩)
   exact ⟨vs', ys', fun k hk => (q1 k hk).trans (e1 k (by omega)), q2, q3, q4⟩
  ·have hc := JH ho
   rw [hs, if_neg (by simp), Nat.add_zero] at hc
   have e : ∀ k, k <= m -> jG s l (fun i => if i = m then v else vs i) (fun _ => true) k = jG s l vs (fun _ => true) k := fun k hk => vf k fun j hj => by
    show (if j = m then v else vs j) = vs j; rw [if_neg (by omega)]
   refine ZX l hdst rest (m + 1) (fun i => if i = m then v else vs i) ys hr' hlt ?_ (by rw [hc]; exact hok) ?_
   ·simp only [jG, if_true, ho, Option.bind_some]
    rw [e m (Nat.le_refl _), hc]; exact hd
   ·intro i o' hi ho'
    by_cases him : i = m
    ·subst him
     rw [ho] at ho'; cases ho'
     refine .inr ⟨hs, ?_⟩
     rw [e i (Nat.le_refl _)]
     simp only [if_true]
     exact hv
    ·have := hk i o' (by omega) ho'
     unfold KnS at this ⊢
     simp only [e i (by omega), if_neg him]
     exact this
def stQ (l : List Oper) : Bool :=
 (l.all fun o => o.guard.isNone && (!vm o || o.dst.isNone)) && (List.range l.length).all fun j => (List.range j).all fun i => match l[i]?, l[j]? with
   | some p, some q => !((vm p && (vm q || YA q)) || (vm q && YA p)) || ((Region.before l.toArray).getD j 0).testBit i
   | _, _ => true
theorem j3a {l : List Oper} (hq : stQ l = true) {i j : Nat} {p q : Oper} (hij : i < j) (hp : l[i]? = some p) (hq' : l[j]? = some q) (hm : (vm p && (vm q || YA q)) || (vm q && YA p)) : ((Region.before l.toArray).getD j 0).testBit i = true := by
 have hj := (List.getElem?_eq_some_iff.1 hq').1
 unfold stQ at hq
 have h1 := List.all_eq_true.1 (List.all_eq_true.1 (Bool.and_eq_true _ _ ▸ hq).2 j (List.mem_range.2 hj)) i (List.mem_range.2 hij)
 simp only [hp, hq', hm, Bool.not_true, Bool.false_or] at h1
 exact h1
theorem Xt {l : List Oper} (hq : stQ l = true) {i : Nat} {o : Oper} (ho : l[i]? = some o) : o.guard = none ∧ (vm o = true -> o.dst = none) := by
 unfold stQ at hq
 have h1 := List.all_eq_true.1 (Bool.and_eq_true _ _ ▸ hq).1 o (List.mem_of_getElem? ho)
 simp only [Bool.and_eq_true, Option.isNone_iff_eq_none, Bool.or_eq_true, Bool.not_eq_true'] at h1
 exact ⟨h1.1, fun hs => by rcases h1.2 with h2 | h2; rw [hs] at h2; cases h2; exact h2⟩
def cL (l : List Oper) (L : Nat -> Bool) : Nat := (List.range l.length).countP fun j => L j && ((l[j]?).map vm).getD false
theorem j3J {l : List Oper} {L : Nat -> Bool} {i : Nat} (hi : i <= l.length) (h1 : ∀ (j : Nat) (o : Oper), j < i -> l[j]? = some o -> vm o = true -> L j = true) (h2 : ∀ (j : Nat) (o : Oper), i <= j -> l[j]? = some o -> vm o = true -> L j = false) : cL l L = cSt l i := by
 have hsplit : List.range l.length = List.range i ++ (List.range' i (l.length - i)) := by
  rw [List.range_eq_range', List.range_eq_range']
  conv => lhs; rw [show l.length = i + (l.length - i) by omega]
  rw [<- List.range'_append_1, Nat.zero_add]
 rw [cL, hsplit, List.countP_append]
 have e2 : (List.range' i (l.length - i)).countP (fun j => L j && ((l[j]?).map vm).getD false) = 0 := by
  rw [List.countP_eq_zero]
  intro j hj
  obtain ⟨h3, h4⟩ := List.mem_range'_1.1 hj
  cases ho : l[j]? with
  | none => simp
  | some o =>
   cases hs : vm o with
   | true => simp [h2 j o h3 ho hs]
   | false => simp [hs]
 rw [e2, Nat.add_zero]
 have e1 : ∀ k, k <= i -> (List.range k).countP (fun j => L j && ((l[j]?).map vm).getD false) = cSt l k := by
  intro k
  induction k with
  | zero => intro _; simp [cSt]
  | succ k ih =>
   intro hk
   have ho : l[k]? = some l[k] := List.getElem?_eq_getElem (by omega)
   rw [List.range_succ, List.countP_append, ih (by omega), JH ho]
   congr 1
   cases hs : vm l[k] with
   | true => simp [ho, hs, h1 k _ (by omega) ho hs]
   | false => simp [ho, hs]
 exact e1 i (Nat.le_refl _)
def QU (n : Md) (ops : List Oper) : Bool :=
 let b := Region.before ops.toArray
 (List.range ops.length).all fun j => match ops[j]? with
   | none => true
   | some o => xO o && qC o && qj n o.dst && (o.after.toList.all fun e => !Region.binds .any e || Nat.blt e.on j) && (match o.guard with | some (g, _) => (b.getD j 0).testBit g | none => true) &&
    (List.range ops.length).all fun i => i == j || (match jz ops.toArray i with
      | none => true
      | some d => !((qZ ops.toArray o).contains d || o.dst == some d) || (b.getD (max i j) 0).testBit (min i j))
theorem Qr {n : Md} {l : List Oper} (hok : QU n l = true) {j : Nat} {o : Oper} (ho : l[j]? = some o) :
  xO o = true ∧ qC o = true ∧ qj n o.dst = true ∧ (∀ e ∈ o.after.toList, Region.binds .any e = true -> e.on < j) ∧ (∀ g want, o.guard = some (g, want) -> ((Region.before l.toArray).getD j 0).testBit g = true) ∧
  ∀ i d, i < l.length -> i ≠ j -> jz l.toArray i = some d -> (d ∈ qZ l.toArray o ∨ o.dst = some d) -> ((Region.before l.toArray).getD (max i j) 0).testBit (min i j) = true := by
 have hj : j < l.length := (List.getElem?_eq_some_iff.1 ho).1
 unfold QU at hok
 have h1 := List.all_eq_true.1 hok j (List.mem_range.2 hj)
 simp only [ho, Bool.and_eq_true] at h1
 obtain ⟨⟨⟨⟨⟨h1, h2⟩, h3⟩, h4⟩, h5⟩, h6⟩ := h1
 refine ⟨h1, h2, h3, fun e he hb => by have := List.all_eq_true.1 h4 e he; rw [hb] at this; simpa using this, fun g want hg => by rw [hg] at h5; exact h5, fun i d hi hne hd hor => ?_⟩
 have h7 := List.all_eq_true.1 h6 i (List.mem_range.2 hi)
 simp only [hd, Bool.or_eq_true, beq_iff_eq, Bool.not_eq_true'] at h7
 rcases h7 with h7 | h7 | h7
 ·exact absurd h7 hne
 ·exfalso
  rcases hor with h8 | h8 <;> simp [h8] at h7
 ·exact h7
theorem j1K {id : Nat} {l : List Oper} {x0 : β} (hm : P.follows .mixedOrders = true) (hok : QU n l = true) (hst : stQ l = true) (hx0 : ok x0) (hk : ADs P H ok (fun s' x => Q .normal s' (H x)) l s x0) : AWp P n (.region id l.toArray true) Q s (H x0) := by
 intro E σ0 ι a w hr ht
 obtain ⟨vs, ys, hy0, ⟨sF, hF, hQ⟩, hoky, hkn⟩ := ZX (s := s) l (fun i o ho => (Xt hst ho).2) l 0 (fun _ => .undef) (fun _ => x0) rfl (Nat.zero_le _) hk (fun _ _ => hx0) (fun i o hi => absurd hi (by omega))
 have hy0 := hy0 0 rfl
 refine wpIn_region_any hm ?_
 have hr' : Rel E σ0 ι (H (ys 0)) { w with drawn := w.drawn + 1 } := by rw [hy0]; exact ⟨hr.os, hr.tape, hr.output, hr.size, hr.old, hr.sigOld, hr.sub, hr.ch, hr.foot, hr.dj, hr.pin, hr.low, hr.xo⟩
 have key : ∀ (fuel : Nat) (listed : Array Bool) (σ : Sig) (a : Act) (w : World), listed.size = l.length ->
   (∀ j o, l[j]? = some o -> listed.getD j false = true -> ∀ e ∈ o.after.toList, Region.binds .any e = true -> listed.getD e.on false = true) ->
   (List.range l.length).countP (fun j => !listed.getD j false) <= fuel ->
   Rel E σ ι (H (ys (cL l (fun j => listed.getD j false)))) w -> TR n σ ι (jG s l vs (fun j => listed.getD j false) l.length) a ->
   wpAnyIn (qd n.ro) 0 P .any l.toArray (fun e a' w' => ∃ s' h' σ' ι', Q e s' h' ∧ Rel E σ' ι' h' w' ∧ TR n σ' ι' s' a') fuel listed a w := by
  have done : ∀ (listed : Array Bool) (σ : Sig) (a : Act) (w : World), listed.size = l.length ->
    Region.ready .any l.toArray listed = [] -> Rel E σ ι (H (ys (cL l (fun j => listed.getD j false)))) w -> TR n σ ι (jG s l vs (fun j => listed.getD j false) l.length) a -> ∃ s' h' σ' ι', Q .normal s' h' ∧ Rel E σ' ι' h' w ∧ TR n σ' ι' s' a := by
   intro listed σ a w hsz hready hr ht
   have hall : ∀ m j, j < m -> j < l.length -> listed.getD j false = true := by
    intro m
    induction m with
    | zero => intro j hj; omega
    | succ m ih =>
     intro j hj hlen
     by_cases hlt : j < m
     ·exact ih j hlt hlen
     obtain rfl : j = m := by omega
     cases hl : listed.getD j false with
     | true => rfl
     | false =>
      exfalso
      have : j ∈ Region.ready .any l.toArray listed := by
       unfold Region.ready
       refine List.mem_filter.2 ⟨by simpa using hlen, ?_⟩
       have ho : l[j]? = some l[j] := List.getElem?_eq_getElem hlen
       have hj' : listed.getD j true = false := by
        have hb : j < listed.size := by omega
        simpa [Array.getD, hb] using hl
       simp only [hj', Bool.not_false, Bool.true_and, List.getElem?_toArray, ho, Option.map_some, Option.getD_some]
       rw [<- Array.all_toList]
       refine List.all_eq_true.2 fun e he => ?_
       cases hb : Region.binds .any e with
       | false => simp
       | true =>
        have h3 := (Qr hok ho).2.2.2.1 e he hb
        rw [ih e.on h3 (by omega)]; simp
      rw [hready] at this; cases this
   have hcl : cL l (fun j => listed.getD j false) = cSt l l.length := j3J (Nat.le_refl _) (fun j o hj ho _ => hall _ j hj hj) (fun j o hj ho => by have := (List.getElem?_eq_some_iff.1 ho).1; omega)
   rw [hcl] at hr
   refine ⟨_, _, σ, ι, hQ, hr, ?_⟩
   refine ⟨ht.size, ht.defers, fun t => ?_⟩
   have := ht.at_ t
   rwa [qW (M := fun _ => true) l.length fun j hj _ => hall _ j hj hj, hF] at this
  intro fuel
  induction fuel with
  | zero =>
   intro listed σ a w hsz _ hc hr ht
   have hready : Region.ready .any l.toArray listed = [] := by
    rw [List.eq_nil_iff_forall_not_mem]
    intro j hj
    obtain ⟨h1, h2⟩ := List.mem_filter.1 hj
    have h1' : j < l.length := by simpa using h1
    have hb : j < listed.size := by omega
    have h3 : listed.getD j false = false := by
     have := (Bool.and_eq_true _ _ ▸ h2).1
     simpa [Array.getD, hb] using this
    have : 0 < (List.range l.length).countP (fun j => !listed.getD j false) := List.countP_pos_iff.2 ⟨j, List.mem_range.2 h1', by simp [h3]⟩
    omega
   exact ⟨hready, done listed σ a w hsz hready hr ht⟩
  | succ fuel ih =>
   intro listed σ a w hsz hdown hc hr ht
   refine ⟨fun hready => done listed σ a w hsz hready hr ht, fun i hi => ?_⟩
   obtain ⟨h1, h2⟩ := List.mem_filter.1 hi
   have hil : i < l.length := by simpa using h1
   have hb : i < listed.size := by omega
   have ho : l[i]? = some l[i] := List.getElem?_eq_getElem hil
   have h2' := Bool.and_eq_true _ _ ▸ h2
   have hif : listed.getD i false = false := by
    have := h2'.1
    simpa [Array.getD, hb] using this
   have hafter : ∀ e ∈ l[i].after.toList, Region.binds .any e = true -> listed.getD e.on false = true := by
    have h3 := h2'.2
    simp only [List.getElem?_toArray, ho, Option.map_some, Option.getD_some] at h3
    rw [<- Array.all_toList] at h3
    intro e he hbe
    have := List.all_eq_true.1 h3 e he
    simpa [hbe] using this
   have hopsA : ∀ j o, l.toArray[j]? = some o ↔ l[j]? = some o := fun j o => by rw [List.getElem?_toArray]
   obtain ⟨c0, c1, c2, c3, c4, c5⟩ := Qr hok ho
   -- ahead of this one
   have hL' : ∀ x, (listed.setIfInBounds i true).getD x false = (listed.getD x false || x == i) := fun x => by
    by_cases hx : x = i
    ·subst hx; simp [Array.getD, hb]
    ·have : ¬ i = x := fun e => hx e.symm
     simp [Array.getD_eq_getD_getElem?, Array.getElem?_setIfInBounds, this, hx]
   have hdown' : ∀ j o, l[j]? = some o -> (listed.setIfInBounds i true).getD j false = true -> ∀ e ∈ o.after.toList, Region.binds .any e = true -> (listed.setIfInBounds i true).getD e.on false = true := by
    intro j o hjo hj e he hbe
    rw [hL'] at hj ⊢
    rcases (Bool.or_eq_true _ _).mp hj with hj | hj
    ·rw [hdown j o hjo hj e he hbe]; rfl
    ·have : j = i := by simpa using hj
     subst this
     rw [ho] at hjo; cases hjo
     rw [hafter e he hbe]; rfl
   have hbef' := qG (ops := l.toArray) (L := fun j => (listed.setIfInBounds i true).getD j false) (fun j o hjo => hdown' j o ((hopsA j o).1 hjo))
   have hbef := qG (ops := l.toArray) (L := fun j => listed.getD j false) (fun j o hjo => hdown j o ((hopsA j o).1 hjo))
   have hlow : ∀ x, x ≠ i -> ((Region.before l.toArray).getD i 0).testBit x = true -> listed.getD x false = true := by
    intro x hx hbit
    have := hbef' i x (by simp [hL']) hbit
    simp only [hL'] at this
    rcases (Bool.or_eq_true _ _).mp this with h | h
    ·exact h
    ·exact absurd (by simpa using h) hx
   -- a slot that it names: those that write it ahead of it, in the text, have come up; the others have not
   have hside : ∀ t, (t ∈ qZ l.toArray l[i] ∨ l[i].dst = some t) -> ∀ j, j < l.length -> (l[j]?).bind (·.dst) = some t -> j ≠ i -> listed.getD j false = decide (j < i) := by
    intro t htm j hj hjd hne
    have hd : jz l.toArray j = some t := by simpa [jz] using hjd
    have hbit := c5 j t hj hne hd htm
    by_cases hlt : j < i
    ·rw [Nat.max_eq_right (by omega), Nat.min_eq_left (by omega)] at hbit
     rw [hlow j hne hbit]; simp [hlt]
    ·have hgt : i < j := by omega
     rw [Nat.max_eq_left (by omega), Nat.min_eq_right (by omega)] at hbit
     simp only [hlt, decide_false]
     cases hc : listed.getD j false with
     | false => rfl
     | true => have := hbef j i hc hbit; simp only [hif] at this; cases this
   have j9 : ∀ t, (t ∈ qZ l.toArray l[i] ∨ l[i].dst = some t) -> get (jG s l vs (fun j => listed.getD j false) l.length) t = get (jG s l vs (fun _ => true) i) t := by
    intro t htm
    rw [qJ (i := i) l.length (by omega) fun j h3 h4 hjd => ?_]
    ·exact qW i fun j h3 hjd => by rw [hside t htm j (by omega) hjd (by omega)]; simp [h3]
    ·by_cases hji : j = i
     ·subst hji; exact hif
     ·rw [hside t htm j h4 hjd hji]; simp; omega
   have hcount : (List.range l.length).countP (fun j => !(listed.setIfInBounds i true).getD j false) <= fuel := by
    have hlt : (List.range l.length).countP (fun j => !(listed.setIfInBounds i true).getD j false) < (List.range l.length).countP (fun j => !listed.getD j false) := by
     have hsplit : List.range l.length = List.range i ++ i :: (List.range' (i + 1) (l.length - (i + 1))) := by
      obtain ⟨m, hm⟩ : ∃ m, l.length = i + (m + 1) := ⟨l.length - (i + 1), by omega⟩
      rw [hm, show i + (m + 1) - (i + 1) = m by omega, List.range_eq_range', List.range_eq_range', <- List.range'_append_1, List.range'_succ]
      simp
     rw [hsplit, List.countP_append, List.countP_append, List.countP_cons, List.countP_cons]
     have e1 : (List.range i).countP (fun j => !(listed.setIfInBounds i true).getD j false) = (List.range i).countP (fun j => !listed.getD j false) := List.countP_congr fun x hx => by
      rw [hL']; have := List.mem_range.1 hx; simp [show x ≠ i by omega]
     have e2 : (List.range' (i + 1) (l.length - (i + 1))).countP (fun j => !(listed.setIfInBounds i true).getD j false) = (List.range' (i + 1) (l.length - (i + 1))).countP (fun j => !listed.getD j false) := List.countP_congr fun x hx => by
      rw [hL']; have := (List.mem_range'_1.1 hx).1; simp [show x ≠ i by omega]
     rw [e1, e2, hL']
     simp [hif]
    omega
   have hcL' : cL l (fun j => (listed.setIfInBounds i true).getD j false) = cL l (fun j => listed.getD j false) + (if vm l[i] then 1 else 0) := by
    have hsplit : List.range l.length = List.range i ++ i :: (List.range' (i + 1) (l.length - (i + 1))) := by
     obtain ⟨m, hm⟩ : ∃ m, l.length = i + (m + 1) := ⟨l.length - (i + 1), by omega⟩
     rw [hm, show i + (m + 1) - (i + 1) = m by omega, List.range_eq_range', List.range_eq_range', <- List.range'_append_1, List.range'_succ]
     simp
    unfold cL
    rw [hsplit, List.countP_append, List.countP_append, List.countP_cons, List.countP_cons]
    have e1 : (List.range i).countP (fun j => (listed.setIfInBounds i true).getD j false && ((l[j]?).map vm).getD false) = (List.range i).countP (fun j => listed.getD j false && ((l[j]?).map vm).getD false) := List.countP_congr fun x hx => by
     rw [hL']; have := List.mem_range.1 hx; simp [show x ≠ i by omega]
    have e2 : (List.range' (i + 1) (l.length - (i + 1))).countP (fun j => (listed.setIfInBounds i true).getD j false && ((l[j]?).map vm).getD false) = (List.range' (i + 1) (l.length - (i + 1))).countP (fun j => listed.getD j false && ((l[j]?).map vm).getD false) := List.countP_congr fun x hx => by
     rw [hL']; have := (List.mem_range'_1.1 hx).1; simp [show x ≠ i by omega]
    rw [e1, e2]
    simp only [hL', hif, ho]
    simp
    omega
   have fin : ∀ σ' w' u, Sig.le σ σ' -> Rel E σ' ι (H (ys (cL l (fun j => (listed.setIfInBounds i true).getD j false)))) w' -> (VR σ' ι (vs i) u ∨ l[i].dst = none) ->
     wpAnyIn (qd n.ro) 0 P .any l.toArray (fun e a' w' => ∃ s' h' σ' ι', Q e s' h' ∧ Rel E σ' ι' h' w' ∧ TR n σ' ι' s' a') fuel (listed.setIfInBounds i true) (a.put l[i].dst u) w' := by
    intro σ' w' u hle hr'' hv
    refine ih _ σ' _ w' (by simpa using hsz) hdown' hcount hr'' ?_
    have hp : TR n σ' ι (jX (jG s l vs (fun j => listed.getD j false) l.length) l[i].dst (vs i)) (a.put l[i].dst u) := by
     rcases hv with hv | hv
     ·exact (ht.mono hle).putS c2 hv
     ·rw [hv]; exact ht.mono hle
    refine ⟨hp.size, hp.defers, fun t => ?_⟩
    have h3 := hp.at_ t
    rw [jx] at h3
    by_cases hdt : l[i].dst = some t
    ·rw [if_pos hdt] at h3
     have : get (jG s l vs (fun j => (listed.setIfInBounds i true).getD j false) l.length) t = vs i := by
      rw [qJ (i := i + 1) l.length (by omega) fun j h4 h5 hjd => ?_]
      ·simp only [jG, hL', hif, BEq.rfl, Bool.or_true, if_true, jx, ho, Option.bind_some, if_pos hdt]
      ·rw [hL', hside t (.inr hdt) j h5 hjd (by omega)]; simp; omega
     rw [this]; exact h3
    ·rw [if_neg hdt] at h3
     have : get (jG s l vs (fun j => (listed.setIfInBounds i true).getD j false) l.length) t = get (jG s l vs (fun j => listed.getD j false) l.length) t :=
      qW _ fun j h4 hjd => by
       rw [hL']
       have : j ≠ i := fun e => by subst e; rw [ho] at hjd; exact hdt (by simpa using hjd)
       simp [this]
     rw [this]; exact h3
   unfold wpOpIn
   simp only [List.getElem?_toArray, ho]
   have hopnd : ∀ x ∈ l[i].op.operands.toList, VR σ ι (evA (jG s l vs (fun _ => true) i) x) (a.eval x) := by
    intro x hx
    refine jZ (List.all_eq_true.1 c1 x hx) fun t htx => ?_
    have htm : t ∈ qZ l.toArray l[i] := List.mem_append_left _ (List.mem_filterMap.2 ⟨x, hx, by rw [htx]⟩)
    have := ht.at_ t
    rwa [j9 t (.inl htm)] at this
   have hkn' := hkn i _ ho
   have hgn := (Xt hst ho).1
   rw [if_pos (by simp [Region.wanted, hgn])]
   refine Je c0 ?_
   -- an operation that touches memory: the stores in the text ahead of it have come up, the others have not
   have hstage : vm l[i] = true ∨ YA l[i] = true -> cL l (fun j => listed.getD j false) = cSt l i := fun hmem => by
    refine j3J (by omega) (fun j o hj hjo hs => ?_) fun j o hj hjo hs => ?_
    ·refine hlow j (by omega) (j3a hst hj hjo ho ?_)
     rcases hmem with hmem | hmem <;> simp [hs, hmem]
    ·by_cases hji : j = i
     ·subst hji; exact hif
     ·have hbit := j3a hst (show i < j by omega) ho hjo (by rcases hmem with hmem | hmem <;> simp [hs, hmem])
      cases hc : listed.getD j false with
      | false => rfl
      | true => have := hbef j i hc hbit; simp only [hif] at this; cases this
   unfold KnS at hkn'
   rcases hkn' with ⟨hs, hS⟩ | ⟨hs, hO⟩
   ·have hc := hstage (.inl hs)
    rw [hc] at hr
    obtain ⟨w', h3, h4⟩ := hS E σ ι a w hr hopnd
    unfold Oper.wp
    rw [h3, Oper.upon_skip]
    have h5 := fin σ w' undef (Sig.le.refl σ) (by rw [hcL', hs, if_pos rfl, hc]; exact h4) (.inr ((Xt hst ho).2 hs))
    rw [(Xt hst ho).2 hs] at h5 ⊢
    exact h5
   ·have hc2 : cL l (fun j => (listed.setIfInBounds i true).getD j false) = cL l (fun j => listed.getD j false) := by rw [hcL', hs]; simp
    rcases hO with ⟨hl, hO⟩ | hO
    ·rw [hstage (.inr hl)] at hr
     exact hO E σ ι a w hr hopnd _ _ fun σ' w' u h3 h4 h5 => fin σ' w' u h3 (by rw [hc2, hstage (.inr hl)]; exact h4) (.inl h5)
    ·have hcle : cL l (fun j => listed.getD j false) <= cSt l l.length := by
      have e : cSt l l.length = cL l (fun _ => true) := (j3J (Nat.le_refl _) (fun _ _ _ _ _ => rfl) (fun j o hj ho => by have := (List.getElem?_eq_some_iff.1 ho).1; omega)).symm
      rw [e]; exact List.countP_mono_left fun x _ hx => by simp only [Bool.and_eq_true] at hx ⊢; exact ⟨trivial, hx.2⟩
     exact hO _ (hoky _ hcle) E σ ι a w hr hopnd _ _ fun σ' w' u h3 h4 h5 => fin σ' w' u h3 (by rw [hc2]; exact h4) (.inl h5)
 have hrep : ∀ j, (Array.replicate l.toArray.size false).getD j false = false := fun j => by
  simp only [Array.getD_eq_getD_getElem?, Array.getElem?_replicate]; split <;> rfl
 have hc0 : cL l (fun j => (Array.replicate l.toArray.size false).getD j false) = 0 := by
  unfold cL; rw [List.countP_eq_zero]; intro j _; simp only [hrep]; simp
 refine key l.toArray.size _ σ0 a _ (by simp) ?_ ?_ (by rw [hc0]; exact hr') ?_
 ·intro j o hj hl
  rw [hrep] at hl; cases hl
 ·refine Nat.le_trans List.countP_le_length ?_
  simp
 ·refine ⟨ht.size, ht.defers, fun t => ?_⟩
  have := ht.at_ t
  rw [qJ (i := 0) l.length (Nat.zero_le _) fun j _ _ _ => hrep j]
  exact this
end
section
variable {P : Program} {n : Md} {Q : Exit -> j6 -> j8 -> Prop} {s : j6} {h h0 : j8} {ops : Array Oper} {rest : List Oper} {o : Oper} {K : j6 -> Prop}
theorem j6g {α : Type} [Inhabited α] {t e' : TypeId} {x y : Operand} {id sz i j : Nat} {l : List α} {f : α -> List AV} {v : AV} {x' : α} (ho : o.op = .store t x y) (hx : evA s x = .eptr id sz i j)
  (hv : evA s y = v) (hq : J2 v = true) (hp : wk (qk v) = true) (hz : q9 P t (qk v).length = true) (hl : j + (qk v).length <= sz) (hx' : f x' = spl (f (l.getD i default)) j (qk v))
  (hi : i < l.length) : StO P o s ((id, .row e' sz (l.map f)) :: h0) ((id, .row e' sz ((l.set i x').map f)) :: h0) := fun E σ ι a w hr hVR => by
 subst hv
 have hg : j9 ((id, .row e' sz (l.map f)) :: h0) id = some (.row e' sz (l.map f)) := by rw [j7, if_pos rfl]
 have hX : VR σ ι (evA s x) (a.eval x) := hVR x (by rw [ho]; simp [Op.operands])
 have hY : VR σ ι (evA s y) (a.eval y) := hVR y (by rw [ho]; simp [Op.operands])
 rw [hx] at hX
 obtain ⟨g, h1, h2⟩ := hX.eptr_inv
 obtain ⟨hsz0, hsz, vs, hown, hL2⟩ := hr.ch id _ hg
 rcases hown.2 with ⟨h3, _⟩ | ⟨g', cap, cur, h3, _, h4, h5, h6, h7, h8⟩
 ·rw [h3] at h1; cases h1
 rw [h3] at h1
 simp only [jC, Option.some.injEq] at h1
 subst h1
 obtain ⟨hL, hone⟩ := hY.cel hq
 have hlen : (a.eval y).cells.size = (qk (evA s y)).length := by rw [<- Array.length_toList]; exact hL.1.symm
 have hil : i < (l.map f).length := by simpa using hi
 have hbound : i * sz + j + (a.eval y).cells.size <= (l.map f).length * sz := by
  have : (i + 1) * sz <= (l.map f).length * sz := Nat.mul_le_mul_right _ hil
  rw [Nat.add_mul] at this; omega
 have hcap : (l.map f).length * sz <= cap * sz := Nat.mul_le_mul_right _ h5
 have hrun := xC (P := P) (t := t) (off := i * sz + j) (v := a.eval y) h4 (by rw [hlen]; exact hz) (by omega) hone
 obtain ⟨cur', hcur'⟩ : ∃ cur', cur' = (cur.toList.take (i * sz + j) ++ (a.eval y).cells.toList ++ cur.toList.drop (i * sz + j + (a.eval y).cells.size)).toArray := ⟨_, rfl⟩
 rw [<- hcur'] at hrun
 have hs' : cur'.size = cur.size := by
  rw [hcur']; simp only [List.size_toArray, List.length_append, List.length_take, List.length_drop, Array.length_toList]; omega
 have htk : cur'.toList.take ((l.map f).length * sz) = vs.take (i * sz + j) ++ (a.eval y).cells.toList ++ vs.drop (i * sz + j + (a.eval y).cells.toList.length) := by
  obtain ⟨N, hN⟩ : ∃ N, N = (l.map f).length * sz := ⟨_, rfl⟩
  obtain ⟨us, hus⟩ : ∃ us, us = (a.eval y).cells.toList := ⟨_, rfl⟩
  have hul : us.length = (a.eval y).cells.size := by rw [hus, Array.length_toList (xs := (a.eval y).cells)]
  rw [hcur', <- h8, <- hN, <- hus, <- hul]
  rw [<- hN] at hbound hcap
  rw [<- hul] at hbound
  have hcl : cur.toList.length = cur.size := Array.length_toList (xs := cur)
  generalize cur.toList = cl at *
  rw [List.toList_toArray, List.take_take, List.take_append, List.take_append, List.drop_take, show min (i * sz + j) N = i * sz + j by omega]
  have e2 : (List.take (i * sz + j) cl).length = i * sz + j := by rw [List.length_take]; omega
  rw [List.length_append, e2, List.take_of_length_le (l := us) (by omega), List.take_take, show min N (i * sz + j) = i * sz + j by omega]
 have hrun' : (execOp a.eval o).run P w = .ok .skip (w.setRow g' cur') := by
  simp only [execOp, ho, h2, Instr.storeAt, Instr.sureAddr, Sem.run_bind, Sem.run_pure, Result.andThen_ok, hrun]
 refine ⟨_, hrun', ?_⟩
 have hsame : upd ι id (ι id) = ι := by funext i; unfold upd; split <;> simp_all
 have hget' : l.getD i default = l[i] := by simp [hi]
 have hfi : (l.map f)[i]? = some (f (l.getD i default)) := by simp [hi]
 have hci : (f (l.getD i default)).length = sz := hsz _ (List.mem_of_getElem? hfi)
 have hxs : (l.set i x').map f = (l.map f).set i ((f (l.getD i default)).take j ++ qk (evA s y) ++ (f (l.getD i default)).drop (j + (qk (evA s y)).length)) := by
  rw [List.map_set, hx', Ji _ _ _ (by omega)]
 have hnew := hr.turn (id := id) (u := ι id) (h' := (id, .row e' sz ((l.set i x').map f)) :: h0) (c' := .row e' sz ((l.set i x').map f)) (w' := w.setRow g' cur')
  (fun i c hi hc => by rw [j7, if_neg (fun e => hi e.symm)] at hc; exact ⟨by rw [j7, if_neg (fun e => hi e.symm)]; exact hc, .inl rfl⟩) (by rw [j7, if_pos rfl])
  ⟨hsz0, fun c hc => by
   rw [hxs] at hc
   rcases List.mem_or_eq_of_mem_set hc with hc | rfl
   ·exact hsz c hc
   ·simp only [List.length_append, List.length_take, List.length_drop]; omega,
   cur'.toList.take ((l.map f).length * sz), by
    rw [hsame, show ((l.set i x').map f).length = (l.map f).length by simp]
    refine ⟨by rw [List.length_take, Array.length_toList (xs := cur')]; omega, .inr ⟨g', cap, cur', h3, Nat.zero_le _, setRow_heap w g' cur cur' e' (0, 0) h4, h5, h6, by omega, rfl⟩⟩, by
   rw [htk, hxs, z7 hsz hfi hl]
   rw [show (a.eval y).cells.toList.length = (qk (evA s y)).length by rw [Array.length_toList, hlen]]
   exact ((hL2.take _).append (QR hL hp)).append (hL2.drop _)⟩
  rfl rfl rfl (by simp) (fun k hk hne => setRow_other w g' k _ fun e => hne _ hg (by rw [e, h3]; rfl))
  (fun g2 hg2 => .inl ⟨_, hg, hg2⟩) (.inr rfl)
 rw [hsame] at hnew
 exact hnew
structure F {α : Type} (P : Program) (id : Nat) (e' : TypeId) (sz : Nat) (f : α -> List AV) (h0 : j8) (N : Nat) (K : j6 -> List α -> Prop) (rest : List Oper) (s : j6) (y : List α) : Prop where
 out : ADs P (fun y : List α => (id, Chunk.row e' sz (y.map f)) :: h0) (fun y => y.length = N) K rest s y
variable {α : Type} {id sz N : Nat} {e' : TypeId} {f : α -> List AV} {KF : j6 -> List α -> Prop} {y : List α}
theorem yj (hk : KF s y) : F P id e' sz f h0 N KF [] s y := ⟨s, fun _ => rfl, hk⟩
theorem f_k {v : AV} (h1 : vm o = false) (hv : ∀ y' : List α, y'.length = N -> Y P o s ((id, .row e' sz (y'.map f)) :: h0) v) (hk : F P id e' sz f h0 N KF rest (jX s o.dst v) y) : F P id e' sz f h0 N KF (o :: rest) s y :=
 ⟨.inr ⟨h1, v, .inr fun y' hy' => (hv y' hy').out, hk.out⟩⟩
theorem yn {v : AV} (h1 : vm o = false) (h2 : YA o = true) (hv : Y P o s ((id, .row e' sz (y.map f)) :: h0) v) (hk : F P id e' sz f h0 N KF rest (jX s o.dst v) y) : F P id e' sz f h0 N KF (o :: rest) s y :=
 ⟨.inr ⟨h1, v, .inl ⟨h2, hv.out⟩, hk.out⟩⟩
theorem wI [Inhabited α] {t : TypeId} {x z : Operand} {i j : Nat} {v : AV} {x' : α} (ho : o.op = .store t x z) (h1 : vm o = true) (hx : evA s x = .eptr id sz i j) (hv : evA s z = v) (hq : J2 v = true) (hp : wk (qk v) = true) (hz : q9 P t (qk v).length = true)
  (hl : Nat.ble (j + (qk v).length) sz = true) (hx' : f x' = spl (f (y.getD i default)) j (qk v)) (hi : i < y.length) (hN : y.length = N) (hk : F P id e' sz f h0 N KF rest s (y.set i x')) : F P id e' sz f h0 N KF (o :: rest) s y :=
 ⟨.inl ⟨h1, y.set i x', by simpa using hN, j6g ho hx hv hq hp hz (Nat.ble_eq ▸ hl) hx' hi, hk.out⟩⟩
def j6o (l : List Oper) : Bool := l.any vm
theorem ve {rid : Nat} {l : List Oper} {y0 : List α} (hs : j6o l = true) (hm : P.follows .mixedOrders = true) (hok : QU n l = true) (hst : stQ l = true)
  (hk : F P id e' sz f h0 y0.length (fun s' y => Q .normal s' ((id, .row e' sz (y.map f)) :: h0)) l s y0) : W P n (.region rid l.toArray true) Q s ((id, .row e' sz (y0.map f)) :: h0) :=
 ⟨j1K (H := fun y : List α => (id, Chunk.row e' sz (y.map f)) :: h0) (ok := fun y => y.length = y0.length) hm hok hst rfl hk.out⟩
theorem jP {t e : TypeId} {x y : Operand} {ik : IntKind} {z : Int} {l : List α} (i : Nat) (ho : o.op = .indexAddr t x y) (hx : evA s x = .own id) (hg : j9 h id = some (.row e' sz (l.map f))) (hy : evA s y = .int ik z) (ht : qD P t = some e) (hz : q9 P e sz = true) (hzi : z = (i : Int)) (hi : i < l.length) : Y P o s h (.eptr id sz i 0) := by
 subst hzi
 exact ⟨yO ho ht hz hx hg hy hi⟩
theorem j6u [Inhabited α] {i j : Nat} {l : List α} {t : TypeId} {x : Operand} {side : Prop} {v : AV} {z : α} (hzi : l.getD i default = z) (ho : o.op = .load t x) (hx : evA s x = .eptr id sz i j) (hg : j9 h id = some (.row e' sz (l.map f))) (hc : xX P t ((f z).drop j) = some (side, v)) (hi : i < l.length) (hside : side) : Y P o s h v := by
 subst hzi
 exact q_p ho hx hg hc hi hside
theorem jn [Inhabited α] {i j : Nat} {l : List α} {t : TypeId} {x : Operand} {side : Prop} {v : AV} {z : α} (hzi : l.getD i default = z) (ho : o.op = .load t x := by rfl) (hx : evA s x = .eptr id sz i j := by rfl) (hg : j9 h id = some (.row e' sz (l.map f)) := by rfl) (hc : xX P t ((f z).drop j) = some (side, v) := by rfl) (hi : i < l.length := by omega) (hside : side := by first | exact True.intro | (first | trivial | exact Nat.le_of_ble_eq_true rfl | (simp only [jS]; omega) | omega)) : Y P o s h v := j6u hzi ho hx hg hc hi hside
theorem vq {t yt : TypeId} {x y : Operand} {a : Int} (m : Nat) (ho : o.op = .binOp .shr t x y yt) (hx : evA s x = .int .u64 a) (hy : evA s y = .int .i64 1 ∨ evA s y = .int .u64 1) (hm : a = 2 * (m : Int) ∨ a = 2 * (m : Int) + 1) (hr : a <= 18446744073709551615) : Y P o s h (.int .u64 m) := by
 have e : a.fdiv (2 ^ min (1 : Int).toNat IntKind.u64.bits) = (m : Int) := by
  rw [show (2 : Int) ^ min (1 : Int).toNat IntKind.u64.bits = 2 from rfl, Int.fdiv_eq_ediv_of_nonneg _ (by omega)]
  omega
 have hb : Xh .shr (.int .u64 a) (evA s y) = some ((0 : Int) <= 1 ∧ jS .u64 (m : Int), .int .u64 m) := by
  rcases hy with hy | hy <;> rw [hy] <;> simp only [Xh] <;> rw [e]
 refine q_s (side := (0 : Int) <= 1 ∧ jS .u64 (m : Int)) ?_ ?_
 ·unfold Q0
  simp only [ho, hx, hb]
 ·refine ⟨by omega, ?_⟩
  simp only [jS]; omega
end
open Go.RowKit
end Go.Proofs.YtfjoaeghnfkdlaaGreatDoor
namespace Go.Proofs.YtfjoaeghnfkdlaaGreatDoor
open Go.RowKit Go.ChangeShapes Go.WideShapes

abbrev Cod (α : Type) := World -> List Value -> α -> Prop

def Ext (w w' : World) : Prop := ∀ a v, w.cell? a = some v -> w'.cell? a = some v
theorem Ext.refl (w : World) : Ext w w := fun _ _ h => h
theorem Ext.trans {a b c : World} (h : Ext a b) (k : Ext b c) : Ext a c := fun p v hp => k p v (h p v hp)
theorem Ext.below {w w' : World} (h : Below w.heap.size w w') : Ext w w' := fun a v hv => (h.cell (World.block_lt_of_cell? w a hv)).trans hv
def Row' {α : Type} (R : Cod α) (k : Nat) (w : World) (b off : Nat) (xs : List α) : Prop :=
 ∀ i x, xs[i]? = some x -> ∃ cs, R w cs x ∧ cs.length = k ∧ ∀ j v, cs[j]? = some v -> w.cell? ⟨b, off + i * k + j, none⟩ = some v
def Row {α : Type} (R : Cod α) (k : Nat) (w : World) (A : Option Addr) (xs : List α) : Prop :=
 0 < xs.length -> ∃ b off, A = some ⟨b, off, none⟩ ∧ Row' R k w b off xs
def V4 {α : Type} (R : Cod α) (k : Nat) : Cod (List α) := fun w cs xs => ∃ A c, cs = [.slice A xs.length c] ∧ xs.length <= c ∧ c <= maxLen ∧ Row R k w A xs
def ZN (k : IntKind) : Cod Int := fun _ cs x => cs = [.int k x] ∧ (Lit.int k x).wf = true
def j2B : Cod Bool := fun _ cs x => cs = [.bool x]

def Mono {α : Type} (R : Cod α) : Prop := ∀ w w' cs x, Ext w w' -> R w cs x -> R w' cs x
theorem Mono.int (k : IntKind) : Mono (ZN k) := fun _ _ _ _ _ h => h
theorem Mono.bool : Mono j2B := fun _ _ _ _ _ h => h
theorem Row'.ext {α : Type} {R : Cod α} {k b off : Nat} {w w' : World} {xs : List α} (hR : Mono R) (h : Row' R k w b off xs) (he : Ext w w') : Row' R k w' b off xs := by
 intro i x hx
 obtain ⟨cs, h1, h2, h3⟩ := h i x hx
 exact ⟨cs, hR _ _ _ _ he h1, h2, fun j v hv => he _ _ (h3 j v hv)⟩
theorem Row.ext {α : Type} {R : Cod α} {k : Nat} {w w' : World} {A : Option Addr} {xs : List α} (hR : Mono R) (h : Row R k w A xs) (he : Ext w w') : Row R k w' A xs := by
 intro hp
 obtain ⟨b, off, h1, h2⟩ := h hp
 exact ⟨b, off, h1, h2.ext hR he⟩
theorem Mono.slice {α : Type} {R : Cod α} (hR : Mono R) (k : Nat) : Mono (V4 R k) := fun _ _ _ _ he ⟨A, c, h1, h2, h3, h4⟩ => ⟨A, c, h1, h2, h3, h4.ext hR he⟩
theorem Row.nil {α : Type} (R : Cod α) (k : Nat) (w : World) (A : Option Addr) : Row R k w A [] := fun h => absurd h (by simp)
theorem Row'.take {α : Type} {R : Cod α} {k b off : Nat} {w : World} {xs : List α} (h : Row' R k w b off xs) (n : Nat) : Row' R k w b off (xs.take n) := by
 intro i x hx
 rw [List.getElem?_take] at hx
 split at hx
 ·exact h i x hx
 ·cases hx
theorem Row.take {α : Type} {R : Cod α} {k : Nat} {w : World} {A : Option Addr} {xs : List α} (h : Row R k w A xs) (n : Nat) : Row R k w A (xs.take n) := by
 intro hp
 obtain ⟨b, off, h1, h2⟩ := h (by rw [List.length_take] at hp; omega)
 exact ⟨b, off, h1, h2.take n⟩
theorem Row'.drop {α : Type} {R : Cod α} {k b off : Nat} {w : World} {xs : List α} (h : Row' R k w b off xs) (n : Nat) : Row' R k w b (off + n * k) (xs.drop n) := by
 intro i x hx
 rw [List.getElem?_drop] at hx
 obtain ⟨cs, h1, h2, h3⟩ := h _ x hx
 refine ⟨cs, h1, h2, fun j v hv => ?_⟩
 have := h3 j v hv
 rwa [show off + (n + i) * k + j = off + n * k + i * k + j by rw [Nat.add_mul]; omega] at this

theorem Row'.int {ik : IntKind} {w : World} {b off : Nat} {xs : List Int} (h : Row' (ZN ik) 1 w b off xs) (i : Nat) (hi : i < xs.length) :
  w.cell? ⟨b, off + i, none⟩ = some (.int ik xs[i]) ∧ (Lit.int ik xs[i]).wf = true := by
 obtain ⟨cs, ⟨rfl, hw⟩, _, h3⟩ := h i xs[i] (List.getElem?_eq_getElem hi)
 have := h3 0 _ rfl
 simp only [Nat.mul_one, Nat.add_zero] at this
 exact ⟨this, hw⟩
theorem Row'.bool {w : World} {b off : Nat} {xs : List Bool} (h : Row' j2B 1 w b off xs) (i : Nat) (hi : i < xs.length) :
  w.cell? ⟨b, off + i, none⟩ = some (.bool xs[i]) := by
 obtain ⟨cs, rfl, _, h3⟩ := h i xs[i] (List.getElem?_eq_getElem hi)
 have := h3 0 _ rfl
 simp only [Nat.mul_one, Nat.add_zero] at this
 exact this

/-! ## From the row's readings to these words -/
def Opens {α : Type} (P : Program) (e : TypeId) (R : Cod α) : Prop :=
 ∀ (H : Type) (enc : TypeId × Value -> H) (w : World) (base : Nat) (spare : Nat -> Bool) (held : Bool) (fuel : Nat) (cs : List Value) (x : DataW H × List MemPlace), DataW.trod enc P w base spare held fuel e cs = some x -> ∃ y : α, R w cs y
theorem Opens.int {P : Program} {e : TypeId} {k : IntKind} (hu : P.underlying e = some (.int k)) : Opens P e (ZN k) := by
 intro H enc w base spare held fuel cs x h
 obtain ⟨n, h1, _, h3⟩ := DataW.trod_int hu h
 exact ⟨n, h1, h3⟩
theorem Opens.bool {P : Program} {e : TypeId} (hu : P.underlying e = some .bool) : Opens P e j2B := by
 intro H enc w base spare held fuel cs x h
 obtain ⟨n, h1, _⟩ := DataW.trod_bool hu h
 exact ⟨n, h1⟩
theorem Opens.slice {α : Type} [Inhabited α] {P : Program} {t e : TypeId} {R : Cod α} {k : Nat} (ht : P.underlying t = some (.slice e)) (hC : P.cellsOf e = k) (hk : 0 < k) (hR : Opens P e R) : Opens P t (V4 R k) := by
 intro H enc w base spare held fuel cs x h
 rcases Go.Deep.open_slice ht h with ⟨rfl, _⟩ | ⟨a, len, cap, m, n, D, Pl, rfl, _, hl, hm, hmm, _, hel⟩
 ·exact ⟨[], none, 0, rfl, by simp, by simp, Row.nil _ _ _ _⟩
 ·have hle : len <= m := by rw [hmm]; split <;> omega
  have hex : ∀ i, i < len -> ∃ y : α, ∃ cs', R w cs' y ∧ cs'.length = k ∧ ∀ j v, cs'[j]? = some v -> w.cell? ((a.add (i * k)).add j) = some v := by
   intro i hi
   obtain ⟨cs', h1, h2⟩ := hel i (by omega)
   obtain ⟨y, hy⟩ := hR _ _ _ _ _ _ _ _ _ h2
   rw [hC] at h1
   obtain ⟨_, hcl, hat⟩ := World.cells?_some h1
   refine ⟨y, cs', hy, hcl, fun j v hv => ?_⟩
   have hj : j < k := by
    have := (List.getElem?_eq_some_iff.1 hv).1
    omega
   rw [hat j hj, hv]
  obtain ⟨f, hf⟩ := Go.Deep.choose_lt hex
  refine ⟨(List.range len).map f, some a, cap, by simp, by simpa using hl, hm, fun hp => ?_⟩
  obtain ⟨b, off, spot⟩ := a
  have h0 : 0 < len := by simpa using hp
  obtain ⟨cs0, _, hl0, hc0⟩ := hf 0 h0
  have hs : spot = none := by
   have h1 : cs0[0]? = some (cs0[0]'(by omega)) := List.getElem?_eq_getElem (by omega)
   have := hc0 0 _ h1
   simpa [Addr.add] using World.cell?_spot this
  subst hs
  refine ⟨b, off, rfl, fun i y hy => ?_⟩
  have hi : i < len := by
   have := (List.getElem?_eq_some_iff.1 hy).1
   simpa using this
  obtain ⟨cs', h1, h2, h3⟩ := hf i hi
  have hy' : f i = y := by simpa [hi] using hy
  subst hy'
  refine ⟨cs', h1, h2, fun j v hv => ?_⟩
  have := h3 j v hv
  rwa [Go.Deep.add_add, Go.WideShapes.add_plain, <- Nat.add_assoc] at this
end Go.Proofs.YtfjoaeghnfkdlaaGreatDoor
namespace Go.Proofs.YtfjoaeghnfkdlaaGreatDoor
open Go.RowKit
def eI (x : Int) : List AV := [.int .i64 x]
def eB (x : Bool) : List AV := [.bool x]
def sg (w : World) : Sig := fun a => w.cell? a
def Br {α : Type} (R : Cod α) (f : α -> List AV) : Prop := ∀ w cs x, R w cs x -> L2 (VR0 (sg w)) (f x) cs
theorem j6G : Br (ZN .i64) eI := fun w cs x ⟨h1, h2⟩ => by subst h1; exact (L2.nil _).cons (.int _ _ (qc.2 h2))
theorem Qd {α : Type} {R : Cod α} {f : α -> List AV} {k : Nat} (hR : Br R f) (hk : ∀ x, (f x).length = k) {w : World} {A : Option Addr} {xs : List α} {c : Nat} (h : Row R k w A xs) (hl : xs.length <= c) (hm : c <= maxLen) :
  VR0 (sg w) (.lst k (xs.map f)) (.slice A xs.length c) := by
 cases xs with
 | nil => exact .empty _ _ _ hm
 | cons x0 xr =>
  obtain ⟨b, off, rfl, hrow⟩ := h (by simp)
  generalize hxs : x0 :: xr = xs at *
  have hex : ∀ i, i < xs.length -> ∃ cs : List Value, L2 (VR0 (sg w)) (f (xs.getD i x0)) cs ∧ cs.length = k ∧ ∀ j v, cs[j]? = some v -> w.cell? ⟨b, off + i * k + j, none⟩ = some v := fun i hi => by
   obtain ⟨cs, h1, h2, h3⟩ := hrow i xs[i] (List.getElem?_eq_getElem hi)
   exact ⟨cs, by simpa [hi] using hR w cs _ h1, h2, h3⟩
  obtain ⟨g, hg⟩ := Go.Deep.choose_lt hex
  have hs : ∀ c ∈ xs.map f, c.length = k := fun c hc => by obtain ⟨x, _, rfl⟩ := List.mem_map.1 hc; exact hk x
  have hfl : (xs.map f).flatten.length = xs.length * k := by rw [qM hs, List.length_map]
  have hat : ∀ (j : Nat) (a : AV), (xs.map f).flatten[j]? = some a -> ∃ v, w.cell? ⟨b, off + j, none⟩ = some v ∧ VR0 (sg w) a v := fun j a hj => by
   have hjl : j < xs.length * k := by rw [<- hfl]; exact (List.getElem?_eq_some_iff.1 hj).1
   have hk0 : 0 < k := Nat.pos_of_ne_zero fun e => by subst e; simp at hjl
   have hi : j / k < xs.length := Nat.div_lt_of_lt_mul (by rw [Nat.mul_comm]; exact hjl)
   have hm : j % k < k := Nat.mod_lt _ hk0
   obtain ⟨h1, h2, h3⟩ := hg (j / k) hi
   have hc : (xs.map f)[j / k]? = some (f (xs.getD (j / k) x0)) := by simp [hi]
   have hlen : j % k < (f (xs.getD (j / k) x0)).length := by rw [hk]; exact hm
   have h4 := wA hs hc (List.getElem?_eq_getElem hlen)
   rw [Nat.mul_comm, Nat.div_add_mod] at h4
   rw [h4] at hj; cases hj
   obtain ⟨v, hv, hv2⟩ := h1.get (List.getElem?_eq_getElem hlen)
   refine ⟨v, ?_, hv2⟩
   have := h3 _ v hv
   rwa [Nat.add_assoc, Nat.mul_comm, Nat.div_add_mod] at this
  have : (.slice (some ⟨b, off, none⟩) xs.length c : Value) = .slice (some ⟨b, off, none⟩) (xs.map f).length c := by simp
  rw [this]
  refine .lst _ _ _ _ _ (fun j => (w.cell? ⟨b, off + j, none⟩).getD undef) (by simpa using hl) hm hs (fun j a hj => ?_) fun j a hj => ?_
  ·obtain ⟨v, h1, _⟩ := hat j a hj
   simp [sg, h1]
  ·obtain ⟨v, h1, h2⟩ := hat j a hj
   rw [h1]; exact h2
theorem j63 {P : Program} {s : j6} {h : j8} {o : Oper} {α : Type} [DecidableEq α] (cells : α -> List Value) (e : α -> List AV) {t yt : TypeId} {X Y : Operand} {op : BinOp} {x y : α} (hop : op = .eql ∨ op = .neq)
  (hex : ∀ σ ι x vs, L2 (VR σ ι) (e x) vs -> vs = cells x) (hrun : ∀ w, (Op.equalIn 10000 t (.agg (cells x).toArray) (.agg (cells y).toArray)).run P w = .ok (decide (x = y)) w)
  (hgd : ∀ (xs ys : Array Value) w, (eqGuard op t X Y (.agg xs) (.agg ys)).run P w = .ok () w)
  (ho : o.op = .binOp op t X Y yt) (hx : evA s X = .agg (e x)) (hy : evA s Y = .agg (e y)) : OkO P o s h (.bool (if op = .eql then decide (x = y) else !decide (x = y))) := by
 refine ja fun E σ ι a w hr hv => ?_
 have hX := hv X (by rw [ho]; simp [Op.operands])
 have hY := hv Y (by rw [ho]; simp [Op.operands])
 rw [hx] at hX
 rw [hy] at hY
 obtain ⟨us, h1, h2⟩ := hX.agg_inv
 obtain ⟨vs, h3, h4⟩ := hY.agg_inv
 rw [hex _ _ _ _ h2] at h1
 rw [hex _ _ _ _ h4] at h3
 refine ⟨_, ?_, .base _ _ (.bool _)⟩
 have h5 : (Op.equal t (.agg (cells x).toArray) (.agg (cells y).toArray)).run P w = .ok (decide (x = y)) w := hrun w
 unfold execOp
 simp only [ho, h1, h3, Sem.run_bind, hgd, Result.andThen_ok]
 rcases hop with rfl | rfl
 ·simp only [binOp, Sem.run_bind, h5, Result.andThen_ok, Sem.run_pure, if_true]
 ·simp only [binOp, Sem.run_bind, h5, Result.andThen_ok, Sem.run_pure, reduceCtorEq, if_false]
end Go.Proofs.YtfjoaeghnfkdlaaGreatDoor
