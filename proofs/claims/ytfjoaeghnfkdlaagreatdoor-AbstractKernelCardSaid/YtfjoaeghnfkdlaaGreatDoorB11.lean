/- Regions in whatever order in which operations turn blocks: each in its turn; what reads what they turn stands in its turn, too. No condition. -/
import Derived.Test.YtfjoaeghnfkdlaaGreatDoorB8
import Derived.Test.YtfjoaeghnfkdlaaGreatDoorB9
import Derived.Test.YtfjoaeghnfkdlaaGreatDoorB10
import Derived.Lib.SliceRun
set_option linter.unusedSimpArgs false
set_option linter.unusedVariables false
set_option maxHeartbeats 1000000
set_option maxRecDepth 100000
namespace Go.Proofs.YtfjoaeghnfkdlaaGreatDoor
open Go.RowKit
section
variable {P : Program} {n : Md} {Q : Exit -> j6 -> j8 -> Prop} {s : j6} {h : j8} {ops : Array Oper} {rest : List Oper} {o : Oper}
def TuO (P : Program) (o : Oper) (s : j6) (h h' : j8) (v : AV) : Prop :=
 ∀ (E : Env) (σ : Sig) (ι : Nat -> Value) (a : Act) (w : World), Rel E σ ι h w -> (∀ y ∈ o.op.operands.toList, VR σ ι (evA s y) (a.eval y)) ->
  ∀ (K : Act -> World -> Prop) (Q : Exit -> Act -> World -> Prop), (∀ σ' ι' w' u, Sig.le σ σ' -> (∀ (n : Md) (s : j6) (a : Act), TR n σ ι s a -> TR n σ' ι' s a) -> Rel E σ' ι' h' w' -> VR σ' ι' v u -> K (a.put o.dst u) w') -> o.wp P a w K Q
theorem TuO.congr {s s' : j6} {h h' : j8} {v : AV} (e : ∀ t, get s t = get s' t) (hk : TuO P o s h h' v) : TuO P o s' h h' v := fun E σ ι a w hr hx =>
 hk E σ ι a w hr fun x hm => by rw [y7 e]; exact hx x hm
def GoG (ops : Array Oper) (s : j6) (o : Oper) : Prop := o.guard = none ∨ ∃ j want d, o.guard = some (j, want) ∧ jz ops j = some d ∧ get s d = .bool want
def SkG (ops : Array Oper) (s : j6) (o : Oper) : Prop := ∃ j want d, o.guard = some (j, want) ∧ jz ops j = some d ∧ (get s d = .bool (!want) ∨ get s d = .tup [])
theorem GoG.congr {s s' : j6} (e : ∀ t, get s t = get s' t) (hg : GoG ops s o) : GoG ops s' o := by
 rcases hg with hg | ⟨j, want, d, h1, h2, h3⟩
 ·exact .inl hg
 ·exact .inr ⟨j, want, d, h1, h2, by rw [<- e]; exact h3⟩
theorem SkG.congr {s s' : j6} (e : ∀ t, get s t = get s' t) (hg : SkG ops s o) : SkG ops s' o := by
 obtain ⟨j, want, d, h1, h2, h3⟩ := hg
 exact ⟨j, want, d, h1, h2, by rw [<- e]; exact h3⟩
variable {β : Type} {H : β -> j8} {ok : β -> Prop} {K : j6 -> β -> Prop} {tn ln : List Nat}
def ADc (P : Program) (ops : Array Oper) (H : β -> j8) (ok : β -> Prop) (tn ln : List Nat) (K : j6 -> β -> Prop) : Nat -> List Oper -> j6 -> β -> Prop
 | _, [], s, x => ∃ s', (∀ t, get s t = get s' t) ∧ K s' x
 | m, o :: rest, s, x => (GoG ops s o ∧ tn.contains m = true ∧ ∃ x' v, ok x' ∧ TuO P o s (H x) (H x') v ∧ ADc P ops H ok tn ln K (m + 1) rest (jX s o.dst v) x') ∨
   (GoG ops s o ∧ tn.contains m = false ∧ ∃ v, ((ln.contains m = true ∧ OkO P o s (H x) v) ∨ ∀ y, ok y -> OkO P o s (H y) v) ∧ ADc P ops H ok tn ln K (m + 1) rest (jX s o.dst v) x) ∨
   (SkG ops s o ∧ ADc P ops H ok tn ln K (m + 1) rest (jX s o.dst (.tup [])) x)
theorem xL : ∀ (rest : List Oper) (m : Nat) {s s' : j6} {x : β}, (∀ t, get s t = get s' t) -> ADc P ops H ok tn ln K m rest s x -> ADc P ops H ok tn ln K m rest s' x
 | [], _, s, s', x, e, ⟨s2, e2, hk⟩ => ⟨s2, fun t => (e t).symm.trans (e2 t), hk⟩
 | o :: rest, m, s, s', x, e, hk => by
  unfold ADc at hk ⊢
  rcases hk with ⟨hg, ht, x', v, h1, h2, h3⟩ | ⟨hg, ht, v, h2, h3⟩ | ⟨hg, h3⟩
  ·exact .inl ⟨hg.congr e, ht, x', v, h1, h2.congr e, xL rest _ (qb e _ _) h3⟩
  ·refine .inr (.inl ⟨hg.congr e, ht, v, ?_, xL rest _ (qb e _ _) h3⟩)
   rcases h2 with ⟨h4, h5⟩ | h5
   ·exact .inl ⟨h4, h5.congr e⟩
   ·exact .inr fun y hy => (h5 y hy).congr e
  ·exact .inr (.inr ⟨hg.congr e, xL rest _ (qb e _ _) h3⟩)
def cTn (tn : List Nat) (i : Nat) : Nat := (List.range i).countP tn.contains
theorem wr (tn : List Nat) {i j : Nat} (h : i <= j) : cTn tn i <= cTn tn j := by
 obtain ⟨d, rfl⟩ := Nat.exists_eq_add_of_le h
 rw [cTn, cTn, List.range_add, List.countP_append]; omega
theorem vH (tn : List Nat) (i : Nat) : cTn tn (i + 1) = cTn tn i + (if tn.contains i then 1 else 0) := by
 rw [cTn, List.range_succ, List.countP_append, List.countP_singleton]; rfl
def KnC (P : Program) (H : β -> j8) (ok : β -> Prop) (tn ln : List Nat) (l : List Oper) (s : j6) (vs : Nat -> AV) (ys : Nat -> β) (i : Nat) (o : Oper) : Prop :=
 (GoG l.toArray (jG s l vs (fun _ => true) i) o ∧ tn.contains i = true ∧ TuO P o (jG s l vs (fun _ => true) i) (H (ys (cTn tn i))) (H (ys (cTn tn i + 1))) (vs i)) ∨
 (GoG l.toArray (jG s l vs (fun _ => true) i) o ∧ tn.contains i = false ∧ ((ln.contains i = true ∧ OkO P o (jG s l vs (fun _ => true) i) (H (ys (cTn tn i))) (vs i)) ∨ ∀ y, ok y -> OkO P o (jG s l vs (fun _ => true) i) (H y) (vs i))) ∨
 (SkG l.toArray (jG s l vs (fun _ => true) i) o ∧ vs i = .tup [] ∧ (tn.contains i = true -> ys (cTn tn i + 1) = ys (cTn tn i)))
theorem Zf (l : List Oper) : ∀ (rest : List Oper) (m : Nat) (vs : Nat -> AV) (ys : Nat -> β), l.drop m = rest -> m <= l.length -> ADc P l.toArray H ok tn ln K m rest (jG s l vs (fun _ => true) m) (ys (cTn tn m)) ->
  (∀ k, k <= cTn tn m -> ok (ys k)) -> (∀ (i : Nat) (o : Oper), i < m -> l[i]? = some o -> KnC P H ok tn ln l s vs ys i o) ->
  ∃ (vs' : Nat -> AV) (ys' : Nat -> β), (∀ k, k = 0 -> ys' k = ys k) ∧ (∃ s', (∀ t, get (jG s l vs' (fun _ => true) l.length) t = get s' t) ∧ K s' (ys' (cTn tn l.length))) ∧ (∀ k, k <= cTn tn l.length -> ok (ys' k)) ∧ ∀ (i : Nat) (o : Oper), l[i]? = some o -> KnC P H ok tn ln l s vs' ys' i o
 | [], m, vs, ys, hr, hm, hd, hok, hk => by
  have hm' : m = l.length := by
   have := List.drop_eq_nil_iff.1 hr; omega
  subst hm'
  exact ⟨vs, ys, fun _ _ => rfl, hd, hok, fun i o ho => hk i o (List.getElem?_eq_some_iff.1 ho).1 ho⟩
 | o :: rest, m, vs, ys, hr, hm, hd, hok, hk => by
  have hlt : m < l.length := by
   have : (l.drop m).length = (o :: rest).length := by rw [hr]
   simp at this; omega
  have ho : l[m]? = some o := by
   have : (l.drop m)[0]? = some o := by rw [hr]; rfl
   simpa using this
  have hr' : l.drop (m + 1) = rest := by rw [<- List.drop_drop, hr]; rfl
  have hcm : ∀ i, i < m -> tn.contains i = true -> cTn tn i + 1 <= cTn tn m := fun i hi hs => by
   have h1 := vH tn i
   rw [hs, if_pos rfl] at h1
   have h2 : cTn tn (i + 1) <= cTn tn m := wr tn hi
   omega
  have hcle : ∀ i, i <= m -> cTn tn i <= cTn tn m := fun i hi => wr tn hi
  have e : ∀ v k, k <= m -> jG s l (fun i => if i = m then v else vs i) (fun _ => true) k = jG s l vs (fun _ => true) k := fun v k hk => vf k fun j hj => by
   show (if j = m then v else vs j) = vs j; rw [if_neg (by omega)]
  have go1 : ∀ v x', tn.contains m = true -> ok x' -> ADc P l.toArray H ok tn ln K (m + 1) rest (jX (jG s l vs (fun _ => true) m) o.dst v) x' ->
    (∀ (vs2 : Nat -> AV) (ys2 : Nat -> β), vs2 m = v -> jG s l vs2 (fun _ => true) m = jG s l vs (fun _ => true) m -> ys2 (cTn tn m) = ys (cTn tn m) -> ys2 (cTn tn m + 1) = x' -> KnC P H ok tn ln l s vs2 ys2 m o) ->
    ∃ (vs' : Nat -> AV) (ys' : Nat -> β), (∀ k, k = 0 -> ys' k = ys k) ∧ (∃ s', (∀ t, get (jG s l vs' (fun _ => true) l.length) t = get s' t) ∧ K s' (ys' (cTn tn l.length))) ∧ (∀ k, k <= cTn tn l.length -> ok (ys' k)) ∧ ∀ (i : Nat) (o : Oper), l[i]? = some o -> KnC P H ok tn ln l s vs' ys' i o := by
   intro v x' hs hx' hd hkn
   have hc := vH tn m
   rw [hs, if_pos rfl] at hc
   obtain ⟨ys2, hys2⟩ : ∃ ys2 : Nat -> β, ys2 = fun k => if k = cTn tn m + 1 then x' else ys k := ⟨_, rfl⟩
   have e1 : ∀ k, k <= cTn tn m -> ys2 k = ys k := fun k hk => by rw [hys2]; show (if _ then _ else _) = _; rw [if_neg (by omega)]
   have e2 : ys2 (cTn tn m + 1) = x' := by rw [hys2]; show (if _ then _ else _) = _; rw [if_pos rfl]
   obtain ⟨vs', ys', q1, q2, q3, q4⟩ := Zf l rest (m + 1) (fun i => if i = m then v else vs i) ys2 hr' hlt (by
     simp only [jG, if_true, ho, Option.bind_some]
     rw [e v m (Nat.le_refl _), hc, e2]; exact hd)
    (fun k hk => by
      rw [hc] at hk
      by_cases hke : k = cTn tn m + 1
      ·rw [hke, e2]; exact hx'
      ·rw [e1 k (by omega)]; exact hok k (by omega))
    (fun i o' hi ho' => by
      by_cases him : i = m
      ·subst him
       rw [ho] at ho'; cases ho'
       exact hkn _ _ (by simp) (e v i (Nat.le_refl _)) (e1 _ (Nat.le_refl _)) e2
      ·have := hk i o' (by omega) ho'
       unfold KnC at this ⊢
       simp only [e v i (by omega), if_neg him]
       rcases this with ⟨h0, h1, h2⟩ | ⟨h0, h1, h2⟩ | ⟨h0, h1, h2⟩
       ·exact .inl ⟨h0, h1, by rw [e1 _ (hcle i (by omega)), e1 _ (hcm i (by omega) h1)]; exact h2⟩
       ·exact .inr (.inl ⟨h0, h1, by rw [e1 _ (hcle i (by omega))]; exact h2⟩)
       ·exact .inr (.inr ⟨h0, h1, fun h3 => by rw [e1 _ (hcle i (by omega)), e1 _ (hcm i (by omega) h3)]; exact h2 h3⟩))
   exact ⟨vs', ys', fun k hk => (q1 k hk).trans (e1 k (by omega)), q2, q3, q4⟩
  have go2 : ∀ v, tn.contains m = false -> ADc P l.toArray H ok tn ln K (m + 1) rest (jX (jG s l vs (fun _ => true) m) o.dst v) (ys (cTn tn m)) ->
    (∀ (vs2 : Nat -> AV), vs2 m = v -> jG s l vs2 (fun _ => true) m = jG s l vs (fun _ => true) m -> KnC P H ok tn ln l s vs2 ys m o) ->
    ∃ (vs' : Nat -> AV) (ys' : Nat -> β), (∀ k, k = 0 -> ys' k = ys k) ∧ (∃ s', (∀ t, get (jG s l vs' (fun _ => true) l.length) t = get s' t) ∧ K s' (ys' (cTn tn l.length))) ∧ (∀ k, k <= cTn tn l.length -> ok (ys' k)) ∧ ∀ (i : Nat) (o : Oper), l[i]? = some o -> KnC P H ok tn ln l s vs' ys' i o := by
   intro v hs hd hkn
   have hc := vH tn m
   rw [hs, if_neg (by simp), Nat.add_zero] at hc
   refine Zf l rest (m + 1) (fun i => if i = m then v else vs i) ys hr' hlt ?_ (by rw [hc]; exact hok) ?_
   ·simp only [jG, if_true, ho, Option.bind_some]
    rw [e v m (Nat.le_refl _), hc]; exact hd
   ·intro i o' hi ho'
    by_cases him : i = m
    ·subst him
     rw [ho] at ho'; cases ho'
     exact hkn _ (by simp) (e v i (Nat.le_refl _))
    ·have := hk i o' (by omega) ho'
     unfold KnC at this ⊢
     simp only [e v i (by omega), if_neg him]
     exact this
  rcases hd with ⟨hg, hs, x', v, hx', htu, hd⟩ | ⟨hg, hs, v, hv, hd⟩ | ⟨hg, hd⟩
  ·exact go1 v x' hs hx' hd fun vs2 ys2 e1 e2 e3 e4 => .inl ⟨by rw [e2]; exact hg, hs, by rw [e1, e2, e3, e4]; exact htu⟩
  ·exact go2 v hs hd fun vs2 e1 e2 => .inr (.inl ⟨by rw [e2]; exact hg, hs, by rw [e1, e2]; exact hv⟩)
  ·cases hs : tn.contains m with
   | true => exact go1 (.tup []) _ hs (hok _ (Nat.le_refl _)) hd fun vs2 ys2 e1 e2 e3 e4 => .inr (.inr ⟨by rw [e2]; exact hg, e1, fun _ => by rw [e4, e3]⟩)
   | false => exact go2 (.tup []) hs hd fun vs2 e1 e2 => .inr (.inr ⟨by rw [e2]; exact hg, e1, fun h => by rw [hs] at h; cases h⟩)
def tuQ (tn ln : List Nat) (l : List Oper) : Bool :=
 (List.range l.length).all fun j => (List.range j).all fun i => !((tn.contains i && (tn.contains j || ln.contains j)) || (tn.contains j && ln.contains i)) || ((Region.before l.toArray).getD j 0).testBit i
theorem xy {l : List Oper} (hq : tuQ tn ln l = true) {i j : Nat} (hij : i < j) (hj : j < l.length) (hm : (tn.contains i && (tn.contains j || ln.contains j)) || (tn.contains j && ln.contains i)) : ((Region.before l.toArray).getD j 0).testBit i = true := by
 unfold tuQ at hq
 have h1 := List.all_eq_true.1 (List.all_eq_true.1 hq j (List.mem_range.2 hj)) i (List.mem_range.2 hij)
 rw [hm, Bool.not_true, Bool.false_or] at h1
 exact h1
def cLn (tn : List Nat) (N : Nat) (L : Nat -> Bool) : Nat := (List.range N).countP fun j => L j && tn.contains j
theorem wt {N : Nat} {L : Nat -> Bool} {i : Nat} (hi : i <= N) (h1 : ∀ j, j < i -> tn.contains j = true -> L j = true) (h2 : ∀ j, i <= j -> j < N -> tn.contains j = true -> L j = false) : cLn tn N L = cTn tn i := by
 have hsplit : List.range N = List.range i ++ (List.range' i (N - i)) := by
  rw [List.range_eq_range', List.range_eq_range']
  conv => lhs; rw [show N = i + (N - i) by omega]
  rw [<- List.range'_append_1, Nat.zero_add]
 rw [cLn, hsplit, List.countP_append]
 have e2 : (List.range' i (N - i)).countP (fun j => L j && tn.contains j) = 0 := by
  rw [List.countP_eq_zero]
  intro j hj
  obtain ⟨h3, h4⟩ := List.mem_range'_1.1 hj
  cases hs : tn.contains j with
  | true => rw [h2 j h3 (by omega) hs]; simp
  | false => simp
 rw [e2, Nat.add_zero, cTn]
 refine List.countP_congr fun j hj => ?_
 have hj := List.mem_range.1 hj
 cases hs : tn.contains j with
 | true => rw [h1 j hj hs]; simp
 | false => simp
theorem j0t {id : Nat} {l : List Oper} {x0 : β} (hm : P.follows .mixedOrders = true) (hok : wy n l = true) (hst : tuQ tn ln l = true) (hx0 : ok x0) (hk : ADc P l.toArray H ok tn ln (fun s' x => Q .normal s' (H x)) 0 l s x0) : AWp P n (.region id l.toArray true) Q s (H x0) := by
 intro E σ0 ι0 a w hr ht
 obtain ⟨vs, ys, hy0, ⟨sF, hF, hQ⟩, hoky, hkn⟩ := Zf (s := s) l l 0 (fun _ => .undef) (fun _ => x0) rfl (Nat.zero_le _) hk (fun _ _ => hx0) (fun i o hi => absurd hi (by omega))
 have hy0 := hy0 0 rfl
 refine wpIn_region_any hm ?_
 have hr' : Rel E σ0 ι0 (H (ys 0)) { w with drawn := w.drawn + 1 } := by rw [hy0]; exact ⟨hr.os, hr.tape, hr.output, hr.size, hr.old, hr.sigOld, hr.sub, hr.ch, hr.foot, hr.dj, hr.pin, hr.low, hr.xo⟩
 have key : ∀ (fuel : Nat) (listed : Array Bool) (σ : Sig) (ι : Nat -> Value) (a : Act) (w : World), listed.size = l.length ->
   (∀ j o, l[j]? = some o -> listed.getD j false = true -> ∀ e ∈ o.after.toList, Region.binds .any e = true -> listed.getD e.on false = true) ->
   (List.range l.length).countP (fun j => !listed.getD j false) <= fuel ->
   Rel E σ ι (H (ys (cLn tn l.length (fun j => listed.getD j false)))) w -> TR n σ ι (jG s l vs (fun j => listed.getD j false) l.length) a ->
   wpAnyIn (qd n.ro) 0 P .any l.toArray (fun e a' w' => ∃ s' h' σ' ι', Q e s' h' ∧ Rel E σ' ι' h' w' ∧ TR n σ' ι' s' a') fuel listed a w := by
  have done : ∀ (listed : Array Bool) (σ : Sig) (ι : Nat -> Value) (a : Act) (w : World), listed.size = l.length ->
    Region.ready .any l.toArray listed = [] -> Rel E σ ι (H (ys (cLn tn l.length (fun j => listed.getD j false)))) w -> TR n σ ι (jG s l vs (fun j => listed.getD j false) l.length) a -> ∃ s' h' σ' ι', Q .normal s' h' ∧ Rel E σ' ι' h' w ∧ TR n σ' ι' s' a := by
   intro listed σ ι a w hsz hready hr ht
   have hall : ∀ m j, j < m -> j < l.length -> listed.getD j false = true := by
    intro m
    induction m with
    | zero => intro j hj; omega
    | succ m ih =>
     intro j hj hlen
     by_cases hlt : j < m
     ·exact ih j hlt hlen
     obtain rfl : j = m := by omega
     cases hl : listed.getD j false with
     | true => rfl
     | false =>
      exfalso
      have : j ∈ Region.ready .any l.toArray listed := by
       unfold Region.ready
       refine List.mem_filter.2 ⟨by simpa using hlen, ?_⟩
       have ho : l[j]? = some l[j] := List.getElem?_eq_getElem hlen
       have hj' : listed.getD j true = false := by
        have hb : j < listed.size := by omega
        simpa [Array.getD, hb] using hl
       simp only [hj', Bool.not_false, Bool.true_and, List.getElem?_toArray, ho, Option.map_some, Option.getD_some]
       rw [<- Array.all_toList]
       refine List.all_eq_true.2 fun e he => ?_
       cases hb : Region.binds .any e with
       | false => simp
       | true =>
        have h3 := (qi hok ho).2.2.2.1 e he hb
        rw [ih e.on h3 (by omega)]; simp
      rw [hready] at this; cases this
   have hcl : cLn tn l.length (fun j => listed.getD j false) = cTn tn l.length := wt (Nat.le_refl _) (fun j hj _ => hall _ j hj hj) (fun j hj hj2 => by omega)
   rw [hcl] at hr
   refine ⟨_, _, σ, ι, hQ, hr, ?_⟩
   refine ⟨ht.size, ht.defers, fun t => ?_⟩
   have := ht.at_ t
   rwa [qW (M := fun _ => true) l.length fun j hj _ => hall _ j hj hj, hF] at this
  intro fuel
  induction fuel with
  | zero =>
   intro listed σ ι a w hsz _ hc hr ht
   have hready : Region.ready .any l.toArray listed = [] := by
    rw [List.eq_nil_iff_forall_not_mem]
    intro j hj
    obtain ⟨h1, h2⟩ := List.mem_filter.1 hj
    have h1' : j < l.length := by simpa using h1
    have hb : j < listed.size := by omega
    have h3 : listed.getD j false = false := by
     have := (Bool.and_eq_true _ _ ▸ h2).1
     simpa [Array.getD, hb] using this
    have : 0 < (List.range l.length).countP (fun j => !listed.getD j false) := List.countP_pos_iff.2 ⟨j, List.mem_range.2 h1', by simp [h3]⟩
    omega
   exact ⟨hready, done listed σ ι a w hsz hready hr ht⟩
  | succ fuel ih =>
   intro listed σ ι a w hsz hdown hc hr ht
   refine ⟨fun hready => done listed σ ι a w hsz hready hr ht, fun i hi => ?_⟩
   obtain ⟨h1, h2⟩ := List.mem_filter.1 hi
   have hil : i < l.length := by simpa using h1
   have hb : i < listed.size := by omega
   have ho : l[i]? = some l[i] := List.getElem?_eq_getElem hil
   have h2' := Bool.and_eq_true _ _ ▸ h2
   have hif : listed.getD i false = false := by
    have := h2'.1
    simpa [Array.getD, hb] using this
   have hafter : ∀ e ∈ l[i].after.toList, Region.binds .any e = true -> listed.getD e.on false = true := by
    have h3 := h2'.2
    simp only [List.getElem?_toArray, ho, Option.map_some, Option.getD_some] at h3
    rw [<- Array.all_toList] at h3
    intro e he hbe
    have := List.all_eq_true.1 h3 e he
    simpa [hbe] using this
   have hopsA : ∀ j o, l.toArray[j]? = some o ↔ l[j]? = some o := fun j o => by rw [List.getElem?_toArray]
   obtain ⟨c0, c1, c2, c3, c4, c5⟩ := qi hok ho
   -- ahead of this one
   have hL' : ∀ x, (listed.setIfInBounds i true).getD x false = (listed.getD x false || x == i) := fun x => by
    by_cases hx : x = i
    ·subst hx; simp [Array.getD, hb]
    ·have : ¬ i = x := fun e => hx e.symm
     simp [Array.getD_eq_getD_getElem?, Array.getElem?_setIfInBounds, this, hx]
   have hdown' : ∀ j o, l[j]? = some o -> (listed.setIfInBounds i true).getD j false = true -> ∀ e ∈ o.after.toList, Region.binds .any e = true -> (listed.setIfInBounds i true).getD e.on false = true := by
    intro j o hjo hj e he hbe
    rw [hL'] at hj ⊢
    rcases (Bool.or_eq_true _ _).mp hj with hj | hj
    ·rw [hdown j o hjo hj e he hbe]; rfl
    ·have : j = i := by simpa using hj
     subst this
     rw [ho] at hjo; cases hjo
     rw [hafter e he hbe]; rfl
   have hbef' := qG (ops := l.toArray) (L := fun j => (listed.setIfInBounds i true).getD j false) (fun j o hjo => hdown' j o ((hopsA j o).1 hjo))
   have hbef := qG (ops := l.toArray) (L := fun j => listed.getD j false) (fun j o hjo => hdown j o ((hopsA j o).1 hjo))
   have hlow : ∀ x, x ≠ i -> ((Region.before l.toArray).getD i 0).testBit x = true -> listed.getD x false = true := by
    intro x hx hbit
    have := hbef' i x (by simp [hL']) hbit
    simp only [hL'] at this
    rcases (Bool.or_eq_true _ _).mp this with h | h
    ·exact h
    ·exact absurd (by simpa using h) hx
   -- a slot that it names: those that write it ahead of it, in the text, have come up; the others have not
   have hside : ∀ t, (t ∈ qZ l.toArray l[i] ∨ l[i].dst = some t) -> ∀ j, j < l.length -> (l[j]?).bind (·.dst) = some t -> j ≠ i -> listed.getD j false = decide (j < i) := by
    intro t htm j hj hjd hne
    have hd : jz l.toArray j = some t := by simpa [jz] using hjd
    have hbit := c5 j t hj hne hd htm
    by_cases hlt : j < i
    ·rw [Nat.max_eq_right (by omega), Nat.min_eq_left (by omega)] at hbit
     rw [hlow j hne hbit]; simp [hlt]
    ·have hgt : i < j := by omega
     rw [Nat.max_eq_left (by omega), Nat.min_eq_right (by omega)] at hbit
     simp only [hlt, decide_false]
     cases hc : listed.getD j false with
     | false => rfl
     | true => have := hbef j i hc hbit; simp only [hif] at this; cases this
   have j9 : ∀ t, (t ∈ qZ l.toArray l[i] ∨ l[i].dst = some t) -> get (jG s l vs (fun j => listed.getD j false) l.length) t = get (jG s l vs (fun _ => true) i) t := by
    intro t htm
    rw [qJ (i := i) l.length (by omega) fun j h3 h4 hjd => ?_]
    ·exact qW i fun j h3 hjd => by rw [hside t htm j (by omega) hjd (by omega)]; simp [h3]
    ·by_cases hji : j = i
     ·subst hji; exact hif
     ·rw [hside t htm j h4 hjd hji]; simp; omega
   have hcount : (List.range l.length).countP (fun j => !(listed.setIfInBounds i true).getD j false) <= fuel := by
    have hlt : (List.range l.length).countP (fun j => !(listed.setIfInBounds i true).getD j false) < (List.range l.length).countP (fun j => !listed.getD j false) := by
     have hsplit : List.range l.length = List.range i ++ i :: (List.range' (i + 1) (l.length - (i + 1))) := by
      obtain ⟨m, hm⟩ : ∃ m, l.length = i + (m + 1) := ⟨l.length - (i + 1), by omega⟩
      rw [hm, show i + (m + 1) - (i + 1) = m by omega, List.range_eq_range', List.range_eq_range', <- List.range'_append_1, List.range'_succ]
      simp
     rw [hsplit, List.countP_append, List.countP_append, List.countP_cons, List.countP_cons]
     have e1 : (List.range i).countP (fun j => !(listed.setIfInBounds i true).getD j false) = (List.range i).countP (fun j => !listed.getD j false) := List.countP_congr fun x hx => by
      rw [hL']; have := List.mem_range.1 hx; simp [show x ≠ i by omega]
     have e2 : (List.range' (i + 1) (l.length - (i + 1))).countP (fun j => !(listed.setIfInBounds i true).getD j false) = (List.range' (i + 1) (l.length - (i + 1))).countP (fun j => !listed.getD j false) := List.countP_congr fun x hx => by
      rw [hL']; have := (List.mem_range'_1.1 hx).1; simp [show x ≠ i by omega]
     rw [e1, e2, hL']
     simp [hif]
    omega
   have hcL' : cLn tn l.length (fun j => (listed.setIfInBounds i true).getD j false) = cLn tn l.length (fun j => listed.getD j false) + (if tn.contains i then 1 else 0) := by
    have hsplit : List.range l.length = List.range i ++ i :: (List.range' (i + 1) (l.length - (i + 1))) := by
     obtain ⟨m, hm⟩ : ∃ m, l.length = i + (m + 1) := ⟨l.length - (i + 1), by omega⟩
     rw [hm, show i + (m + 1) - (i + 1) = m by omega, List.range_eq_range', List.range_eq_range', <- List.range'_append_1, List.range'_succ]
     simp
    unfold cLn
    rw [hsplit, List.countP_append, List.countP_append, List.countP_cons, List.countP_cons]
    have e1 : (List.range i).countP (fun j => (listed.setIfInBounds i true).getD j false && tn.contains j) = (List.range i).countP (fun j => listed.getD j false && tn.contains j) := List.countP_congr fun x hx => by
     rw [hL']; have := List.mem_range.1 hx; simp [show x ≠ i by omega]
    have e2 : (List.range' (i + 1) (l.length - (i + 1))).countP (fun j => (listed.setIfInBounds i true).getD j false && tn.contains j) = (List.range' (i + 1) (l.length - (i + 1))).countP (fun j => listed.getD j false && tn.contains j) := List.countP_congr fun x hx => by
     rw [hL']; have := (List.mem_range'_1.1 hx).1; simp [show x ≠ i by omega]
    rw [e1, e2]
    simp only [hL', hif, BEq.rfl, Bool.or_true, Bool.true_and, Bool.false_and]
    cases tn.contains i <;> simp <;> omega
   have fin : ∀ σ' ι' w' u, (∀ (n : Md) (s : j6) (a : Act), TR n σ ι s a -> TR n σ' ι' s a) -> Rel E σ' ι' (H (ys (cLn tn l.length (fun j => (listed.setIfInBounds i true).getD j false)))) w' -> VR σ' ι' (vs i) u ->
     wpAnyIn (qd n.ro) 0 P .any l.toArray (fun e a' w' => ∃ s' h' σ' ι', Q e s' h' ∧ Rel E σ' ι' h' w' ∧ TR n σ' ι' s' a') fuel (listed.setIfInBounds i true) (a.put l[i].dst u) w' := by
    intro σ' ι' w' u hle hr'' hv
    refine ih _ σ' ι' _ w' (by simpa using hsz) hdown' hcount hr'' ?_
    have hp : TR n σ' ι' (jX (jG s l vs (fun j => listed.getD j false) l.length) l[i].dst (vs i)) (a.put l[i].dst u) := (hle _ _ _ ht).putS c2 hv
    refine ⟨hp.size, hp.defers, fun t => ?_⟩
    have h3 := hp.at_ t
    rw [jx] at h3
    by_cases hdt : l[i].dst = some t
    ·rw [if_pos hdt] at h3
     have : get (jG s l vs (fun j => (listed.setIfInBounds i true).getD j false) l.length) t = vs i := by
      rw [qJ (i := i + 1) l.length (by omega) fun j h4 h5 hjd => ?_]
      ·simp only [jG, hL', hif, BEq.rfl, Bool.or_true, if_true, jx, ho, Option.bind_some, if_pos hdt]
      ·rw [hL', hside t (.inr hdt) j h5 hjd (by omega)]; simp; omega
     rw [this]; exact h3
    ·rw [if_neg hdt] at h3
     have : get (jG s l vs (fun j => (listed.setIfInBounds i true).getD j false) l.length) t = get (jG s l vs (fun j => listed.getD j false) l.length) t :=
      qW _ fun j h4 hjd => by
       rw [hL']
       have : j ≠ i := fun e => by subst e; rw [ho] at hjd; exact hdt (by simpa using hjd)
       simp [this]
     rw [this]; exact h3
   unfold wpOpIn
   simp only [List.getElem?_toArray, ho]
   have hopnd : ∀ x ∈ l[i].op.operands.toList, VR σ ι (evA (jG s l vs (fun _ => true) i) x) (a.eval x) := by
    intro x hx
    refine jZ (List.all_eq_true.1 c1 x hx) fun t htx => ?_
    have htm : t ∈ qZ l.toArray l[i] := List.mem_append_left _ (List.mem_filterMap.2 ⟨x, hx, by rw [htx]⟩)
    have := ht.at_ t
    rwa [j9 t (.inl htm)] at this
   have hkn' := hkn i _ ho
   have hdn : ∀ j want d, l[i].guard = some (j, want) -> jz l.toArray j = some d -> d < n.n := fun j want d hg hd => by
    have hj : ∃ oj, l[j]? = some oj ∧ oj.dst = some d := by
     unfold jz at hd
     cases hjo : l[j]? with
     | none => simp [hjo] at hd
     | some oj => exact ⟨oj, rfl, by simpa [hjo] using hd⟩
    obtain ⟨oj, hjo, hjd⟩ := hj
    have := (qi hok hjo).2.2.1
    rw [hjd] at this
    simpa [qj] using this
   have hdt : ∀ j want d, l[i].guard = some (j, want) -> jz l.toArray j = some d -> d ∈ qZ l.toArray l[i] := fun j want d hg hd => List.mem_append_right _ (by rw [hg]; simp [hd])
   have hwant : GoG l.toArray (jG s l vs (fun _ => true) i) l[i] -> Region.wanted l[i] (yielded l.toArray a.tmps) = true := by
    rintro (hg | ⟨j, want, d, hg, hd, hb'⟩)
    ·simp [Region.wanted, hg]
    ·have hv := ht.at_ d
     rw [j9 d (.inl (hdt j want d hg hd)), hb'] at hv
     rw [vU hg hd (by rw [ht.size]; exact hdn j want d hg hd) hv]
     simp
   have hskip : SkG l.toArray (jG s l vs (fun _ => true) i) l[i] -> Region.wanted l[i] (yielded l.toArray a.tmps) = false := by
    rintro ⟨j, want, d, hg, hd, hb'⟩
    have hv := ht.at_ d
    rcases hb' with hb' | hb'
    ·rw [j9 d (.inl (hdt j want d hg hd)), hb'] at hv
     rw [vU hg hd (by rw [ht.size]; exact hdn j want d hg hd) hv]
     cases want <;> rfl
    ·rw [j9 d (.inl (hdt j want d hg hd)), hb'] at hv
     exact wB hg hd (by rw [ht.size]; exact hdn j want d hg hd) hv.tup0_inv
   -- an operation that touches what is turned: those in the text ahead of it have come up, the others have not
   have hstage : tn.contains i = true ∨ ln.contains i = true -> cLn tn l.length (fun j => listed.getD j false) = cTn tn i := fun hmem => by
    refine wt (by omega) (fun j hj hs => ?_) fun j hj hjl hs => ?_
    ·refine hlow j (by omega) (xy hst hj hil ?_)
     rcases hmem with hmem | hmem <;> simp only [hs, hmem, Bool.true_or, Bool.or_true, Bool.true_and, Bool.and_true]
    ·by_cases hji : j = i
     ·subst hji; exact hif
     ·have hbit := xy hst (show i < j by omega) hjl (by rcases hmem with hmem | hmem <;> simp only [hs, hmem, Bool.true_or, Bool.or_true, Bool.true_and, Bool.and_true])
      cases hc : listed.getD j false with
      | false => rfl
      | true => have := hbef j i hc hbit; simp only [hif] at this; cases this
   unfold KnC at hkn'
   rcases hkn' with ⟨hg, hs, hS⟩ | ⟨hg, hs, hO⟩ | ⟨hg, hv0, hy⟩
   ·rw [if_pos (hwant hg)]
    refine Je c0 ?_
    have hc := hstage (.inl hs)
    rw [hc] at hr
    refine hS E σ ι a w hr hopnd _ _ fun σ' ι' w' u h2 h3 h4 h5 => fin σ' ι' w' u h3 ?_ h5
    rw [hcL', hs, if_pos rfl, hc]; exact h4
   ·have hc2 : cLn tn l.length (fun j => (listed.setIfInBounds i true).getD j false) = cLn tn l.length (fun j => listed.getD j false) := by rw [hcL', hs]; simp
    rw [if_pos (hwant hg)]
    refine Je c0 ?_
    rcases hO with ⟨hl, hO⟩ | hO
    ·rw [hstage (.inr hl)] at hr
     exact hO E σ ι a w hr hopnd _ _ fun σ' w' u h3 h4 h5 => fin σ' ι w' u (fun _ _ _ t => t.mono h3) (by rw [hc2, hstage (.inr hl)]; exact h4) h5
    ·have hcle : cLn tn l.length (fun j => listed.getD j false) <= cTn tn l.length := by
      refine List.countP_mono_left fun x _ hx => ?_
      exact (Bool.and_eq_true _ _ ▸ hx).2
     exact hO _ (hoky _ hcle) E σ ι a w hr hopnd _ _ fun σ' w' u h3 h4 h5 => fin σ' ι w' u (fun _ _ _ t => t.mono h3) (by rw [hc2]; exact h4) h5
   ·rw [if_neg (by rw [hskip hg]; simp)]
    refine ⟨fun _ _ => trivial, fin σ ι w undef (fun _ _ _ t => t) ?_ (by rw [hv0]; exact VR.tup0)⟩
    cases hs : tn.contains i with
    | false => rw [hcL', hs]; simpa using hr
    | true =>
     have hc := hstage (.inl hs)
     rw [hcL', hs, if_pos rfl, hc, hy hs, <- hc]; exact hr
 have hrep : ∀ j, (Array.replicate l.toArray.size false).getD j false = false := fun j => by
  simp only [Array.getD_eq_getD_getElem?, Array.getElem?_replicate]; split <;> rfl
 have hc0 : cLn tn l.length (fun j => (Array.replicate l.toArray.size false).getD j false) = 0 := by
  unfold cLn; rw [List.countP_eq_zero]; intro j _; simp only [hrep]; simp
 refine key l.toArray.size _ σ0 ι0 a _ (by simp) ?_ ?_ (by rw [hc0]; exact hr') ?_
 ·intro j o hj hl
  rw [hrep] at hl; cases hl
 ·refine Nat.le_trans List.countP_le_length ?_
  simp
 ·refine ⟨ht.size, ht.defers, fun t => ?_⟩
  have := ht.at_ t
  rw [qJ (i := 0) l.length (Nat.zero_le _) fun j _ _ _ => hrep j]
  exact this
structure C (P : Program) (ops : Array Oper) (H : β -> j8) (ok : β -> Prop) (tn ln : List Nat) (K : j6 -> β -> Prop) (m : Nat) (rest : List Oper) (s : j6) (x : β) : Prop where
 out : ADc P ops H ok tn ln K m rest s x
variable {m : Nat} {x : β}
theorem JZ (hk : K s x) : C P ops H ok tn ln K m [] s x := ⟨⟨s, fun _ => rfl, hk⟩⟩
theorem xj {v : AV} (hg : o.guard = none) (ht : tn.contains m = false) (hv : ∀ y, ok y -> Y P o s (H y) v) (hk : C P ops H ok tn ln K (m + 1) rest (jX s o.dst v) x) : C P ops H ok tn ln K m (o :: rest) s x :=
 ⟨.inr (.inl ⟨.inl hg, ht, v, .inr fun y hy => (hv y hy).out, hk.out⟩)⟩
theorem JI {v : AV} (hg : o.guard = none) (ht : tn.contains m = false) (hl : ln.contains m = true) (hv : Y P o s (H x) v) (hk : C P ops H ok tn ln K (m + 1) rest (jX s o.dst v) x) : C P ops H ok tn ln K m (o :: rest) s x :=
 ⟨.inr (.inl ⟨.inl hg, ht, v, .inl ⟨hl, hv.out⟩, hk.out⟩)⟩
theorem Yl {v : AV} {x' : β} (hg : o.guard = none) (ht : tn.contains m = true) (hx : ok x') (hv : TuO P o s (H x) (H x') v) (hk : C P ops H ok tn ln K (m + 1) rest (jX s o.dst v) x') : C P ops H ok tn ln K m (o :: rest) s x :=
 ⟨.inl ⟨.inl hg, ht, x', v, hx, hv, hk.out⟩⟩
theorem xh {j : Nat} {want : Bool} (hg : o.guard = some (j, want)) {d : Nat} (hd : jz ops j = some d) {b : Bool} (hb : get s d = .bool b)
  (h1 : b = want -> C P ops H ok tn ln K m (unG o :: rest) ((d, .bool want) :: s) x) (h2 : b = !want -> C P ops H ok tn ln K (m + 1) rest (jX ((d, .bool (!want)) :: s) o.dst (.tup [])) x) : C P ops H ok tn ln K m (o :: rest) s x := by
 have e : ∀ b', b = b' -> ∀ t, get ((d, .bool b') :: s) t = get s t := fun b' eb t => by
  rw [qO]; split
  ·rename_i e'; subst e'; rw [hb, eb]
  ·rfl
 refine ⟨?_⟩
 by_cases hw : b = want
 ·have hgo : GoG ops s o := .inr ⟨j, want, d, hg, hd, by rw [hb, hw]⟩
  have h3 := (h1 hw).out
  unfold ADc at h3 ⊢
  rcases h3 with ⟨_, ht, x', v, k1, k2, k3⟩ | ⟨_, ht, v, k2, k3⟩ | ⟨⟨_, _, _, k1, _⟩, _⟩
  ·exact .inl ⟨hgo, ht, x', v, k1, k2.congr (e _ hw), xL rest _ (qb (e _ hw) _ _) k3⟩
  ·refine .inr (.inl ⟨hgo, ht, v, ?_, xL rest _ (qb (e _ hw) _ _) k3⟩)
   rcases k2 with ⟨k4, k5⟩ | k5
   ·exact .inl ⟨k4, k5.congr (e _ hw)⟩
   ·exact .inr fun y hy => (k5 y hy).congr (e _ hw)
  ·cases k1
 ·have hw2 : b = !want := by cases b <;> cases want <;> simp_all
  exact .inr (.inr ⟨⟨j, want, d, hg, hd, .inl (by rw [hb, hw2])⟩, xL rest _ (qb (e _ hw2) _ _) (h2 hw2).out⟩)
theorem wP {j : Nat} {want : Bool} (hg : o.guard = some (j, want)) {d : Nat} (hd : jz ops j = some d) (hb : get s d = .tup []) (h2 : C P ops H ok tn ln K (m + 1) rest (jX s o.dst (.tup [])) x) : C P ops H ok tn ln K m (o :: rest) s x :=
 ⟨.inr (.inr ⟨⟨j, want, d, hg, hd, .inr hb⟩, h2.out⟩)⟩
theorem zt {id : Nat} {l : List Oper} (H : β -> j8) (ok : β -> Prop) (tn ln : List Nat) (x0 : β) (hh : LeH h (H x0)) (hm : P.follows .mixedOrders = true) (hok : wy n l = true) (hst : tuQ tn ln l = true) (hx0 : ok x0) (hk : C P l.toArray H ok tn ln (fun s' x => Q .normal s' (H x)) 0 l s x0) : W P n (.region id l.toArray true) Q s h :=
 wle (LeS.refl s) hh ⟨j0t hm hok hst hx0 hk.out⟩
theorem j0G (ρ : Nat -> Nat) {f : FuncId} {args : List AV} {hin hout : j8} {v0 v : AV} {h' : j8} (hf : FnH P f args hin (fun r h' => r = v0 ∧ h' = hout)) (hc : Q8 s o = some (f, y3 ρ args)) (hsub : LeH h (wb ρ hin)) (hlow : YP (jI hin) = true) (hinj : Yb ρ (jI hin) = true)
  (hrow : vF ρ (jI hin) = []) (hcl : qI (jI hin) v0 = true) (hclh : qB (jI hin) hout = true) (hv : ren ρ v0 = v) (hh : LeH (wb ρ hout ++ vO ((jI hin).map ρ) h) h') : TuO P o s h h' v := fun E σ ι a w hr hx K Q hK => by
 obtain ⟨vs, h1, h2⟩ := xb (P := P) (w := w) hc hf.1 hx
 unfold Oper.wp
 rw [h1, Oper.upon_enter]
 have h2' : L2 (VR σ (fun i => ι (ρ i))) args vs := ⟨by rw [<- jU ρ args]; exact h2.1, fun j c v hc hv => (h2.2 j (ren ρ c) v (by rw [qm, hc]; rfl) hv).unren c rfl⟩
 obtain ⟨may, pin, hr1, back⟩ := hr.lend ρ hsub hlow hinj (by rw [hrow]; rfl) (by rw [hrow]; rfl)
 refine (hf.2 may pin σ _ w vs hr1 h2').mono ?_
 rintro e w' ⟨u, r, h3, σ', ι', rfl, ⟨rfl, rfl⟩, h4, h5⟩
 obtain ⟨ι2, b1, b2, b3, b4⟩ := back w' _ σ' ι' h5 hclh
 refine hK σ' ι2 w' u b2 (fun n s a t => ?_) (b1.le hh) (by rw [<- hv]; exact h4.reren b3 hcl)
 have := b4 n s a t
 rw [hrow] at this
 exact this
end
section
variable {P : Program} {n : Md} {Q : Exit -> j6 -> j8 -> Prop} {s : j6} {h : j8} {ops : Array Oper} {rest : List Oper} {o : Oper}
theorem VP {t : TypeId} {x y : Operand} (ho : o.op = .store t x y) {id off : Nat} (hx : evA s x = .ptr id off) {ty : TypeId} {cs : List AV} (hg : j9 h id = some (.blk ty cs)) {v : AV} (hv : evA s y = v)
  (hq : J2 v = true) (hz : q9 P t (qk v).length = true) (hl : off + (qk v).length <= cs.length) : StO P o s h ((id, .blk ty (spl cs off (qk v))) :: h) := fun E σ ι a w hr hop => by
 subst hv
 have hX : VR σ ι (evA s x) (a.eval x) := hop x (by rw [ho]; simp [Op.operands])
 have hY : VR σ ι (evA s y) (a.eval y) := hop y (by rw [ho]; simp [Op.operands])
 rw [hx] at hX
 obtain ⟨g, h1, h2⟩ := hX.ptr_inv
 obtain ⟨g', cur, h3, h4, h5⟩ := hr.ch id _ hg
 rw [h3] at h1
 simp only [jC, Option.some.injEq] at h1
 subst h1
 obtain ⟨hL, hone⟩ := hY.cel hq
 have hlen : (a.eval y).cells.size = (qk (evA s y)).length := by rw [<- Array.length_toList]; exact hL.1.symm
 have hcur : cs.length = cur.size := by rw [<- Array.length_toList]; exact h5.1
 have hrun := xC (P := P) (t := t) (off := off) (v := a.eval y) h4 (by rw [hlen]; exact hz) (by rw [hlen]; omega) hone
 have hrun' : (execOp a.eval o).run P w = .ok .skip (w.setRow g' (cur.toList.take off ++ (a.eval y).cells.toList ++ cur.toList.drop (off + (a.eval y).cells.size)).toArray) := by
  simp only [execOp, ho, h2, Instr.storeAt, Instr.sureAddr, Sem.run_bind, Sem.run_pure, Result.andThen_ok, hrun]
 have hsame : upd ι id (ι id) = ι := by funext i; unfold upd; split <;> simp_all
 have hnew := hr.turn (id := id) (u := ι id) (h' := (id, .blk ty (spl cs off (qk (evA s y)))) :: h) (c' := .blk ty (spl cs off (qk (evA s y)))) (w' := w.setRow g' (cur.toList.take off ++ (a.eval y).cells.toList ++ cur.toList.drop (off + (a.eval y).cells.size)).toArray)
  (fun i c hi hc => by rw [j7, if_neg (fun e => hi e.symm)] at hc; exact ⟨hc, .inl rfl⟩) (by rw [j7, if_pos rfl])
  ⟨g', _, by rw [hsame]; exact h3, setRow_heap w g' cur _ ty (0, 0) h4, by
   rw [hsame, Ji _ _ _ hl, List.toList_toArray, hlen]
   exact ((h5.take off).append hL).append (h5.drop _)⟩
  rfl rfl rfl (by simp) (fun k hk hne => setRow_other w g' k _ fun e => hne _ hg (by rw [e, h3]; rfl))
  (fun g2 hg2 => .inl ⟨_, hg, hg2⟩) (.inr rfl)
 rw [hsame] at hnew
 exact ⟨_, hrun', hnew⟩
theorem xV {h' : j8} (hs : StO P o s h h') (hd : o.dst = none) : TuO P o s h h' .undef := fun E σ ι a w hr hv K Q hK => by
 obtain ⟨w', h1, h2⟩ := hs E σ ι a w hr hv
 unfold Oper.wp
 rw [h1, Oper.upon_skip]
 have h3 := hK σ ι w' Go.undef (Sig.le.refl σ) (fun _ _ _ t => t) h2 (.base _ _ (.undef _))
 rw [hd] at h3 ⊢
 exact h3
theorem TuO.post {h' h'' : j8} {v : AV} (ht : TuO P o s h h' v) (hh : LeH h' h'') : TuO P o s h h'' v := fun E σ ι a w hr hv K Q hK =>
 ht E σ ι a w hr hv K Q fun σ' ι' w' u k1 k2 k3 k4 => hK σ' ι' w' u k1 k2 (k3.le hh) k4
theorem TuO.pre {h0 h' : j8} {v : AV} (hp : ∀ (E : Env) (σ : Sig) (ι : Nat -> Value) (w : World), Rel E σ ι h0 w -> Rel E σ ι h w) (ht : TuO P o s h h' v) : TuO P o s h0 h' v := fun E σ ι a w hr hv K Q hK =>
 ht E σ ι a w (hp E σ ι w hr) hv K Q hK
end
section
variable {P : Program} {n : Md} {Q : Exit -> j6 -> j8 -> Prop} {s : j6} {h : j8} {ops : Array Oper} {rest : List Oper} {o : Oper}
theorem j0H {sz : Nat} {xs : List (List AV)} {t e t' : TypeId} {x y : Operand} (ho : o.op = .binOp .eql t x y t') (ht : qD P t = some e) (hx : evA s x = .lst sz xs) (hy : evA s y = .nils) (hgd : o.guard = none) (hco : qC o = true) (hdo : qj n o.dst = true)
  (hk : ∀ b : Bool, (b = true -> xs = []) -> O P n ops Q rest (jX s o.dst (.bool b)) h) : O P n ops Q (o :: rest) s h := ⟨v8 hgd fun E σ ι a w hr htr => by
 have hv : ∀ z ∈ o.op.operands.toList, VR σ ι (evA s z) (a.eval z) := fun z hz => jZ (List.all_eq_true.1 hco z hz) fun t _ => htr.at_ t
 have hX := hv x (by rw [ho]; simp [Op.operands])
 have hY := hv y (by rw [ho]; simp [Op.operands])
 rw [hx] at hX
 rw [hy] at hY
 have e2 : a.eval y = .slice none 0 0 := by
  generalize a.eval y = q at hY
  cases hY with
  | base _ _ h0 => cases h0; rfl
 obtain ⟨A, cap, e1, _, _, h4⟩ := hX.lst_inv
 have hrun : (execOp a.eval o).run P w = .ok (.value (.bool A.isNone)) w := by
  have h5 := Lib.run_eql_slice_nil (P := P) w t e A xs.length cap 0 0 (qF ht)
  simp only [execOp, ho, e1, e2]
  simp [eqGuard, h5]
 unfold Oper.wp
 rw [hrun]
 have hb : A.isNone = true -> xs = [] := fun hA => by
  rcases h4 with h4 | ⟨b, off, g, rfl, _⟩
  ·exact h4
  ·cases hA
 exact (hk _ hb).out E σ ι _ w hr (htr.putS hdo (.base _ _ (.bool _)))⟩
theorem j0w {α : Type} (f : α -> List AV) {b : Nat} {ty : TypeId} (hg : j9 h b = some (.blk ty [.nils])) (id : Nat) (e : TypeId) (sz : Nat) (hsz : 0 < sz) (hf : jd id s h = true) : Turns n s h s ((b, .blk ty [.own id]) :: (id, .row e sz (([] : List α).map f)) :: h) := by
 intro E σ ι a w hr ht
 simp only [jd, Bool.and_eq_true, Nat.ble_eq] at hf
 have hbi : b ≠ id := (ju hf.2 b _ hg).1
 have r1 : Rel E σ (upd ι id (.slice none 0 0)) ((id, .row e sz (([] : List α).map f)) :: h) w := by
  refine hr.turn (c' := .row e sz []) ?_ (by rw [j7, if_pos rfl]; rfl) ⟨hsz, by simp, [], by rw [jM]; exact World.ownsRow_nil w 0 e sz, L2.nil _⟩ rfl rfl rfl (Nat.le_refl _) (fun _ _ _ => rfl) (fun g hg => by cases hg) (.inl hf.1.1)
  intro i c hi hc
  rw [j7, if_neg (fun e => hi e.symm)] at hc
  exact ⟨hc, .inr (ju hf.2 i c hc).2⟩
 have t1 := ht.upd hf.1.1 hf.1.2 (.slice none 0 0)
 have hown : VR σ (upd ι id (.slice none 0 0)) (.own id) (.slice none 0 0) := by
  have h4 := VR.own (σ := σ) (ι := upd ι id (.slice none 0 0)) id (by rw [jM]; rfl)
  rwa [jM] at h4
 generalize upd ι id (.slice none 0 0) = ι1 at *
 have hgb : j9 ((id, .row e sz (([] : List α).map f)) :: h) b = some (.blk ty [.nils]) := by rw [j7, if_neg (fun e => hbi e.symm)]; exact hg
 obtain ⟨g, cur, e1, e2, e3⟩ := r1.ch b _ hgb
 have hsame : upd ι1 b (ι1 b) = ι1 := by funext i; unfold upd; split <;> simp_all
 have hnew := r1.turn (id := b) (u := ι1 b) (h' := (b, .blk ty [.own id]) :: (id, .row e sz (([] : List α).map f)) :: h) (c' := .blk ty [.own id]) (w' := w)
  (fun i c hi hc => by rw [j7, if_neg (fun e => hi e.symm)] at hc; exact ⟨hc, .inl rfl⟩) (by rw [j7, if_pos rfl])
  (by rw [hsame]; exact ⟨g, cur, e1, e2, by simpa using e3.1, fun j x y hx hy => by
    cases j with
    | zero =>
     have h5 := e3.2 0 .nils y rfl hy
     cases hx
     have h6 : y = .slice none 0 0 := by
      cases h5 with
      | base _ _ h0 => cases h0; rfl
     rw [h6]; exact hown
    | succ j => simp at hx⟩)
  rfl rfl rfl (Nat.le_refl _) (fun _ _ _ => rfl) (fun g hv => .inl ⟨_, hgb, hv⟩) (.inr rfl)
 rw [hsame] at hnew
 exact ⟨σ, ι1, hnew, t1⟩
end
section
variable {P : Program} {n : Md} {Q : Exit -> j6 -> j8 -> Prop} {s : j6} {h : j8} {ops : Array Oper} {rest : List Oper} {o : Oper}
def TuN (P : Program) (N : Nat) (o : Oper) (s : j6) (h h' : j8) (v : AV) : Prop :=
 ∀ (E : Env) (σ : Sig) (ι : Nat -> Value) (a : Act) (w : World), Rel E σ ι h w -> (∀ y ∈ o.op.operands.toList, VR σ ι (evA s y) (a.eval y)) ->
  ∀ (K : Act -> World -> Prop) (Q : Exit -> Act -> World -> Prop), (∀ σ' ι' w' u, Sig.le σ σ' -> (∀ (n : Md) (s : j6) (a : Act), (∀ t, jg N (get s t) = false) -> TR n σ ι s a -> TR n σ' ι' s a) -> Rel E σ' ι' h' w' -> VR σ' ι' v u -> K (a.put o.dst u) w') -> o.wp P a w K Q
theorem TuN.congr {N : Nat} {s s' : j6} {h h' : j8} {v : AV} (e : ∀ t, get s t = get s' t) (hk : TuN P N o s h h' v) : TuN P N o s' h h' v := fun E σ ι a w hr hx =>
 hk E σ ι a w hr fun x hm => by rw [y7 e]; exact hx x hm
theorem JV {l : List Oper} {s : j6} {vs : Nat -> AV} {L : Nat -> Bool} {N : Nat} (h0 : ∀ t, jg N (get s t) = false) (h : ∀ k, (hk : k < l.length) -> L k = true -> jg N (vs k) = false) : ∀ k, k <= l.length -> ∀ t, jg N (get (jG s l vs L k) t) = false
 | 0, _, t => h0 t
 | k + 1, hk, t => by
  have ih := JV h0 h k (by omega)
  simp only [jG]
  cases hLk : L k with
  | false => simpa using ih t
  | true =>
   simp only [if_true, jx]
   split
   ·exact h k (by omega) hLk
   ·exact ih t
def fO (ops : Array Oper) (c m : Nat) (f : Bool) : Bool := bif Nat.blt c m then f || !((Region.before ops).getD m 0).testBit c else !f || !((Region.before ops).getD c 0).testBit m
def nQ (ops : Array Oper) (c N m : Nat) (v : AV) : Bool := Nat.beq m c || (!jg N v || ((Region.before ops).getD m 0).testBit c)
variable {β : Type} {H : β -> Bool -> j8} {ok ok1 : β -> Prop} {K : j6 -> β -> Prop} {tn ln : List Nat} {c N : Nat}
def ADn (P : Program) (ops : Array Oper) (H : β -> Bool -> j8) (ok ok1 : β -> Prop) (tn ln : List Nat) (c N : Nat) (K : j6 -> β -> Prop) : Nat -> List Oper -> j6 -> β -> Prop
 | _, [], s, x => ∃ s', (∀ t, get s t = get s' t) ∧ K s' x
 | m, o :: rest, s, x => (GoG ops s o ∧ m ≠ c ∧ tn.contains m = true ∧ ∃ x' v, ok x' ∧ (fO ops c m false = true -> ok1 x') ∧ nQ ops c N m v = true ∧ (∀ f, fO ops c m f = true -> TuO P o s (H x f) (H x' f) v) ∧ ADn P ops H ok ok1 tn ln c N K (m + 1) rest (jX s o.dst v) x') ∨
   (GoG ops s o ∧ m = c ∧ ∃ v, (∀ y, ok1 y -> TuN P N o s (H y false) (H y true) v) ∧ ADn P ops H ok ok1 tn ln c N K (m + 1) rest (jX s o.dst v) x) ∨
   (GoG ops s o ∧ m ≠ c ∧ tn.contains m = false ∧ ∃ v, nQ ops c N m v = true ∧ ((ln.contains m = true ∧ ∀ f, fO ops c m f = true -> OkO P o s (H x f) v) ∨ ∀ y f, ok y -> OkO P o s (H y f) v) ∧ ADn P ops H ok ok1 tn ln c N K (m + 1) rest (jX s o.dst v) x) ∨
   (SkG ops s o ∧ m ≠ c ∧ tn.contains m = false ∧ ADn P ops H ok ok1 tn ln c N K (m + 1) rest (jX s o.dst (.tup [])) x)
def KnN (P : Program) (H : β -> Bool -> j8) (ok ok1 : β -> Prop) (tn ln : List Nat) (c N : Nat) (l : List Oper) (s : j6) (vs : Nat -> AV) (ys : Nat -> β) (i : Nat) (o : Oper) : Prop :=
 (GoG l.toArray (jG s l vs (fun _ => true) i) o ∧ i ≠ c ∧ tn.contains i = true ∧ nQ l.toArray c N i (vs i) = true ∧ (fO l.toArray c i false = true -> ok1 (ys (cTn tn i + 1))) ∧ ∀ f, fO l.toArray c i f = true -> TuO P o (jG s l vs (fun _ => true) i) (H (ys (cTn tn i)) f) (H (ys (cTn tn i + 1)) f) (vs i)) ∨
 (GoG l.toArray (jG s l vs (fun _ => true) i) o ∧ i = c ∧ ∀ y, ok1 y -> TuN P N o (jG s l vs (fun _ => true) i) (H y false) (H y true) (vs i)) ∨
 (GoG l.toArray (jG s l vs (fun _ => true) i) o ∧ i ≠ c ∧ tn.contains i = false ∧ nQ l.toArray c N i (vs i) = true ∧ ((ln.contains i = true ∧ ∀ f, fO l.toArray c i f = true -> OkO P o (jG s l vs (fun _ => true) i) (H (ys (cTn tn i)) f) (vs i)) ∨ ∀ y f, ok y -> OkO P o (jG s l vs (fun _ => true) i) (H y f) (vs i))) ∨
 (SkG l.toArray (jG s l vs (fun _ => true) i) o ∧ i ≠ c ∧ vs i = .tup [] ∧ tn.contains i = false)
theorem ZC (htc : tn.contains c = false) (l : List Oper) : ∀ (rest : List Oper) (m : Nat) (vs : Nat -> AV) (ys : Nat -> β), l.drop m = rest -> m <= l.length -> ADn P l.toArray H ok ok1 tn ln c N K m rest (jG s l vs (fun _ => true) m) (ys (cTn tn m)) ->
  (∀ k, k <= cTn tn m -> ok (ys k)) -> (∀ (i : Nat) (o : Oper), i < m -> l[i]? = some o -> KnN P H ok ok1 tn ln c N l s vs ys i o) ->
  ∃ (vs' : Nat -> AV) (ys' : Nat -> β), (∀ k, k = 0 -> ys' k = ys k) ∧ (∃ s', (∀ t, get (jG s l vs' (fun _ => true) l.length) t = get s' t) ∧ K s' (ys' (cTn tn l.length))) ∧ (∀ k, k <= cTn tn l.length -> ok (ys' k)) ∧ ∀ (i : Nat) (o : Oper), l[i]? = some o -> KnN P H ok ok1 tn ln c N l s vs' ys' i o
 | [], m, vs, ys, hr, hm, hd, hok, hk => by
  have hm' : m = l.length := by
   have := List.drop_eq_nil_iff.1 hr; omega
  subst hm'
  exact ⟨vs, ys, fun _ _ => rfl, hd, hok, fun i o ho => hk i o (List.getElem?_eq_some_iff.1 ho).1 ho⟩
 | o :: rest, m, vs, ys, hr, hm, hd, hok, hk => by
  have hlt : m < l.length := by
   have : (l.drop m).length = (o :: rest).length := by rw [hr]
   simp at this; omega
  have ho : l[m]? = some o := by
   have : (l.drop m)[0]? = some o := by rw [hr]; rfl
   simpa using this
  have hr' : l.drop (m + 1) = rest := by rw [<- List.drop_drop, hr]; rfl
  have hcm : ∀ i, i < m -> tn.contains i = true -> cTn tn i + 1 <= cTn tn m := fun i hi hs => by
   have h1 := vH tn i
   rw [hs, if_pos rfl] at h1
   have h2 : cTn tn (i + 1) <= cTn tn m := wr tn hi
   omega
  have hcle : ∀ i, i <= m -> cTn tn i <= cTn tn m := fun i hi => wr tn hi
  have e : ∀ v k, k <= m -> jG s l (fun i => if i = m then v else vs i) (fun _ => true) k = jG s l vs (fun _ => true) k := fun v k hk => vf k fun j hj => by
   show (if j = m then v else vs j) = vs j; rw [if_neg (by omega)]
  have go1 : ∀ v x', tn.contains m = true -> ok x' -> ADn P l.toArray H ok ok1 tn ln c N K (m + 1) rest (jX (jG s l vs (fun _ => true) m) o.dst v) x' ->
    (∀ (vs2 : Nat -> AV) (ys2 : Nat -> β), vs2 m = v -> jG s l vs2 (fun _ => true) m = jG s l vs (fun _ => true) m -> ys2 (cTn tn m) = ys (cTn tn m) -> ys2 (cTn tn m + 1) = x' -> KnN P H ok ok1 tn ln c N l s vs2 ys2 m o) ->
    ∃ (vs' : Nat -> AV) (ys' : Nat -> β), (∀ k, k = 0 -> ys' k = ys k) ∧ (∃ s', (∀ t, get (jG s l vs' (fun _ => true) l.length) t = get s' t) ∧ K s' (ys' (cTn tn l.length))) ∧ (∀ k, k <= cTn tn l.length -> ok (ys' k)) ∧ ∀ (i : Nat) (o : Oper), l[i]? = some o -> KnN P H ok ok1 tn ln c N l s vs' ys' i o := by
   intro v x' hs hx' hd hkn
   have hc := vH tn m
   rw [hs, if_pos rfl] at hc
   obtain ⟨ys2, hys2⟩ : ∃ ys2 : Nat -> β, ys2 = fun k => if k = cTn tn m + 1 then x' else ys k := ⟨_, rfl⟩
   have e1 : ∀ k, k <= cTn tn m -> ys2 k = ys k := fun k hk => by rw [hys2]; show (if _ then _ else _) = _; rw [if_neg (by omega)]
   have e2 : ys2 (cTn tn m + 1) = x' := by rw [hys2]; show (if _ then _ else _) = _; rw [if_pos rfl]
   obtain ⟨vs', ys', q1, q2, q3, q4⟩ := ZC htc l rest (m + 1) (fun i => if i = m then v else vs i) ys2 hr' hlt (by
     simp only [jG, if_true, ho, Option.bind_some]
     rw [e v m (Nat.le_refl _), hc, e2]; exact hd)
    (fun k hk => by
      rw [hc] at hk
      by_cases hke : k = cTn tn m + 1
      ·rw [hke, e2]; exact hx'
      ·rw [e1 k (by omega)]; exact hok k (by omega))
    (fun i o' hi ho' => by
      by_cases him : i = m
      ·subst him
       rw [ho] at ho'; cases ho'
       exact hkn _ _ (by simp) (e v i (Nat.le_refl _)) (e1 _ (Nat.le_refl _)) e2
      ·have := hk i o' (by omega) ho'
       unfold KnN at this ⊢
       simp only [e v i (by omega), if_neg him]
       rcases this with ⟨h0, hm, h1, hq, hq1, h2⟩ | ⟨h0, hm, h2⟩ | ⟨h0, hm, h1, hq, h2⟩ | ⟨h0, hm, h1, h2⟩
       ·exact .inl ⟨h0, hm, h1, hq, by rw [e1 _ (hcm i (by omega) h1)]; exact hq1, by rw [e1 _ (hcle i (by omega)), e1 _ (hcm i (by omega) h1)]; exact h2⟩
       ·exact .inr (.inl ⟨h0, hm, h2⟩)
       ·exact .inr (.inr (.inl ⟨h0, hm, h1, hq, by rw [e1 _ (hcle i (by omega))]; exact h2⟩))
       ·exact .inr (.inr (.inr ⟨h0, hm, h1, h2⟩)))
   exact ⟨vs', ys', fun k hk => (q1 k hk).trans (e1 k (by omega)), q2, q3, q4⟩
  have go2 : ∀ v, tn.contains m = false -> ADn P l.toArray H ok ok1 tn ln c N K (m + 1) rest (jX (jG s l vs (fun _ => true) m) o.dst v) (ys (cTn tn m)) ->
    (∀ (vs2 : Nat -> AV), vs2 m = v -> jG s l vs2 (fun _ => true) m = jG s l vs (fun _ => true) m -> KnN P H ok ok1 tn ln c N l s vs2 ys m o) ->
    ∃ (vs' : Nat -> AV) (ys' : Nat -> β), (∀ k, k = 0 -> ys' k = ys k) ∧ (∃ s', (∀ t, get (jG s l vs' (fun _ => true) l.length) t = get s' t) ∧ K s' (ys' (cTn tn l.length))) ∧ (∀ k, k <= cTn tn l.length -> ok (ys' k)) ∧ ∀ (i : Nat) (o : Oper), l[i]? = some o -> KnN P H ok ok1 tn ln c N l s vs' ys' i o := by
   intro v hs hd hkn
   have hc := vH tn m
   rw [hs, if_neg (by simp), Nat.add_zero] at hc
   refine ZC htc l rest (m + 1) (fun i => if i = m then v else vs i) ys hr' hlt ?_ (by rw [hc]; exact hok) ?_
   ·simp only [jG, if_true, ho, Option.bind_some]
    rw [e v m (Nat.le_refl _), hc]; exact hd
   ·intro i o' hi ho'
    by_cases him : i = m
    ·subst him
     rw [ho] at ho'; cases ho'
     exact hkn _ (by simp) (e v i (Nat.le_refl _))
    ·have := hk i o' (by omega) ho'
     unfold KnN at this ⊢
     simp only [e v i (by omega), if_neg him]
     exact this
  rcases hd with ⟨hg, hm, hs, x', v, hx', hx1, hq, htu, hd⟩ | ⟨hg, hm, v, htn, hd⟩ | ⟨hg, hm, hs, v, hq, hv, hd⟩ | ⟨hg, hm, hs, hd⟩
  ·exact go1 v x' hs hx' hd fun vs2 ys2 e1 e2 e3 e4 => .inl ⟨by rw [e2]; exact hg, hm, hs, by rw [e1]; exact hq, by rw [e4]; exact hx1, by rw [e1, e2, e3, e4]; exact htu⟩
  ·exact go2 v (by rw [hm]; exact htc) hd fun vs2 e1 e2 => .inr (.inl ⟨by rw [e2]; exact hg, hm, by rw [e1, e2]; exact htn⟩)
  ·exact go2 v hs hd fun vs2 e1 e2 => .inr (.inr (.inl ⟨by rw [e2]; exact hg, hm, hs, by rw [e1]; exact hq, by rw [e1, e2]; exact hv⟩))
  ·exact go2 (.tup []) hs hd fun vs2 e1 e2 => .inr (.inr (.inr ⟨by rw [e2]; exact hg, hm, e1, hs⟩))
theorem XS (L : Nat -> Bool) : ∀ N, (∀ j, j < N -> tn.contains j = true -> L j = false) ∨ ∃ j, j < N ∧ tn.contains j = true ∧ L j = true ∧ ∀ i, j < i -> i < N -> tn.contains i = true -> L i = false
 | 0 => .inl fun j hj => by omega
 | N + 1 => by
  by_cases h : tn.contains N = true ∧ L N = true
  ·exact .inr ⟨N, by omega, h.1, h.2, fun i h1 h2 => by omega⟩
  ·have hN : tn.contains N = true -> L N = false := fun h1 => by cases hL : L N with
    | false => rfl
    | true => exact absurd ⟨h1, hL⟩ h
   rcases XS L N with h1 | ⟨j, h1, h2, h3, h4⟩
   ·refine .inl fun j hj ht => ?_
    by_cases e : j = N
    ·subst e; exact hN ht
    ·exact h1 j (by omega) ht
   ·refine .inr ⟨j, by omega, h2, h3, fun i hi hi2 ht => ?_⟩
    by_cases e : i = N
    ·subst e; exact hN ht
    ·exact h4 i hi (by omega) ht
theorem j1C {id : Nat} {l : List Oper} {x0 : β} (hm : P.follows .mixedOrders = true) (hok : wy n l = true) (hst : tuQ tn ln l = true) (hx0 : ok x0) (hx1 : ok1 x0) (hfr : ∀ t, jg N (get s t) = false) (htc : tn.contains c = false) (hcl0 : c < l.length) (hk : ADn P l.toArray H ok ok1 tn ln c N (fun s' x => Q .normal s' (H x true)) 0 l s x0) : AWp P n (.region id l.toArray true) Q s (H x0 false) := by
 intro E σ0 ι0 a w hr ht
 obtain ⟨vs, ys, hy0, ⟨sF, hF, hQ⟩, hoky, hkn⟩ := ZC (s := s) (c := c) (N := N) htc l l 0 (fun _ => .undef) (fun _ => x0) rfl (Nat.zero_le _) hk (fun _ _ => hx0) (fun i o hi => absurd hi (by omega))
 have hy0 := hy0 0 rfl
 refine wpIn_region_any hm ?_
 have hr' : Rel E σ0 ι0 (H (ys 0) false) { w with drawn := w.drawn + 1 } := by rw [hy0]; exact ⟨hr.os, hr.tape, hr.output, hr.size, hr.old, hr.sigOld, hr.sub, hr.ch, hr.foot, hr.dj, hr.pin, hr.low, hr.xo⟩
 have key : ∀ (fuel : Nat) (listed : Array Bool) (σ : Sig) (ι : Nat -> Value) (a : Act) (w : World), listed.size = l.length ->
   (∀ j o, l[j]? = some o -> listed.getD j false = true -> ∀ e ∈ o.after.toList, Region.binds .any e = true -> listed.getD e.on false = true) ->
   (List.range l.length).countP (fun j => !listed.getD j false) <= fuel ->
   Rel E σ ι (H (ys (cLn tn l.length (fun j => listed.getD j false))) (listed.getD c false)) w -> TR n σ ι (jG s l vs (fun j => listed.getD j false) l.length) a ->
   wpAnyIn (qd n.ro) 0 P .any l.toArray (fun e a' w' => ∃ s' h' σ' ι', Q e s' h' ∧ Rel E σ' ι' h' w' ∧ TR n σ' ι' s' a') fuel listed a w := by
  have done : ∀ (listed : Array Bool) (σ : Sig) (ι : Nat -> Value) (a : Act) (w : World), listed.size = l.length ->
    Region.ready .any l.toArray listed = [] -> Rel E σ ι (H (ys (cLn tn l.length (fun j => listed.getD j false))) (listed.getD c false)) w -> TR n σ ι (jG s l vs (fun j => listed.getD j false) l.length) a -> ∃ s' h' σ' ι', Q .normal s' h' ∧ Rel E σ' ι' h' w ∧ TR n σ' ι' s' a := by
   intro listed σ ι a w hsz hready hr ht
   have hall : ∀ m j, j < m -> j < l.length -> listed.getD j false = true := by
    intro m
    induction m with
    | zero => intro j hj; omega
    | succ m ih =>
     intro j hj hlen
     by_cases hlt : j < m
     ·exact ih j hlt hlen
     obtain rfl : j = m := by omega
     cases hl : listed.getD j false with
     | true => rfl
     | false =>
      exfalso
      have : j ∈ Region.ready .any l.toArray listed := by
       unfold Region.ready
       refine List.mem_filter.2 ⟨by simpa using hlen, ?_⟩
       have ho : l[j]? = some l[j] := List.getElem?_eq_getElem hlen
       have hj' : listed.getD j true = false := by
        have hb : j < listed.size := by omega
        simpa [Array.getD, hb] using hl
       simp only [hj', Bool.not_false, Bool.true_and, List.getElem?_toArray, ho, Option.map_some, Option.getD_some]
       rw [<- Array.all_toList]
       refine List.all_eq_true.2 fun e he => ?_
       cases hb : Region.binds .any e with
       | false => simp
       | true =>
        have h3 := (qi hok ho).2.2.2.1 e he hb
        rw [ih e.on h3 (by omega)]; simp
      rw [hready] at this; cases this
   have hcl : cLn tn l.length (fun j => listed.getD j false) = cTn tn l.length := wt (Nat.le_refl _) (fun j hj _ => hall _ j hj hj) (fun j hj hj2 => by omega)
   rw [hcl, hall _ c hcl0 hcl0] at hr
   refine ⟨_, _, σ, ι, hQ, hr, ?_⟩
   refine ⟨ht.size, ht.defers, fun t => ?_⟩
   have := ht.at_ t
   rwa [qW (M := fun _ => true) l.length fun j hj _ => hall _ j hj hj, hF] at this
  intro fuel
  induction fuel with
  | zero =>
   intro listed σ ι a w hsz _ hc hr ht
   have hready : Region.ready .any l.toArray listed = [] := by
    rw [List.eq_nil_iff_forall_not_mem]
    intro j hj
    obtain ⟨h1, h2⟩ := List.mem_filter.1 hj
    have h1' : j < l.length := by simpa using h1
    have hb : j < listed.size := by omega
    have h3 : listed.getD j false = false := by
     have := (Bool.and_eq_true _ _ ▸ h2).1
     simpa [Array.getD, hb] using this
    have : 0 < (List.range l.length).countP (fun j => !listed.getD j false) := List.countP_pos_iff.2 ⟨j, List.mem_range.2 h1', by simp [h3]⟩
    omega
   exact ⟨hready, done listed σ ι a w hsz hready hr ht⟩
  | succ fuel ih =>
   intro listed σ ι a w hsz hdown hc hr ht
   refine ⟨fun hready => done listed σ ι a w hsz hready hr ht, fun i hi => ?_⟩
   obtain ⟨h1, h2⟩ := List.mem_filter.1 hi
   have hil : i < l.length := by simpa using h1
   have hb : i < listed.size := by omega
   have ho : l[i]? = some l[i] := List.getElem?_eq_getElem hil
   have h2' := Bool.and_eq_true _ _ ▸ h2
   have hif : listed.getD i false = false := by
    have := h2'.1
    simpa [Array.getD, hb] using this
   have hafter : ∀ e ∈ l[i].after.toList, Region.binds .any e = true -> listed.getD e.on false = true := by
    have h3 := h2'.2
    simp only [List.getElem?_toArray, ho, Option.map_some, Option.getD_some] at h3
    rw [<- Array.all_toList] at h3
    intro e he hbe
    have := List.all_eq_true.1 h3 e he
    simpa [hbe] using this
   have hopsA : ∀ j o, l.toArray[j]? = some o ↔ l[j]? = some o := fun j o => by rw [List.getElem?_toArray]
   obtain ⟨c0, c1, c2, c3, c4, c5⟩ := qi hok ho
   -- ahead of this one
   have hL' : ∀ x, (listed.setIfInBounds i true).getD x false = (listed.getD x false || x == i) := fun x => by
    by_cases hx : x = i
    ·subst hx; simp [Array.getD, hb]
    ·have : ¬ i = x := fun e => hx e.symm
     simp [Array.getD_eq_getD_getElem?, Array.getElem?_setIfInBounds, this, hx]
   have hdown' : ∀ j o, l[j]? = some o -> (listed.setIfInBounds i true).getD j false = true -> ∀ e ∈ o.after.toList, Region.binds .any e = true -> (listed.setIfInBounds i true).getD e.on false = true := by
    intro j o hjo hj e he hbe
    rw [hL'] at hj ⊢
    rcases (Bool.or_eq_true _ _).mp hj with hj | hj
    ·rw [hdown j o hjo hj e he hbe]; rfl
    ·have : j = i := by simpa using hj
     subst this
     rw [ho] at hjo; cases hjo
     rw [hafter e he hbe]; rfl
   have hbef' := qG (ops := l.toArray) (L := fun j => (listed.setIfInBounds i true).getD j false) (fun j o hjo => hdown' j o ((hopsA j o).1 hjo))
   have hbef := qG (ops := l.toArray) (L := fun j => listed.getD j false) (fun j o hjo => hdown j o ((hopsA j o).1 hjo))
   have hlow : ∀ x, x ≠ i -> ((Region.before l.toArray).getD i 0).testBit x = true -> listed.getD x false = true := by
    intro x hx hbit
    have := hbef' i x (by simp [hL']) hbit
    simp only [hL'] at this
    rcases (Bool.or_eq_true _ _).mp this with h | h
    ·exact h
    ·exact absurd (by simpa using h) hx
   -- a slot that it names: those that write it ahead of it, in the text, have come up; the others have not
   have hside : ∀ t, (t ∈ qZ l.toArray l[i] ∨ l[i].dst = some t) -> ∀ j, j < l.length -> (l[j]?).bind (·.dst) = some t -> j ≠ i -> listed.getD j false = decide (j < i) := by
    intro t htm j hj hjd hne
    have hd : jz l.toArray j = some t := by simpa [jz] using hjd
    have hbit := c5 j t hj hne hd htm
    by_cases hlt : j < i
    ·rw [Nat.max_eq_right (by omega), Nat.min_eq_left (by omega)] at hbit
     rw [hlow j hne hbit]; simp [hlt]
    ·have hgt : i < j := by omega
     rw [Nat.max_eq_left (by omega), Nat.min_eq_right (by omega)] at hbit
     simp only [hlt, decide_false]
     cases hc : listed.getD j false with
     | false => rfl
     | true => have := hbef j i hc hbit; simp only [hif] at this; cases this
   have j9 : ∀ t, (t ∈ qZ l.toArray l[i] ∨ l[i].dst = some t) -> get (jG s l vs (fun j => listed.getD j false) l.length) t = get (jG s l vs (fun _ => true) i) t := by
    intro t htm
    rw [qJ (i := i) l.length (by omega) fun j h3 h4 hjd => ?_]
    ·exact qW i fun j h3 hjd => by rw [hside t htm j (by omega) hjd (by omega)]; simp [h3]
    ·by_cases hji : j = i
     ·subst hji; exact hif
     ·rw [hside t htm j h4 hjd hji]; simp; omega
   have hcount : (List.range l.length).countP (fun j => !(listed.setIfInBounds i true).getD j false) <= fuel := by
    have hlt : (List.range l.length).countP (fun j => !(listed.setIfInBounds i true).getD j false) < (List.range l.length).countP (fun j => !listed.getD j false) := by
     have hsplit : List.range l.length = List.range i ++ i :: (List.range' (i + 1) (l.length - (i + 1))) := by
      obtain ⟨m, hm⟩ : ∃ m, l.length = i + (m + 1) := ⟨l.length - (i + 1), by omega⟩
      rw [hm, show i + (m + 1) - (i + 1) = m by omega, List.range_eq_range', List.range_eq_range', <- List.range'_append_1, List.range'_succ]
      simp
     rw [hsplit, List.countP_append, List.countP_append, List.countP_cons, List.countP_cons]
     have e1 : (List.range i).countP (fun j => !(listed.setIfInBounds i true).getD j false) = (List.range i).countP (fun j => !listed.getD j false) := List.countP_congr fun x hx => by
      rw [hL']; have := List.mem_range.1 hx; simp [show x ≠ i by omega]
     have e2 : (List.range' (i + 1) (l.length - (i + 1))).countP (fun j => !(listed.setIfInBounds i true).getD j false) = (List.range' (i + 1) (l.length - (i + 1))).countP (fun j => !listed.getD j false) := List.countP_congr fun x hx => by
      rw [hL']; have := (List.mem_range'_1.1 hx).1; simp [show x ≠ i by omega]
     rw [e1, e2, hL']
     simp [hif]
    omega
   have hcL' : cLn tn l.length (fun j => (listed.setIfInBounds i true).getD j false) = cLn tn l.length (fun j => listed.getD j false) + (if tn.contains i then 1 else 0) := by
    have hsplit : List.range l.length = List.range i ++ i :: (List.range' (i + 1) (l.length - (i + 1))) := by
     obtain ⟨m, hm⟩ : ∃ m, l.length = i + (m + 1) := ⟨l.length - (i + 1), by omega⟩
     rw [hm, show i + (m + 1) - (i + 1) = m by omega, List.range_eq_range', List.range_eq_range', <- List.range'_append_1, List.range'_succ]
     simp
    unfold cLn
    rw [hsplit, List.countP_append, List.countP_append, List.countP_cons, List.countP_cons]
    have e1 : (List.range i).countP (fun j => (listed.setIfInBounds i true).getD j false && tn.contains j) = (List.range i).countP (fun j => listed.getD j false && tn.contains j) := List.countP_congr fun x hx => by
     rw [hL']; have := List.mem_range.1 hx; simp [show x ≠ i by omega]
    have e2 : (List.range' (i + 1) (l.length - (i + 1))).countP (fun j => (listed.setIfInBounds i true).getD j false && tn.contains j) = (List.range' (i + 1) (l.length - (i + 1))).countP (fun j => listed.getD j false && tn.contains j) := List.countP_congr fun x hx => by
     rw [hL']; have := (List.mem_range'_1.1 hx).1; simp [show x ≠ i by omega]
    rw [e1, e2]
    simp only [hL', hif, BEq.rfl, Bool.or_true, Bool.true_and, Bool.false_and]
    cases tn.contains i <;> simp <;> omega
   have finN : ∀ σ' ι' w' u, TR n σ' ι' (jG s l vs (fun j => listed.getD j false) l.length) a -> Rel E σ' ι' (H (ys (cLn tn l.length (fun j => (listed.setIfInBounds i true).getD j false))) ((listed.setIfInBounds i true).getD c false)) w' -> VR σ' ι' (vs i) u ->
     wpAnyIn (qd n.ro) 0 P .any l.toArray (fun e a' w' => ∃ s' h' σ' ι', Q e s' h' ∧ Rel E σ' ι' h' w' ∧ TR n σ' ι' s' a') fuel (listed.setIfInBounds i true) (a.put l[i].dst u) w' := by
    intro σ' ι' w' u hle hr'' hv
    refine ih _ σ' ι' _ w' (by simpa using hsz) hdown' hcount hr'' ?_
    have hp : TR n σ' ι' (jX (jG s l vs (fun j => listed.getD j false) l.length) l[i].dst (vs i)) (a.put l[i].dst u) := hle.putS c2 hv
    refine ⟨hp.size, hp.defers, fun t => ?_⟩
    have h3 := hp.at_ t
    rw [jx] at h3
    by_cases hdt : l[i].dst = some t
    ·rw [if_pos hdt] at h3
     have : get (jG s l vs (fun j => (listed.setIfInBounds i true).getD j false) l.length) t = vs i := by
      rw [qJ (i := i + 1) l.length (by omega) fun j h4 h5 hjd => ?_]
      ·simp only [jG, hL', hif, BEq.rfl, Bool.or_true, if_true, jx, ho, Option.bind_some, if_pos hdt]
      ·rw [hL', hside t (.inr hdt) j h5 hjd (by omega)]; simp; omega
     rw [this]; exact h3
    ·rw [if_neg hdt] at h3
     have : get (jG s l vs (fun j => (listed.setIfInBounds i true).getD j false) l.length) t = get (jG s l vs (fun j => listed.getD j false) l.length) t :=
      qW _ fun j h4 hjd => by
       rw [hL']
       have : j ≠ i := fun e => by subst e; rw [ho] at hjd; exact hdt (by simpa using hjd)
       simp [this]
     rw [this]; exact h3
   have fin := fun σ' ι' w' u (hle : ∀ (n : Md) (s : j6) (a : Act), TR n σ ι s a -> TR n σ' ι' s a) => finN σ' ι' w' u (hle _ _ _ ht)
   unfold wpOpIn
   simp only [List.getElem?_toArray, ho]
   have hopnd : ∀ x ∈ l[i].op.operands.toList, VR σ ι (evA (jG s l vs (fun _ => true) i) x) (a.eval x) := by
    intro x hx
    refine jZ (List.all_eq_true.1 c1 x hx) fun t htx => ?_
    have htm : t ∈ qZ l.toArray l[i] := List.mem_append_left _ (List.mem_filterMap.2 ⟨x, hx, by rw [htx]⟩)
    have := ht.at_ t
    rwa [j9 t (.inl htm)] at this
   have hkn' := hkn i _ ho
   have hdn : ∀ j want d, l[i].guard = some (j, want) -> jz l.toArray j = some d -> d < n.n := fun j want d hg hd => by
    have hj : ∃ oj, l[j]? = some oj ∧ oj.dst = some d := by
     unfold jz at hd
     cases hjo : l[j]? with
     | none => simp [hjo] at hd
     | some oj => exact ⟨oj, rfl, by simpa [hjo] using hd⟩
    obtain ⟨oj, hjo, hjd⟩ := hj
    have := (qi hok hjo).2.2.1
    rw [hjd] at this
    simpa [qj] using this
   have hdt : ∀ j want d, l[i].guard = some (j, want) -> jz l.toArray j = some d -> d ∈ qZ l.toArray l[i] := fun j want d hg hd => List.mem_append_right _ (by rw [hg]; simp [hd])
   have hwant : GoG l.toArray (jG s l vs (fun _ => true) i) l[i] -> Region.wanted l[i] (yielded l.toArray a.tmps) = true := by
    rintro (hg | ⟨j, want, d, hg, hd, hb'⟩)
    ·simp [Region.wanted, hg]
    ·have hv := ht.at_ d
     rw [j9 d (.inl (hdt j want d hg hd)), hb'] at hv
     rw [vU hg hd (by rw [ht.size]; exact hdn j want d hg hd) hv]
     simp
   have hskip : SkG l.toArray (jG s l vs (fun _ => true) i) l[i] -> Region.wanted l[i] (yielded l.toArray a.tmps) = false := by
    rintro ⟨j, want, d, hg, hd, hb'⟩
    have hv := ht.at_ d
    rcases hb' with hb' | hb'
    ·rw [j9 d (.inl (hdt j want d hg hd)), hb'] at hv
     rw [vU hg hd (by rw [ht.size]; exact hdn j want d hg hd) hv]
     cases want <;> rfl
    ·rw [j9 d (.inl (hdt j want d hg hd)), hb'] at hv
     exact wB hg hd (by rw [ht.size]; exact hdn j want d hg hd) hv.tup0_inv
   -- an operation that touches what is turned: those in the text ahead of it have come up, the others have not
   have hstage : tn.contains i = true ∨ ln.contains i = true -> cLn tn l.length (fun j => listed.getD j false) = cTn tn i := fun hmem => by
    refine wt (by omega) (fun j hj hs => ?_) fun j hj hjl hs => ?_
    ·refine hlow j (by omega) (xy hst hj hil ?_)
     rcases hmem with hmem | hmem <;> simp only [hs, hmem, Bool.true_or, Bool.or_true, Bool.true_and, Bool.and_true]
    ·by_cases hji : j = i
     ·subst hji; exact hif
     ·have hbit := xy hst (show i < j by omega) hjl (by rcases hmem with hmem | hmem <;> simp only [hs, hmem, Bool.true_or, Bool.or_true, Bool.true_and, Bool.and_true])
      cases hc : listed.getD j false with
      | false => rfl
      | true => have := hbef j i hc hbit; simp only [hif] at this; cases this
   -- nothing that has come up names what is new
   have hfresh : i = c -> ∀ k, k <= l.length -> ∀ t, jg N (get (jG s l vs (fun j => listed.getD j false) k) t) = false := by
    intro hic
    refine JV hfr fun k hk hLk => ?_
    have hne : k ≠ i := fun e => by simp only [e, hif] at hLk; cases hLk
    have hkk := hkn k _ (List.getElem?_eq_getElem hk)
    have hq : nQ l.toArray c N k (vs k) = true ∨ vs k = .tup [] := by
     unfold KnN at hkk
     rcases hkk with ⟨_, _, _, hq, _, _⟩ | ⟨_, e, _⟩ | ⟨_, _, _, hq, _⟩ | ⟨_, _, hq, _⟩
     ·exact .inl hq
     ·exact absurd (e.trans hic.symm) hne
     ·exact .inl hq
     ·exact .inr hq
    rcases hq with hq | hq
    ·rw [nQ, show Nat.beq k c = false from Bool.eq_false_iff.2 (fun e => hne (by rw [hic]; exact Nat.eq_of_beq_eq_true e)), Bool.false_or] at hq
     rcases (Bool.or_eq_true _ _).mp hq with hq | hq
     ·simpa using hq
     ·have := hbef k c hLk hq
      simp only [<- hic, hif] at this; cases this
    ·rw [hq]; rfl
   have hLc : i ≠ c -> (listed.setIfInBounds i true).getD c false = listed.getD c false := fun hne => by
    rw [hL', show (c == i) = false from by simp; exact fun e => hne e.symm, Bool.or_false]
   have hfO : i ≠ c -> fO l.toArray c i (listed.getD c false) = true := fun hne => by
    rw [fO]
    by_cases hci : c < i
    ·rw [show Nat.blt c i = true by simp only [Nat.blt_eq]; exact hci, cond_true]
     cases hL : listed.getD c false with
     | true => rfl
     | false =>
      cases hb2 : ((Region.before l.toArray).getD i 0).testBit c with
      | false => rfl
      | true => have := hlow c (by omega) hb2; rw [hL] at this; cases this
    ·rw [show Nat.blt c i = false from Bool.eq_false_iff.2 (fun e => by rw [Nat.blt_eq] at e; omega), cond_false]
     cases hL : listed.getD c false with
     | false => rfl
     | true =>
      cases hb2 : ((Region.before l.toArray).getD c 0).testBit i with
      | false => rfl
      | true => have := hbef c i hL hb2; simp only [hif] at this; cases this
   unfold KnN at hkn'
   rcases hkn' with ⟨hg, hic, hs, _, _, hS⟩ | ⟨hg, hic, hSN⟩ | ⟨hg, hic, hs, _, hO⟩ | ⟨hg, hic, hv0, hy⟩
   ·rw [if_pos (hwant hg)]
    refine Je c0 ?_
    have hc := hstage (.inl hs)
    rw [hc] at hr
    refine hS _ (hfO hic) E σ ι a w hr hopnd _ _ fun σ' ι' w' u h2 h3 h4 h5 => fin σ' ι' w' u h3 ?_ h5
    rw [hcL', hs, if_pos rfl, hc, hLc hic]; exact h4
   ·have hs : tn.contains i = false := by rw [hic]; exact htc
    have hc2 : cLn tn l.length (fun j => (listed.setIfInBounds i true).getD j false) = cLn tn l.length (fun j => listed.getD j false) := by rw [hcL', hs]; simp
    rw [if_pos (hwant hg)]
    refine Je c0 ?_
    have hok1 : ok1 (ys (cLn tn l.length (fun j => listed.getD j false))) := by
     rcases XS (tn := tn) (fun j => listed.getD j false) l.length with h6 | ⟨j, h6, h7, h8, h9⟩
     ·rw [wt (i := 0) (Nat.zero_le _) (fun j hj => by omega) (fun j _ hj ht => h6 j hj ht)]
      show ok1 (ys 0)
      rw [hy0]; exact hx1
     ·rw [wt (i := j + 1) (by omega) (fun k hk ht => ?_) (fun k hk hkl ht => h9 k (by omega) hkl ht)]
      ·rw [vH, h7, if_pos rfl]
       have hkk := hkn j _ (List.getElem?_eq_getElem h6)
       unfold KnN at hkk
       rcases hkk with ⟨_, _, _, _, hq1, _⟩ | ⟨_, e, _⟩ | ⟨_, _, e, _⟩ | ⟨_, _, _, e⟩
       ·refine hq1 ?_
        rw [fO]
        cases hcj : Nat.blt c j with
        | false => rfl
        | true =>
         cases hb2 : ((Region.before l.toArray).getD j 0).testBit c with
         | false => rfl
         | true => have := hbef j c h8 hb2; simp only [<- hic, hif] at this; cases this
       ·rw [e, htc] at h7; cases h7
       ·rw [h7] at e; cases e
       ·rw [h7] at e; cases e
      ·by_cases hkj : k = j
       ·subst hkj; exact h8
       ·exact hbef j k h8 (xy hst (by omega) h6 (by simp only [ht, h7, Bool.true_or, Bool.true_and]))
    have hf0 : listed.getD c false = false := by rw [<- hic]; exact hif
    have hf1 : (listed.setIfInBounds i true).getD c false = true := by rw [hL', hic]; simp
    rw [hf0] at hr
    refine hSN _ hok1 E σ ι a w hr hopnd _ _ fun σ' ι' w' u h2 h3 h4 h5 => finN σ' ι' w' u (h3 n _ a (hfresh hic l.length (Nat.le_refl _)) ht) ?_ h5
    rw [hc2, hf1]; exact h4
   ·have hc2 : cLn tn l.length (fun j => (listed.setIfInBounds i true).getD j false) = cLn tn l.length (fun j => listed.getD j false) := by rw [hcL', hs]; simp
    rw [if_pos (hwant hg)]
    refine Je c0 ?_
    rcases hO with ⟨hl, hO⟩ | hO
    ·rw [hstage (.inr hl)] at hr
     exact hO _ (hfO hic) E σ ι a w hr hopnd _ _ fun σ' w' u h3 h4 h5 => fin σ' ι w' u (fun _ _ _ t => t.mono h3) (by rw [hc2, hstage (.inr hl), hLc hic]; exact h4) h5
    ·have hcle : cLn tn l.length (fun j => listed.getD j false) <= cTn tn l.length := by
      refine List.countP_mono_left fun x _ hx => ?_
      exact (Bool.and_eq_true _ _ ▸ hx).2
     exact hO _ _ (hoky _ hcle) E σ ι a w hr hopnd _ _ fun σ' w' u h3 h4 h5 => fin σ' ι w' u (fun _ _ _ t => t.mono h3) (by rw [hc2, hLc hic]; exact h4) h5
   ·rw [if_neg (by rw [hskip hg]; simp)]
    refine ⟨fun _ _ => trivial, fin σ ι w undef (fun _ _ _ t => t) ?_ (by rw [hv0]; exact VR.tup0)⟩
    rw [hLc hic, hcL', hy]; simpa using hr
 have hrep : ∀ j, (Array.replicate l.toArray.size false).getD j false = false := fun j => by
  simp only [Array.getD_eq_getD_getElem?, Array.getElem?_replicate]; split <;> rfl
 have hc0 : cLn tn l.length (fun j => (Array.replicate l.toArray.size false).getD j false) = 0 := by
  unfold cLn; rw [List.countP_eq_zero]; intro j _; simp only [hrep]; simp
 refine key l.toArray.size _ σ0 ι0 a _ (by simp) ?_ ?_ (by rw [hc0, hrep]; exact hr') ?_
 ·intro j o hj hl
  rw [hrep] at hl; cases hl
 ·refine Nat.le_trans List.countP_le_length ?_
  simp
 ·refine ⟨ht.size, ht.defers, fun t => ?_⟩
  have := ht.at_ t
  rw [qJ (i := 0) l.length (Nat.zero_le _) fun j _ _ _ => hrep j]
  exact this

structure NW (P : Program) (ops : Array Oper) (H : β -> Bool -> j8) (ok ok1 : β -> Prop) (tn ln : List Nat) (c N : Nat) (K : j6 -> β -> Prop) (m : Nat) (rest : List Oper) (s : j6) (x : β) : Prop where
 out : ADn P ops H ok ok1 tn ln c N K m rest s x
variable {m : Nat} {x : β}
theorem j5u (hk : K s x) : NW P ops H ok ok1 tn ln c N K m [] s x := ⟨⟨s, fun _ => rfl, hk⟩⟩
theorem j1n {v : AV} (hg : o.guard = none) (hm : Nat.beq m c = false) (ht : tn.contains m = false) (hv : ∀ y f, ok y -> Y P o s (H y f) v) (hq : nQ ops c N m v = true) (hk : NW P ops H ok ok1 tn ln c N K (m + 1) rest (jX s o.dst v) x) : NW P ops H ok ok1 tn ln c N K m (o :: rest) s x :=
 ⟨.inr (.inr (.inl ⟨.inl hg, fun e => by rw [e] at hm; simp at hm, ht, v, hq, .inr fun y f hy => (hv y f hy).out, hk.out⟩))⟩
theorem j70 {v : AV} {x' : β} (hg : o.guard = none) (hm : Nat.beq m c = false) (ht : tn.contains m = true) (hx : ok x') (hx1 : ok1 x') (hv : ∀ f, fO ops c m f = true -> TuO P o s (H x f) (H x' f) v) (hq : nQ ops c N m v = true) (hk : NW P ops H ok ok1 tn ln c N K (m + 1) rest (jX s o.dst v) x') : NW P ops H ok ok1 tn ln c N K m (o :: rest) s x :=
 ⟨.inl ⟨.inl hg, fun e => by rw [e] at hm; simp at hm, ht, x', v, hx, fun _ => hx1, hq, hv, hk.out⟩⟩
theorem j6h {v : AV} {x' : β} (hg : o.guard = none) (hm : Nat.beq m c = false) (ht : tn.contains m = true) (hx : ok x') (hf : fO ops c m false = false) (hv : TuO P o s (H x true) (H x' true) v) (hq : nQ ops c N m v = true) (hk : NW P ops H ok ok1 tn ln c N K (m + 1) rest (jX s o.dst v) x') : NW P ops H ok ok1 tn ln c N K m (o :: rest) s x :=
 ⟨.inl ⟨.inl hg, fun e => by rw [e] at hm; simp at hm, ht, x', v, hx, (fun h => by rw [hf] at h; cases h), hq, (fun f h => by cases f; (rw [hf] at h; cases h); exact hv), hk.out⟩⟩
theorem j6T {v : AV} (hg : o.guard = none) (hm : Nat.beq m c = true) (hv : ∀ y, ok1 y -> TuN P N o s (H y false) (H y true) v) (hk : NW P ops H ok ok1 tn ln c N K (m + 1) rest (jX s o.dst v) x) : NW P ops H ok ok1 tn ln c N K m (o :: rest) s x :=
 ⟨.inr (.inl ⟨.inl hg, Nat.eq_of_beq_eq_true hm, v, hv, hk.out⟩)⟩
theorem TR.updN {n : Md} {σ : Sig} {ι : Nat -> Value} {s : j6} {a : Act} (ht : TR n σ ι s a) {id : Nat} (h5 : 5 <= id) (hf : ∀ t, jg id (get s t) = false) (u : Value) : TR n σ (YtfjoaeghnfkdlaaGreatDoor.upd ι id u) s a :=
 ⟨ht.size, ⟨ht.defers.1, fun p hp => let ⟨h1, h2⟩ := ht.defers.2 p hp; ⟨h1, by rw [jW (by omega)]; exact h2⟩⟩, fun t => (ht.at_ t).upd (hf t)⟩
theorem j3i {t : TypeId} {id : Nat} {cs : List AV} (ho : o.op = .alloc t) (hz : wQ P t = some cs) (h5 : Nat.ble 5 id = true) (hf : vo id h = true) (hi : vD id cs = false) : TuN P id o s h ((id, .blk t cs) :: h) (.ptr id 0) := fun E σ ι a w hr hv K Q hK => by
 obtain ⟨i, z, h1, h2, h3⟩ := vI hz
 unfold Oper.wp
 have hrun : (execOp a.eval o).run P w = .ok (.value (.pointer (some ⟨w.heap.size, 0, none⟩))) (w.alloc (.cells z.cells t)) := by
  simp [execOp, ho, Instr.alloc, zeroValue, typeInfo, h1, h2, newVar, newRow]
 rw [hrun]
 have hnew := hr.newBlk hf (Nat.ble_eq ▸ h5) (cs := cs) (vs := z.cells.toList) ((h3 σ).mono fun _ _ h => .base _ _ h) hi t
 rw [Array.toArray_toList] at hnew
 exact hK σ _ _ _ (Sig.le.refl σ) (fun n s a hf t => t.updN (Nat.ble_eq ▸ h5) hf _) hnew (.ptr id 0 w.heap.size (by rw [jM]; rfl))
theorem TuN.post {N : Nat} {h' h'' : j8} {v : AV} (ht : TuN P N o s h h' v) (hh : LeH h' h'') : TuN P N o s h h'' v := fun E σ ι a w hr hv K Q hK =>
 ht E σ ι a w hr hv K Q fun σ' ι' w' u k1 k2 k3 k4 => hK σ' ι' w' u k1 k2 (k3.le hh) k4
theorem j62 {id : Nat} {l : List Oper} (H : β -> Bool -> j8) (ok ok1 : β -> Prop) (tn ln : List Nat) (c N : Nat) (x0 : β) (hh : LeH h (H x0 false)) (hm : P.follows .mixedOrders = true) (hok : wy n l = true) (hst : tuQ tn ln l = true) (hx0 : ok x0) (hx1 : ok1 x0) (hfr : zC N s = true) (htc : tn.contains c = false) (hcl : Nat.blt c l.length = true) (hk : NW P l.toArray H ok ok1 tn ln c N (fun s' x => Q .normal s' (H x true)) 0 l s x0) : W P n (.region id l.toArray true) Q s h :=
 wle (LeS.refl s) hh ⟨j1C hm hok hst hx0 hx1 (xc hfr) htc (by simpa [Nat.blt_eq] using hcl) hk.out⟩
end
end Go.Proofs.YtfjoaeghnfkdlaaGreatDoor
