/- Regions in whatever order that store into rows of the call's own: each store and each load ahead of or behind each other store. No condition. -/
import Derived.Test.YtkkmageogkkchaaGreatT6
set_option linter.unusedSimpArgs false
set_option linter.unusedVariables false
set_option maxHeartbeats 1000000
namespace Go.Proofs.YtkkmageogkkchaaGreat
set_option maxRecDepth 100000
open Go.RowKit
section
variable {P : Program} {n : Md} {Q : Exit → Slots → Heap → Prop} {s : Slots} {h : Heap} {ops : Array Oper} {rest : List Oper} {o : Oper}
def isSt (o : Oper) : Bool := match o.op with | .store _ _ _ => true | _ => false
def isLd (o : Oper) : Bool := match o.op with | .load _ _ => true | _ => false
def StO (P : Program) (o : Oper) (s : Slots) (h h' : Heap) : Prop :=
  ∀ (E : Env) (σ : Sig) (ι : Nat → Value) (a : Act) (w : World), Rel E σ ι h w → (∀ y ∈ o.op.operands.toList, VR σ ι (evA s y) (a.eval y)) → ∃ w', (execOp a.eval o).run P w = .ok .skip w' ∧ Rel E σ ι h' w'
variable {β : Type} {H : β → Heap} {ok : β → Prop} {K : Slots → β → Prop}
def ADs (P : Program) (H : β → Heap) (ok : β → Prop) (K : Slots → β → Prop) : List Oper → Slots → β → Prop
  | [], s, x => ∃ s', (∀ t, get s t = get s' t) ∧ K s' x
  | o :: rest, s, x => (isSt o = true ∧ ∃ x', ok x' ∧ StO P o s (H x) (H x') ∧ ADs P H ok K rest s x') ∨
      (isSt o = false ∧ ∃ v, ((isLd o = true ∧ OkO P o s (H x) v) ∨ ∀ y, ok y → OkO P o s (H y) v) ∧ ADs P H ok K rest (putS s o.dst v) x)
def cSt (l : List Oper) (i : Nat) : Nat := (l.take i).countP isSt
theorem cSt_mono (l : List Oper) {i j : Nat} (h : i ≤ j) : cSt l i ≤ cSt l j := by
  obtain ⟨d, rfl⟩ := Nat.exists_eq_add_of_le h
  rw [cSt, cSt, List.take_add, List.countP_append]; omega
theorem cSt_succ {l : List Oper} {i : Nat} {o : Oper} (ho : l[i]? = some o) : cSt l (i + 1) = cSt l i + (if isSt o then 1 else 0) := by
  obtain ⟨hi, rfl⟩ := List.getElem?_eq_some_iff.1 ho
  rw [cSt, List.take_succ_eq_append_getElem hi, List.countP_append]; simp [cSt, List.countP_cons]
def KnS (P : Program) (H : β → Heap) (ok : β → Prop) (l : List Oper) (s : Slots) (vs : Nat → AV) (ys : Nat → β) (i : Nat) (o : Oper) : Prop :=
  (isSt o = true ∧ StO P o (stOf s l vs (fun _ => true) i) (H (ys (cSt l i))) (H (ys (cSt l i + 1)))) ∨
  (isSt o = false ∧ ((isLd o = true ∧ OkO P o (stOf s l vs (fun _ => true) i) (H (ys (cSt l i))) (vs i)) ∨ ∀ y, ok y → OkO P o (stOf s l vs (fun _ => true) i) (H y) (vs i)))
theorem knownS (l : List Oper) (hdst : ∀ (i : Nat) (o : Oper), l[i]? = some o → isSt o = true → o.dst = none) : ∀ (rest : List Oper) (m : Nat) (vs : Nat → AV) (ys : Nat → β), l.drop m = rest → m ≤ l.length → ADs P H ok K rest (stOf s l vs (fun _ => true) m) (ys (cSt l m)) →
    (∀ k, k ≤ cSt l m → ok (ys k)) → (∀ (i : Nat) (o : Oper), i < m → l[i]? = some o → KnS P H ok l s vs ys i o) →
    ∃ (vs' : Nat → AV) (ys' : Nat → β), (∀ k, k = 0 → ys' k = ys k) ∧ (∃ s', (∀ t, get (stOf s l vs' (fun _ => true) l.length) t = get s' t) ∧ K s' (ys' (cSt l l.length))) ∧ (∀ k, k ≤ cSt l l.length → ok (ys' k)) ∧ ∀ (i : Nat) (o : Oper), l[i]? = some o → KnS P H ok l s vs' ys' i o
  | [], m, vs, ys, hr, hm, hd, hok, hk => by
    have hm' : m = l.length := by
      have := List.drop_eq_nil_iff.1 hr; omega
    subst hm'
    exact ⟨vs, ys, fun _ _ => rfl, hd, hok, fun i o ho => hk i o (List.getElem?_eq_some_iff.1 ho).1 ho⟩
  | o :: rest, m, vs, ys, hr, hm, hd, hok, hk => by
    have hlt : m < l.length := by
      have : (l.drop m).length = (o :: rest).length := by rw [hr]
      simp at this; omega
    have ho : l[m]? = some o := by
      have : (l.drop m)[0]? = some o := by rw [hr]; rfl
      simpa using this
    have hr' : l.drop (m + 1) = rest := by rw [← List.drop_drop, hr]; rfl
    have hcm : ∀ (i : Nat) (o' : Oper), i < m → l[i]? = some o' → isSt o' = true → cSt l i + 1 ≤ cSt l m := fun i o' hi ho' hs => by
      have h1 := cSt_succ ho'
      rw [hs, if_pos rfl] at h1
      have h2 : cSt l (i + 1) ≤ cSt l m := cSt_mono l hi
      omega
    have hcle : ∀ i, i ≤ m → cSt l i ≤ cSt l m := fun i hi => cSt_mono l hi
    rcases hd with ⟨hs, x', hx', hst, hd⟩ | ⟨hs, v, hv, hd⟩
    · -- a store
      have hc := cSt_succ ho
      rw [hs, if_pos rfl] at hc
      obtain ⟨ys2, hys2⟩ : ∃ ys2 : Nat → β, ys2 = fun k => if k = cSt l m + 1 then x' else ys k := ⟨_, rfl⟩
      have e1 : ∀ k, k ≤ cSt l m → ys2 k = ys k := fun k hk => by rw [hys2]; show (if _ then _ else _) = _; rw [if_neg (by omega)]
      have e2 : ys2 (cSt l m + 1) = x' := by rw [hys2]; show (if _ then _ else _) = _; rw [if_pos rfl]
      obtain ⟨vs', ys', q1, q2, q3, q4⟩ := knownS l hdst rest (m + 1) vs ys2 hr' hlt (by
          simp only [stOf, if_true, ho, Option.bind_some, hdst m o ho hs, putS]
          rw [hc, e2]; exact hd)
        (fun k hk => by
          rw [hc] at hk
          by_cases hke : k = cSt l m + 1
          · rw [hke, e2]; exact hx'
          · rw [e1 k (by omega)]; exact hok k (by omega))
        (fun i o' hi ho' => by
          by_cases him : i = m
          · subst him
            rw [ho] at ho'; cases ho'
            exact .inl ⟨hs, by rw [e1 _ (Nat.le_refl _), e2]; exact hst⟩
          · have := hk i o' (by omega) ho'
            unfold KnS at this ⊢
            rcases this with ⟨h1, h2⟩ | ⟨h1, h2⟩
            · exact .inl ⟨h1, by rw [e1 _ (hcle i (by omega)), e1 _ (hcm i o' (by omega) ho' h1)]; exact h2⟩
            · exact .inr ⟨h1, by rw [e1 _ (hcle i (by omega))]; exact h2⟩)
      exact ⟨vs', ys', fun k hk => (q1 k hk).trans (e1 k (by omega)), q2, q3, q4⟩
    · have hc := cSt_succ ho
      rw [hs, if_neg (by simp), Nat.add_zero] at hc
      have e : ∀ k, k ≤ m → stOf s l (fun i => if i = m then v else vs i) (fun _ => true) k = stOf s l vs (fun _ => true) k := fun k hk => stOf_congr k fun j hj => by
        show (if j = m then v else vs j) = vs j; rw [if_neg (by omega)]
      refine knownS l hdst rest (m + 1) (fun i => if i = m then v else vs i) ys hr' hlt ?_ (by rw [hc]; exact hok) ?_
      · simp only [stOf, if_true, ho, Option.bind_some]
        rw [e m (Nat.le_refl _), hc]; exact hd
      · intro i o' hi ho'
        by_cases him : i = m
        · subst him
          rw [ho] at ho'; cases ho'
          refine .inr ⟨hs, ?_⟩
          rw [e i (Nat.le_refl _)]
          simp only [if_true]
          exact hv
        · have := hk i o' (by omega) ho'
          unfold KnS at this ⊢
          simp only [e i (by omega), if_neg him]
          exact this
def stQ (l : List Oper) : Bool :=
  (l.all fun o => o.guard.isNone && (!isSt o || o.dst.isNone)) && (List.range l.length).all fun j => (List.range j).all fun i => match l[i]?, l[j]? with
    | some p, some q => !((isSt p && (isSt q || isLd q)) || (isSt q && isLd p)) || ((Region.before l.toArray).getD j 0).testBit i
    | _, _ => true
theorem stQ_at {l : List Oper} (hq : stQ l = true) {i j : Nat} {p q : Oper} (hij : i < j) (hp : l[i]? = some p) (hq' : l[j]? = some q) (hm : (isSt p && (isSt q || isLd q)) || (isSt q && isLd p)) : ((Region.before l.toArray).getD j 0).testBit i = true := by
  have hj := (List.getElem?_eq_some_iff.1 hq').1
  unfold stQ at hq
  have h1 := List.all_eq_true.1 (List.all_eq_true.1 (Bool.and_eq_true _ _ ▸ hq).2 j (List.mem_range.2 hj)) i (List.mem_range.2 hij)
  simp only [hp, hq', hm, Bool.not_true, Bool.false_or] at h1
  exact h1
theorem stQ_op {l : List Oper} (hq : stQ l = true) {i : Nat} {o : Oper} (ho : l[i]? = some o) : o.guard = none ∧ (isSt o = true → o.dst = none) := by
  unfold stQ at hq
  have h1 := List.all_eq_true.1 (Bool.and_eq_true _ _ ▸ hq).1 o (List.mem_of_getElem? ho)
  simp only [Bool.and_eq_true, Option.isNone_iff_eq_none, Bool.or_eq_true, Bool.not_eq_true'] at h1
  exact ⟨h1.1, fun hs => by rcases h1.2 with h2 | h2; rw [hs] at h2; cases h2; exact h2⟩
def cL (l : List Oper) (L : Nat → Bool) : Nat := (List.range l.length).countP fun j => L j && ((l[j]?).map isSt).getD false
theorem cL_at {l : List Oper} {L : Nat → Bool} {i : Nat} (hi : i ≤ l.length) (h1 : ∀ (j : Nat) (o : Oper), j < i → l[j]? = some o → isSt o = true → L j = true) (h2 : ∀ (j : Nat) (o : Oper), i ≤ j → l[j]? = some o → isSt o = true → L j = false) : cL l L = cSt l i := by
  have hsplit : List.range l.length = List.range i ++ (List.range' i (l.length - i)) := by
    rw [List.range_eq_range', List.range_eq_range']
    conv => lhs; rw [show l.length = i + (l.length - i) by omega]
    rw [← List.range'_append_1, Nat.zero_add]
  rw [cL, hsplit, List.countP_append]
  have e2 : (List.range' i (l.length - i)).countP (fun j => L j && ((l[j]?).map isSt).getD false) = 0 := by
    rw [List.countP_eq_zero]
    intro j hj
    obtain ⟨h3, h4⟩ := List.mem_range'_1.1 hj
    cases ho : l[j]? with
    | none => simp
    | some o =>
      cases hs : isSt o with
      | true => simp [h2 j o h3 ho hs]
      | false => simp [hs]
  rw [e2, Nat.add_zero]
  have e1 : ∀ k, k ≤ i → (List.range k).countP (fun j => L j && ((l[j]?).map isSt).getD false) = cSt l k := by
    intro k
    induction k with
    | zero => intro _; simp [cSt]
    | succ k ih =>
      intro hk
      have ho : l[k]? = some l[k] := List.getElem?_eq_getElem (by omega)
      rw [List.range_succ, List.countP_append, ih (by omega), cSt_succ ho]
      congr 1
      cases hs : isSt l[k] with
      | true => simp [ho, hs, h1 k _ (by omega) ho hs]
      | false => simp [ho, hs]
  exact e1 i (Nat.le_refl _)
def drawOkS (n : Md) (ops : List Oper) : Bool :=
  let b := Region.before ops.toArray
  (List.range ops.length).all fun j => match ops[j]? with
    | none => true
    | some o => notDefer o && constsOk o && dstOk n o.dst && (o.after.toList.all fun e => !Region.binds .any e || Nat.blt e.on j) && (match o.guard with | some (g, _) => (b.getD j 0).testBit g | none => true) &&
      (List.range ops.length).all fun i => i == j || (match dstAt ops.toArray i with
        | none => true
        | some d => !((tmpsOf ops.toArray o).contains d || o.dst == some d) || (b.getD (max i j) 0).testBit (min i j))
theorem drawOkS_at {n : Md} {l : List Oper} (hok : drawOkS n l = true) {j : Nat} {o : Oper} (ho : l[j]? = some o) :
    notDefer o = true ∧ constsOk o = true ∧ dstOk n o.dst = true ∧ (∀ e ∈ o.after.toList, Region.binds .any e = true → e.on < j) ∧ (∀ g want, o.guard = some (g, want) → ((Region.before l.toArray).getD j 0).testBit g = true) ∧
    ∀ i d, i < l.length → i ≠ j → dstAt l.toArray i = some d → (d ∈ tmpsOf l.toArray o ∨ o.dst = some d) → ((Region.before l.toArray).getD (max i j) 0).testBit (min i j) = true := by
  have hj : j < l.length := (List.getElem?_eq_some_iff.1 ho).1
  unfold drawOkS at hok
  have h1 := List.all_eq_true.1 hok j (List.mem_range.2 hj)
  simp only [ho, Bool.and_eq_true] at h1
  obtain ⟨⟨⟨⟨⟨h1, h2⟩, h3⟩, h4⟩, h5⟩, h6⟩ := h1
  refine ⟨h1, h2, h3, fun e he hb => by have := List.all_eq_true.1 h4 e he; rw [hb] at this; simpa using this, fun g want hg => by rw [hg] at h5; exact h5, fun i d hi hne hd hor => ?_⟩
  have h7 := List.all_eq_true.1 h6 i (List.mem_range.2 hi)
  simp only [hd, Bool.or_eq_true, beq_iff_eq, Bool.not_eq_true'] at h7
  rcases h7 with h7 | h7 | h7
  · exact absurd h7 hne
  · exfalso
    rcases hor with h8 | h8 <;> simp [h8] at h7
  · exact h7
theorem awp_drawS {id : Nat} {l : List Oper} {x0 : β} (hm : P.follows .mixedOrders = true) (hok : drawOkS n l = true) (hst : stQ l = true) (hx0 : ok x0) (hk : ADs P H ok (fun s' x => Q .normal s' (H x)) l s x0) : AWp P n (.region id l.toArray true) Q s (H x0) := by
  intro E σ0 ι a w hr ht
  obtain ⟨vs, ys, hy0, ⟨sF, hF, hQ⟩, hoky, hkn⟩ := knownS (s := s) l (fun i o ho => (stQ_op hst ho).2) l 0 (fun _ => .undef) (fun _ => x0) rfl (Nat.zero_le _) hk (fun _ _ => hx0) (fun i o hi => absurd hi (by omega))
  have hy0 := hy0 0 rfl
  refine wpIn_region_any hm ?_
  have hr' : Rel E σ0 ι (H (ys 0)) { w with drawn := w.drawn + 1 } := by rw [hy0]; exact ⟨hr.os, hr.tape, hr.output, hr.size, hr.old, hr.sigOld, hr.sub, hr.ch, hr.foot, hr.dj, hr.pin, hr.low, hr.xo⟩
  have key : ∀ (fuel : Nat) (listed : Array Bool) (σ : Sig) (a : Act) (w : World), listed.size = l.length →
      (∀ j o, l[j]? = some o → listed.getD j false = true → ∀ e ∈ o.after.toList, Region.binds .any e = true → listed.getD e.on false = true) →
      (List.range l.length).countP (fun j => !listed.getD j false) ≤ fuel →
      Rel E σ ι (H (ys (cL l (fun j => listed.getD j false)))) w → TR n σ ι (stOf s l vs (fun j => listed.getD j false) l.length) a →
      wpAnyIn (wideR n.ro) 0 P .any l.toArray (fun e a' w' => ∃ s' h' σ' ι', Q e s' h' ∧ Rel E σ' ι' h' w' ∧ TR n σ' ι' s' a') fuel listed a w := by
    have done : ∀ (listed : Array Bool) (σ : Sig) (a : Act) (w : World), listed.size = l.length →
        Region.ready .any l.toArray listed = [] → Rel E σ ι (H (ys (cL l (fun j => listed.getD j false)))) w → TR n σ ι (stOf s l vs (fun j => listed.getD j false) l.length) a → ∃ s' h' σ' ι', Q .normal s' h' ∧ Rel E σ' ι' h' w ∧ TR n σ' ι' s' a := by
      intro listed σ a w hsz hready hr ht
      have hall : ∀ m j, j < m → j < l.length → listed.getD j false = true := by
        intro m
        induction m with
        | zero => intro j hj; omega
        | succ m ih =>
          intro j hj hlen
          by_cases hlt : j < m
          · exact ih j hlt hlen
          obtain rfl : j = m := by omega
          cases hl : listed.getD j false with
          | true => rfl
          | false =>
            exfalso
            have : j ∈ Region.ready .any l.toArray listed := by
              unfold Region.ready
              refine List.mem_filter.2 ⟨by simpa using hlen, ?_⟩
              have ho : l[j]? = some l[j] := List.getElem?_eq_getElem hlen
              have hj' : listed.getD j true = false := by
                have hb : j < listed.size := by omega
                simpa [Array.getD, hb] using hl
              simp only [hj', Bool.not_false, Bool.true_and, List.getElem?_toArray, ho, Option.map_some, Option.getD_some]
              rw [← Array.all_toList]
              refine List.all_eq_true.2 fun e he => ?_
              cases hb : Region.binds .any e with
              | false => simp
              | true =>
                have h3 := (drawOkS_at hok ho).2.2.2.1 e he hb
                rw [ih e.on h3 (by omega)]; simp
            rw [hready] at this; cases this
      have hcl : cL l (fun j => listed.getD j false) = cSt l l.length := cL_at (Nat.le_refl _) (fun j o hj ho _ => hall _ j hj hj) (fun j o hj ho => by have := (List.getElem?_eq_some_iff.1 ho).1; omega)
      rw [hcl] at hr
      refine ⟨_, _, σ, ι, hQ, hr, ?_⟩
      refine ⟨ht.size, ht.defers, fun t => ?_⟩
      have := ht.at_ t
      rwa [stOf_low (M := fun _ => true) l.length fun j hj _ => hall _ j hj hj, hF] at this
    intro fuel
    induction fuel with
    | zero =>
      intro listed σ a w hsz _ hc hr ht
      have hready : Region.ready .any l.toArray listed = [] := by
        rw [List.eq_nil_iff_forall_not_mem]
        intro j hj
        obtain ⟨h1, h2⟩ := List.mem_filter.1 hj
        have h1' : j < l.length := by simpa using h1
        have hb : j < listed.size := by omega
        have h3 : listed.getD j false = false := by
          have := (Bool.and_eq_true _ _ ▸ h2).1
          simpa [Array.getD, hb] using this
        have : 0 < (List.range l.length).countP (fun j => !listed.getD j false) := List.countP_pos_iff.2 ⟨j, List.mem_range.2 h1', by simp [h3]⟩
        omega
      exact ⟨hready, done listed σ a w hsz hready hr ht⟩
    | succ fuel ih =>
      intro listed σ a w hsz hdown hc hr ht
      refine ⟨fun hready => done listed σ a w hsz hready hr ht, fun i hi => ?_⟩
      obtain ⟨h1, h2⟩ := List.mem_filter.1 hi
      have hil : i < l.length := by simpa using h1
      have hb : i < listed.size := by omega
      have ho : l[i]? = some l[i] := List.getElem?_eq_getElem hil
      have h2' := Bool.and_eq_true _ _ ▸ h2
      have hif : listed.getD i false = false := by
        have := h2'.1
        simpa [Array.getD, hb] using this
      have hafter : ∀ e ∈ l[i].after.toList, Region.binds .any e = true → listed.getD e.on false = true := by
        have h3 := h2'.2
        simp only [List.getElem?_toArray, ho, Option.map_some, Option.getD_some] at h3
        rw [← Array.all_toList] at h3
        intro e he hbe
        have := List.all_eq_true.1 h3 e he
        simpa [hbe] using this
      have hopsA : ∀ j o, l.toArray[j]? = some o ↔ l[j]? = some o := fun j o => by rw [List.getElem?_toArray]
      obtain ⟨c0, c1, c2, c3, c4, c5⟩ := drawOkS_at hok ho
      -- ahead of this one
      have hL' : ∀ x, (listed.setIfInBounds i true).getD x false = (listed.getD x false || x == i) := fun x => by
        by_cases hx : x = i
        · subst hx; simp [Array.getD, hb]
        · have : ¬ i = x := fun e => hx e.symm
          simp [Array.getD_eq_getD_getElem?, Array.getElem?_setIfInBounds, this, hx]
      have hdown' : ∀ j o, l[j]? = some o → (listed.setIfInBounds i true).getD j false = true → ∀ e ∈ o.after.toList, Region.binds .any e = true → (listed.setIfInBounds i true).getD e.on false = true := by
        intro j o hjo hj e he hbe
        rw [hL'] at hj ⊢
        rcases (Bool.or_eq_true _ _).mp hj with hj | hj
        · rw [hdown j o hjo hj e he hbe]; rfl
        · have : j = i := by simpa using hj
          subst this
          rw [ho] at hjo; cases hjo
          rw [hafter e he hbe]; rfl
      have hbef' := before_listed (ops := l.toArray) (L := fun j => (listed.setIfInBounds i true).getD j false) (fun j o hjo => hdown' j o ((hopsA j o).1 hjo))
      have hbef := before_listed (ops := l.toArray) (L := fun j => listed.getD j false) (fun j o hjo => hdown j o ((hopsA j o).1 hjo))
      have hlow : ∀ x, x ≠ i → ((Region.before l.toArray).getD i 0).testBit x = true → listed.getD x false = true := by
        intro x hx hbit
        have := hbef' i x (by simp [hL']) hbit
        simp only [hL'] at this
        rcases (Bool.or_eq_true _ _).mp this with h | h
        · exact h
        · exact absurd (by simpa using h) hx
      -- a slot that it names: those that write it ahead of it, in the text, have come up; the others have not
      have hside : ∀ t, (t ∈ tmpsOf l.toArray l[i] ∨ l[i].dst = some t) → ∀ j, j < l.length → (l[j]?).bind (·.dst) = some t → j ≠ i → listed.getD j false = decide (j < i) := by
        intro t htm j hj hjd hne
        have hd : dstAt l.toArray j = some t := by simpa [dstAt] using hjd
        have hbit := c5 j t hj hne hd htm
        by_cases hlt : j < i
        · rw [Nat.max_eq_right (by omega), Nat.min_eq_left (by omega)] at hbit
          rw [hlow j hne hbit]; simp [hlt]
        · have hgt : i < j := by omega
          rw [Nat.max_eq_left (by omega), Nat.min_eq_right (by omega)] at hbit
          simp only [hlt, decide_false]
          cases hc : listed.getD j false with
          | false => rfl
          | true => have := hbef j i hc hbit; simp only [hif] at this; cases this
      have hget : ∀ t, (t ∈ tmpsOf l.toArray l[i] ∨ l[i].dst = some t) → get (stOf s l vs (fun j => listed.getD j false) l.length) t = get (stOf s l vs (fun _ => true) i) t := by
        intro t htm
        rw [stOf_high (i := i) l.length (by omega) fun j h3 h4 hjd => ?_]
        · exact stOf_low i fun j h3 hjd => by rw [hside t htm j (by omega) hjd (by omega)]; simp [h3]
        · by_cases hji : j = i
          · subst hji; exact hif
          · rw [hside t htm j h4 hjd hji]; simp; omega
      have hcount : (List.range l.length).countP (fun j => !(listed.setIfInBounds i true).getD j false) ≤ fuel := by
        have hlt : (List.range l.length).countP (fun j => !(listed.setIfInBounds i true).getD j false) < (List.range l.length).countP (fun j => !listed.getD j false) := by
          have hsplit : List.range l.length = List.range i ++ i :: (List.range' (i + 1) (l.length - (i + 1))) := by
            obtain ⟨m, hm⟩ : ∃ m, l.length = i + (m + 1) := ⟨l.length - (i + 1), by omega⟩
            rw [hm, show i + (m + 1) - (i + 1) = m by omega, List.range_eq_range', List.range_eq_range', ← List.range'_append_1, List.range'_succ]
            simp
          rw [hsplit, List.countP_append, List.countP_append, List.countP_cons, List.countP_cons]
          have e1 : (List.range i).countP (fun j => !(listed.setIfInBounds i true).getD j false) = (List.range i).countP (fun j => !listed.getD j false) := List.countP_congr fun x hx => by
            rw [hL']; have := List.mem_range.1 hx; simp [show x ≠ i by omega]
          have e2 : (List.range' (i + 1) (l.length - (i + 1))).countP (fun j => !(listed.setIfInBounds i true).getD j false) = (List.range' (i + 1) (l.length - (i + 1))).countP (fun j => !listed.getD j false) := List.countP_congr fun x hx => by
            rw [hL']; have := (List.mem_range'_1.1 hx).1; simp [show x ≠ i by omega]
          rw [e1, e2, hL']
          simp [hif]
        omega
      have hcL' : cL l (fun j => (listed.setIfInBounds i true).getD j false) = cL l (fun j => listed.getD j false) + (if isSt l[i] then 1 else 0) := by
        have hsplit : List.range l.length = List.range i ++ i :: (List.range' (i + 1) (l.length - (i + 1))) := by
          obtain ⟨m, hm⟩ : ∃ m, l.length = i + (m + 1) := ⟨l.length - (i + 1), by omega⟩
          rw [hm, show i + (m + 1) - (i + 1) = m by omega, List.range_eq_range', List.range_eq_range', ← List.range'_append_1, List.range'_succ]
          simp
        unfold cL
        rw [hsplit, List.countP_append, List.countP_append, List.countP_cons, List.countP_cons]
        have e1 : (List.range i).countP (fun j => (listed.setIfInBounds i true).getD j false && ((l[j]?).map isSt).getD false) = (List.range i).countP (fun j => listed.getD j false && ((l[j]?).map isSt).getD false) := List.countP_congr fun x hx => by
          rw [hL']; have := List.mem_range.1 hx; simp [show x ≠ i by omega]
        have e2 : (List.range' (i + 1) (l.length - (i + 1))).countP (fun j => (listed.setIfInBounds i true).getD j false && ((l[j]?).map isSt).getD false) = (List.range' (i + 1) (l.length - (i + 1))).countP (fun j => listed.getD j false && ((l[j]?).map isSt).getD false) := List.countP_congr fun x hx => by
          rw [hL']; have := (List.mem_range'_1.1 hx).1; simp [show x ≠ i by omega]
        rw [e1, e2]
        simp only [hL', hif, ho]
        simp
        omega
      have fin : ∀ σ' w' u, Sig.le σ σ' → Rel E σ' ι (H (ys (cL l (fun j => (listed.setIfInBounds i true).getD j false)))) w' → (VR σ' ι (vs i) u ∨ l[i].dst = none) →
          wpAnyIn (wideR n.ro) 0 P .any l.toArray (fun e a' w' => ∃ s' h' σ' ι', Q e s' h' ∧ Rel E σ' ι' h' w' ∧ TR n σ' ι' s' a') fuel (listed.setIfInBounds i true) (a.put l[i].dst u) w' := by
        intro σ' w' u hle hr'' hv
        refine ih _ σ' _ w' (by simpa using hsz) hdown' hcount hr'' ?_
        have hp : TR n σ' ι (putS (stOf s l vs (fun j => listed.getD j false) l.length) l[i].dst (vs i)) (a.put l[i].dst u) := by
          rcases hv with hv | hv
          · exact (ht.mono hle).putS c2 hv
          · rw [hv]; exact ht.mono hle
        refine ⟨hp.size, hp.defers, fun t => ?_⟩
        have h3 := hp.at_ t
        rw [get_putS] at h3
        by_cases hdt : l[i].dst = some t
        · rw [if_pos hdt] at h3
          have : get (stOf s l vs (fun j => (listed.setIfInBounds i true).getD j false) l.length) t = vs i := by
            rw [stOf_high (i := i + 1) l.length (by omega) fun j h4 h5 hjd => ?_]
            · simp only [stOf, hL', hif, BEq.rfl, Bool.or_true, if_true, get_putS, ho, Option.bind_some, if_pos hdt]
            · rw [hL', hside t (.inr hdt) j h5 hjd (by omega)]; simp; omega
          rw [this]; exact h3
        · rw [if_neg hdt] at h3
          have : get (stOf s l vs (fun j => (listed.setIfInBounds i true).getD j false) l.length) t = get (stOf s l vs (fun j => listed.getD j false) l.length) t :=
            stOf_low _ fun j h4 hjd => by
              rw [hL']
              have : j ≠ i := fun e => by subst e; rw [ho] at hjd; exact hdt (by simpa using hjd)
              simp [this]
          rw [this]; exact h3
      unfold wpOpIn
      simp only [List.getElem?_toArray, ho]
      have hopnd : ∀ x ∈ l[i].op.operands.toList, VR σ ι (evA (stOf s l vs (fun _ => true) i) x) (a.eval x) := by
        intro x hx
        refine evA_sound (List.all_eq_true.1 c1 x hx) fun t htx => ?_
        have htm : t ∈ tmpsOf l.toArray l[i] := List.mem_append_left _ (List.mem_filterMap.2 ⟨x, hx, by rw [htx]⟩)
        have := ht.at_ t
        rwa [hget t (.inl htm)] at this
      have hkn' := hkn i _ ho
      have hgn := (stQ_op hst ho).1
      rw [if_pos (by simp [Region.wanted, hgn])]
      refine op_R c0 ?_
      -- an operation that touches memory: the stores in the text ahead of it have come up, the others have not
      have hstage : isSt l[i] = true ∨ isLd l[i] = true → cL l (fun j => listed.getD j false) = cSt l i := fun hmem => by
        refine cL_at (by omega) (fun j o hj hjo hs => ?_) fun j o hj hjo hs => ?_
        · refine hlow j (by omega) (stQ_at hst hj hjo ho ?_)
          rcases hmem with hmem | hmem <;> simp [hs, hmem]
        · by_cases hji : j = i
          · subst hji; exact hif
          · have hbit := stQ_at hst (show i < j by omega) ho hjo (by rcases hmem with hmem | hmem <;> simp [hs, hmem])
            cases hc : listed.getD j false with
            | false => rfl
            | true => have := hbef j i hc hbit; simp only [hif] at this; cases this
      unfold KnS at hkn'
      rcases hkn' with ⟨hs, hS⟩ | ⟨hs, hO⟩
      · have hc := hstage (.inl hs)
        rw [hc] at hr
        obtain ⟨w', h3, h4⟩ := hS E σ ι a w hr hopnd
        unfold Oper.wp
        rw [h3, Oper.upon_skip]
        have h5 := fin σ w' undef (Sig.le.refl σ) (by rw [hcL', hs, if_pos rfl, hc]; exact h4) (.inr ((stQ_op hst ho).2 hs))
        rw [(stQ_op hst ho).2 hs] at h5 ⊢
        exact h5
      · have hc2 : cL l (fun j => (listed.setIfInBounds i true).getD j false) = cL l (fun j => listed.getD j false) := by rw [hcL', hs]; simp
        rcases hO with ⟨hl, hO⟩ | hO
        · rw [hstage (.inr hl)] at hr
          exact hO E σ ι a w hr hopnd _ _ fun σ' w' u h3 h4 h5 => fin σ' w' u h3 (by rw [hc2, hstage (.inr hl)]; exact h4) (.inl h5)
        · have hcle : cL l (fun j => listed.getD j false) ≤ cSt l l.length := by
            have e : cSt l l.length = cL l (fun _ => true) := (cL_at (Nat.le_refl _) (fun _ _ _ _ _ => rfl) (fun j o hj ho => by have := (List.getElem?_eq_some_iff.1 ho).1; omega)).symm
            rw [e]; exact List.countP_mono_left fun x _ hx => by simp only [Bool.and_eq_true] at hx ⊢; exact ⟨trivial, hx.2⟩
          exact hO _ (hoky _ hcle) E σ ι a w hr hopnd _ _ fun σ' w' u h3 h4 h5 => fin σ' w' u h3 (by rw [hc2]; exact h4) (.inl h5)
  have hrep : ∀ j, (Array.replicate l.toArray.size false).getD j false = false := fun j => by
    simp only [Array.getD_eq_getD_getElem?, Array.getElem?_replicate]; split <;> rfl
  have hc0 : cL l (fun j => (Array.replicate l.toArray.size false).getD j false) = 0 := by
    unfold cL; rw [List.countP_eq_zero]; intro j _; simp only [hrep]; simp
  refine key l.toArray.size _ σ0 a _ (by simp) ?_ ?_ (by rw [hc0]; exact hr') ?_
  · intro j o hj hl
    rw [hrep] at hl; cases hl
  · refine Nat.le_trans List.countP_le_length ?_
    simp
  · refine ⟨ht.size, ht.defers, fun t => ?_⟩
    have := ht.at_ t
    rw [stOf_high (i := 0) l.length (Nat.zero_le _) fun j _ _ _ => hrep j]
    exact this
end
end Go.Proofs.YtkkmageogkkchaaGreat
namespace Go.Proofs.YtkkmageogkkchaaGreat
set_option maxRecDepth 100000
open Go.RowKit
section
variable {P : Program} {n : Md} {Q : Exit → Slots → Heap → Prop} {s : Slots} {h h0 : Heap} {ops : Array Oper} {rest : List Oper} {o : Oper} {K : Slots → Prop}
theorem sto_E {α : Type} [Inhabited α] {t e' : TypeId} {x y : Operand} {id sz i j : Nat} {l : List α} {f : α → List AV} {v : AV} {x' : α} (ho : o.op = .store t x y) (hx : evA s x = .eptr id sz i j)
    (hv : evA s y = v) (hq : celQ v = true) (hp : pureL (celA v) = true) (hz : sizeQ P t (celA v).length = true) (hl : j + (celA v).length ≤ sz) (hx' : f x' = spl (f (l.getD i default)) j (celA v))
    (hi : i < l.length) : StO P o s ((id, .row e' sz (l.map f)) :: h0) ((id, .row e' sz ((l.set i x').map f)) :: h0) := fun E σ ι a w hr hVR => by
  subst hv
  have hg : hget ((id, .row e' sz (l.map f)) :: h0) id = some (.row e' sz (l.map f)) := by rw [hget_cons, if_pos rfl]
  have hX : VR σ ι (evA s x) (a.eval x) := hVR x (by rw [ho]; simp [Op.operands])
  have hY : VR σ ι (evA s y) (a.eval y) := hVR y (by rw [ho]; simp [Op.operands])
  rw [hx] at hX
  obtain ⟨g, h1, h2⟩ := hX.eptr_inv
  obtain ⟨hsz0, hsz, vs, hown, hL2⟩ := hr.ch id _ hg
  rcases hown.2 with ⟨h3, _⟩ | ⟨g', cap, cur, h3, _, h4, h5, h6, h7, h8⟩
  · rw [h3] at h1; cases h1
  rw [h3] at h1
  simp only [footOf, Option.some.injEq] at h1
  subst h1
  obtain ⟨hL, hone⟩ := hY.cel hq
  have hlen : (a.eval y).cells.size = (celA (evA s y)).length := by rw [← Array.length_toList]; exact hL.1.symm
  have hil : i < (l.map f).length := by simpa using hi
  have hbound : i * sz + j + (a.eval y).cells.size ≤ (l.map f).length * sz := by
    have : (i + 1) * sz ≤ (l.map f).length * sz := Nat.mul_le_mul_right _ hil
    rw [Nat.add_mul] at this; omega
  have hcap : (l.map f).length * sz ≤ cap * sz := Nat.mul_le_mul_right _ h5
  have hrun := run_store_at (P := P) (t := t) (off := i * sz + j) (v := a.eval y) h4 (by rw [hlen]; exact hz) (by omega) hone
  obtain ⟨cur', hcur'⟩ : ∃ cur', cur' = (cur.toList.take (i * sz + j) ++ (a.eval y).cells.toList ++ cur.toList.drop (i * sz + j + (a.eval y).cells.size)).toArray := ⟨_, rfl⟩
  rw [← hcur'] at hrun
  have hs' : cur'.size = cur.size := by
    rw [hcur']; simp only [List.size_toArray, List.length_append, List.length_take, List.length_drop, Array.length_toList]; omega
  have htk : cur'.toList.take ((l.map f).length * sz) = vs.take (i * sz + j) ++ (a.eval y).cells.toList ++ vs.drop (i * sz + j + (a.eval y).cells.toList.length) := by
    obtain ⟨N, hN⟩ : ∃ N, N = (l.map f).length * sz := ⟨_, rfl⟩
    obtain ⟨us, hus⟩ : ∃ us, us = (a.eval y).cells.toList := ⟨_, rfl⟩
    have hul : us.length = (a.eval y).cells.size := by rw [hus, Array.length_toList (xs := (a.eval y).cells)]
    rw [hcur', ← h8, ← hN, ← hus, ← hul]
    rw [← hN] at hbound hcap
    rw [← hul] at hbound
    have hcl : cur.toList.length = cur.size := Array.length_toList (xs := cur)
    generalize cur.toList = cl at *
    rw [List.toList_toArray, List.take_take, List.take_append, List.take_append, List.drop_take, show min (i * sz + j) N = i * sz + j by omega]
    have e2 : (List.take (i * sz + j) cl).length = i * sz + j := by rw [List.length_take]; omega
    rw [List.length_append, e2, List.take_of_length_le (l := us) (by omega), List.take_take, show min N (i * sz + j) = i * sz + j by omega]
  have hrun' : (execOp a.eval o).run P w = .ok .skip (w.setRow g' cur') := by
    simp only [execOp, ho, h2, Instr.storeAt, Instr.sureAddr, Sem.run_bind, Sem.run_pure, Result.andThen_ok, hrun]
  refine ⟨_, hrun', ?_⟩
  have hsame : upd ι id (ι id) = ι := by funext i; unfold upd; split <;> simp_all
  have hget' : l.getD i default = l[i] := by simp [hi]
  have hfi : (l.map f)[i]? = some (f (l.getD i default)) := by simp [hi]
  have hci : (f (l.getD i default)).length = sz := hsz _ (List.mem_of_getElem? hfi)
  have hxs : (l.set i x').map f = (l.map f).set i ((f (l.getD i default)).take j ++ celA (evA s y) ++ (f (l.getD i default)).drop (j + (celA (evA s y)).length)) := by
    rw [List.map_set, hx', spl_eq _ _ _ (by omega)]
  have hnew := hr.turn (id := id) (u := ι id) (h' := (id, .row e' sz ((l.set i x').map f)) :: h0) (c' := .row e' sz ((l.set i x').map f)) (w' := w.setRow g' cur')
    (fun i c hi hc => by rw [hget_cons, if_neg (fun e => hi e.symm)] at hc; exact ⟨by rw [hget_cons, if_neg (fun e => hi e.symm)]; exact hc, .inl rfl⟩) (by rw [hget_cons, if_pos rfl])
    ⟨hsz0, fun c hc => by
      rw [hxs] at hc
      rcases List.mem_or_eq_of_mem_set hc with hc | rfl
      · exact hsz c hc
      · simp only [List.length_append, List.length_take, List.length_drop]; omega,
      cur'.toList.take ((l.map f).length * sz), by
        rw [hsame, show ((l.set i x').map f).length = (l.map f).length by simp]
        refine ⟨by rw [List.length_take, Array.length_toList (xs := cur')]; omega, .inr ⟨g', cap, cur', h3, Nat.zero_le _, setRow_heap w g' cur cur' e' (0, 0) h4, h5, h6, by omega, rfl⟩⟩, by
      rw [htk, hxs, flatten_set hsz hfi hl]
      rw [show (a.eval y).cells.toList.length = (celA (evA s y)).length by rw [Array.length_toList, hlen]]
      exact ((hL2.take _).append (l2_pure hL hp)).append (hL2.drop _)⟩
    rfl rfl rfl (by simp) (fun k hk hne => setRow_other w g' k _ fun e => hne _ hg (by rw [e, h3]; rfl))
    (fun g2 hg2 => .inl ⟨_, hg, hg2⟩) (.inr rfl)
  rw [hsame] at hnew
  exact hnew
structure F {α : Type} (P : Program) (id : Nat) (e' : TypeId) (sz : Nat) (f : α → List AV) (h0 : Heap) (N : Nat) (K : Slots → List α → Prop) (rest : List Oper) (s : Slots) (y : List α) : Prop where
  out : ADs P (fun y : List α => (id, Chunk.row e' sz (y.map f)) :: h0) (fun y => y.length = N) K rest s y
variable {α : Type} {id sz N : Nat} {e' : TypeId} {f : α → List AV} {KF : Slots → List α → Prop} {y : List α}
theorem fnil (hk : KF s y) : F P id e' sz f h0 N KF [] s y := ⟨s, fun _ => rfl, hk⟩
theorem f_k {v : AV} (h1 : isSt o = false) (hv : ∀ y' : List α, y'.length = N → Y P o s ((id, .row e' sz (y'.map f)) :: h0) v) (hk : F P id e' sz f h0 N KF rest (putS s o.dst v) y) : F P id e' sz f h0 N KF (o :: rest) s y :=
  ⟨.inr ⟨h1, v, .inr fun y' hy' => (hv y' hy').out, hk.out⟩⟩
theorem f_ld {v : AV} (h1 : isSt o = false) (h2 : isLd o = true) (hv : Y P o s ((id, .row e' sz (y.map f)) :: h0) v) (hk : F P id e' sz f h0 N KF rest (putS s o.dst v) y) : F P id e' sz f h0 N KF (o :: rest) s y :=
  ⟨.inr ⟨h1, v, .inl ⟨h2, hv.out⟩, hk.out⟩⟩
theorem f_se [Inhabited α] {t : TypeId} {x z : Operand} {i j : Nat} {v : AV} {x' : α} (ho : o.op = .store t x z) (h1 : isSt o = true) (hx : evA s x = .eptr id sz i j) (hv : evA s z = v) (hq : celQ v = true) (hp : pureL (celA v) = true) (hz : sizeQ P t (celA v).length = true)
    (hl : Nat.ble (j + (celA v).length) sz = true) (hx' : f x' = spl (f (y.getD i default)) j (celA v)) (hi : i < y.length) (hN : y.length = N) (hk : F P id e' sz f h0 N KF rest s (y.set i x')) : F P id e' sz f h0 N KF (o :: rest) s y :=
  ⟨.inl ⟨h1, y.set i x', by simpa using hN, sto_E ho hx hv hq hp hz (Nat.ble_eq ▸ hl) hx' hi, hk.out⟩⟩
def hasSt (l : List Oper) : Bool := l.any isSt
theorem wdrawS {rid : Nat} {l : List Oper} {y0 : List α} (hs : hasSt l = true) (hm : P.follows .mixedOrders = true) (hok : drawOkS n l = true) (hst : stQ l = true)
    (hk : F P id e' sz f h0 y0.length (fun s' y => Q .normal s' ((id, .row e' sz (y.map f)) :: h0)) l s y0) : W P n (.region rid l.toArray true) Q s ((id, .row e' sz (y0.map f)) :: h0) :=
  ⟨awp_drawS (H := fun y : List α => (id, Chunk.row e' sz (y.map f)) :: h0) (ok := fun y => y.length = y0.length) hm hok hst rfl hk.out⟩
theorem q_ioE {t e : TypeId} {x y : Operand} {ik : IntKind} {z : Int} {l : List α} (i : Nat) (ho : o.op = .indexAddr t x y) (hx : evA s x = .own id) (hg : hget h id = some (.row e' sz (l.map f))) (hy : evA s y = .int ik z) (ht : sliceE P t = some e) (hz : sizeQ P e sz = true) (hzi : z = (i : Int)) (hi : i < l.length) : Y P o s h (.eptr id sz i 0) := by
  subst hzi
  exact ⟨ok_index_own ho ht hz hx hg hy hi⟩
theorem q_pE [Inhabited α] {i j : Nat} {l : List α} {t : TypeId} {x : Operand} {side : Prop} {v : AV} {z : α} (hzi : l.getD i default = z) (ho : o.op = .load t x) (hx : evA s x = .eptr id sz i j) (hg : hget h id = some (.row e' sz (l.map f))) (hc : cellsA P t ((f z).drop j) = some (side, v)) (hi : i < l.length) (hside : side) : Y P o s h v := by
  subst hzi
  exact q_p ho hx hg hc hi hside
theorem q_pE' [Inhabited α] {i j : Nat} {l : List α} {t : TypeId} {x : Operand} {side : Prop} {v : AV} {z : α} (hzi : l.getD i default = z) (ho : o.op = .load t x := by rfl) (hx : evA s x = .eptr id sz i j := by rfl) (hg : hget h id = some (.row e' sz (l.map f)) := by rfl) (hc : cellsA P t ((f z).drop j) = some (side, v) := by rfl) (hi : i < l.length := by omega) (hside : side := by first | exact True.intro | (first | trivial | exact Nat.le_of_ble_eq_true rfl | (simp only [rangeP]; omega) | omega)) : Y P o s h v := q_pE hzi ho hx hg hc hi hside
theorem q_half {t yt : TypeId} {x y : Operand} {a : Int} (m : Nat) (ho : o.op = .binOp .shr t x y yt) (hx : evA s x = .int .u64 a) (hy : evA s y = .int .i64 1 ∨ evA s y = .int .u64 1) (hm : a = 2 * (m : Int) ∨ a = 2 * (m : Int) + 1) (hr : a ≤ 18446744073709551615) : Y P o s h (.int .u64 m) := by
  have e : a.fdiv (2 ^ min (1 : Int).toNat IntKind.u64.bits) = (m : Int) := by
    rw [show (2 : Int) ^ min (1 : Int).toNat IntKind.u64.bits = 2 from rfl, Int.fdiv_eq_ediv_of_nonneg _ (by omega)]
    omega
  have hb : binA .shr (.int .u64 a) (evA s y) = some ((0 : Int) ≤ 1 ∧ rangeP .u64 (m : Int), .int .u64 m) := by
    rcases hy with hy | hy <;> rw [hy] <;> simp only [binA] <;> rw [e]
  refine q_s (side := (0 : Int) ≤ 1 ∧ rangeP .u64 (m : Int)) ?_ ?_
  · unfold stepO
    simp only [ho, hx, hb]
  · refine ⟨by omega, ?_⟩
    simp only [rangeP]; omega
end
end Go.Proofs.YtkkmageogkkchaaGreat
namespace Go.Proofs.YtkkmageogkkchaaGreat
set_option maxRecDepth 100000
section
variable {α : Type} {lt : α → α → Bool}
structure SWO (lt : α → α → Bool) : Prop where
  irr : ∀ x, lt x x = false
  tr : ∀ x y z, lt x y = true → lt y z = true → lt x z = true
  nt : ∀ x y z, lt x y = false → lt y z = false → lt x z = false
theorem SWO.asym (h : SWO lt) {x y : α} (hxy : lt x y = true) : lt y x = false := by
  cases hyx : lt y x with
  | false => rfl
  | true => have := h.tr x y x hxy hyx; rw [h.irr] at this; cases this
theorem SWO.tr1 (h : SWO lt) {x y z : α} (hxy : lt x y = true) (hzy : lt z y = false) : lt x z = true := by
  cases hxz : lt x z with
  | true => rfl
  | false => have := h.nt x z y hxz hzy; rw [this] at hxy; cases hxy
theorem SWO.tr2 (h : SWO lt) {x y z : α} (hxy : lt x y = true) (hzx : lt x z = false) : lt z y = true := by
  cases hzy : lt z y with
  | true => rfl
  | false => have := h.nt x z y hzx hzy; rw [this] at hxy; cases hxy
inductive Rch (lt : α → α → Bool) (l : List α) : List α → Prop
  | refl : Rch lt l l
  | step (p q : List α) (u v : α) (h : Rch lt l (p ++ v :: u :: q)) (hl : lt u v = true) : Rch lt l (p ++ u :: v :: q)
theorem Rch.trans {l r t : List α} (h1 : Rch lt l r) (h2 : Rch lt r t) : Rch lt l t := by
  induction h2 with
  | refl => exact h1
  | step p q u v _ hl ih => exact .step p q u v ih hl
theorem Rch.ctx {l r : List α} (h : Rch lt l r) (p q : List α) : Rch lt (p ++ l ++ q) (p ++ r ++ q) := by
  induction h with
  | refl => exact .refl
  | step p' q' u v _ hl ih =>
    have := Rch.step (lt := lt) (p ++ p') (q' ++ q) u v (by simpa using ih) hl
    simpa using this
theorem Rch.perm {l r : List α} (h : Rch lt l r) : r.Perm l := by
  induction h with
  | refl => exact List.Perm.refl _
  | step p q u v _ hl ih => exact (List.Perm.append_left p (List.Perm.swap v u q)).trans ih
theorem Rch.len {l r : List α} (h : Rch lt l r) : r.length = l.length := h.perm.length_eq
theorem Rch.mem {l r : List α} (h : Rch lt l r) {x : α} : x ∈ r ↔ x ∈ l := h.perm.mem_iff
theorem Rch.app {l r l' r' : List α} (h1 : Rch lt l r) (h2 : Rch lt l' r') : Rch lt (l ++ l') (r ++ r') :=
  (by simpa using h1.ctx [] l' : Rch lt (l ++ l') (r ++ l')).trans (by simpa using h2.ctx r [])
theorem Rch.left (x : α) : ∀ (ys : List α), (∀ y ∈ ys, lt x y = true) → Rch lt (ys ++ [x]) (x :: ys)
  | [], _ => .refl
  | y :: ys, h => by
    have h1 := Rch.left x ys fun z hz => h z (List.mem_cons_of_mem _ hz)
    have h2 : Rch lt (y :: ys ++ [x]) (y :: x :: ys) := by simpa using h1.ctx [y] []
    exact Rch.step [] ys x y h2 (h y List.mem_cons_self)
theorem Rch.right (x : α) : ∀ (ys : List α), (∀ y ∈ ys, lt y x = true) → Rch lt (x :: ys) (ys ++ [x])
  | [], _ => .refl
  | y :: ys, h => by
    have h1 : Rch lt (x :: y :: ys) (y :: x :: ys) := Rch.step [] ys y x .refl (h y List.mem_cons_self)
    have h2 := (Rch.right x ys fun z hz => h z (List.mem_cons_of_mem _ hz)).ctx [y] []
    exact h1.trans (by simpa using h2)
theorem Rch.block : ∀ (xs ys : List α), (∀ v ∈ xs, ∀ u ∈ ys, lt u v = true) → Rch lt (xs ++ ys) (ys ++ xs)
  | xs, [], _ => by simpa using Rch.refl
  | xs, y :: ys, h => by
    have h1 : Rch lt (xs ++ [y] ++ ys) (y :: xs ++ ys) := by simpa using (Rch.left y xs fun v hv => h v hv y List.mem_cons_self).ctx [] ys
    have h2 := (Rch.block xs ys fun v hv u hu => h v hv u (List.mem_cons_of_mem _ hu)).ctx [y] []
    have h3 : Rch lt (xs ++ y :: ys) (y :: (xs ++ ys)) := by simpa using h1
    exact h3.trans (by simpa using h2)
def Srt (lt : α → α → Bool) (l : List α) : Prop := l.Pairwise fun a b => lt b a = false
theorem Srt.nil : Srt lt [] := List.Pairwise.nil
theorem Srt.one (x : α) : Srt lt [x] := List.pairwise_singleton _ _
theorem Srt.app {l r : List α} : Srt lt (l ++ r) ↔ Srt lt l ∧ Srt lt r ∧ ∀ a ∈ l, ∀ b ∈ r, lt b a = false := List.pairwise_append
theorem Srt.of_len {l : List α} (h : l.length ≤ 1) : Srt lt l := by
  match l, h with
  | [], _ => exact .nil
  | [x], _ => exact .one x
def StS (lt : α → α → Bool) (l r : List α) : Prop := Rch lt l r ∧ Srt lt r
theorem StS.self {l : List α} (h : Srt lt l) : StS lt l l := ⟨.refl, h⟩
theorem StS.parts (xs1 xs2 ys1 ys2 L R : List α) (h1 : StS lt (xs1 ++ ys1) L) (h2 : StS lt (xs2 ++ ys2) R) (hb : ∀ v ∈ xs2, ∀ u ∈ ys1, lt u v = true) (ha : ∀ u ∈ xs1 ++ ys1, ∀ v ∈ xs2 ++ ys2, lt v u = false) :
    StS lt ((xs1 ++ xs2) ++ (ys1 ++ ys2)) (L ++ R) := by
  refine ⟨?_, Srt.app.2 ⟨h1.2, h2.2, fun a hA b hB => ha a (h1.1.mem.1 hA) b (h2.1.mem.1 hB)⟩⟩
  have h3 : Rch lt ((xs1 ++ xs2) ++ (ys1 ++ ys2)) ((xs1 ++ ys1) ++ (xs2 ++ ys2)) := by
    have := (Rch.block xs2 ys1 hb).ctx xs1 ys2
    simpa using this
  exact h3.trans (h1.1.app h2.1)
theorem Rch.pairs {l r : List α} (h : Rch lt l r) {R : α → α → Prop} (hR : l.Pairwise R) : r.Pairwise fun a b => R a b ∨ lt a b = true := by
  induction h with
  | refl => exact hR.imp fun h => .inl h
  | step p q u v _ hl ih =>
    rw [List.pairwise_append] at ih ⊢
    obtain ⟨h1, h2, h3⟩ := ih
    rw [List.pairwise_cons, List.pairwise_cons] at h2
    refine ⟨h1, ?_, fun a ha b hb => h3 a ha b (by simp only [List.mem_cons] at hb ⊢; rcases hb with h | h | h; exact .inr (.inl h); exact .inl h; exact .inr (.inr h))⟩
    rw [List.pairwise_cons, List.pairwise_cons]
    refine ⟨fun b hb => ?_, fun b hb => h2.1 b (List.mem_cons_of_mem _ hb), h2.2.2⟩
    rcases List.mem_cons.1 hb with rfl | hb
    · exact .inr hl
    · exact h2.2.1 b hb
/-! ## Chunks -/
structure BS (lt : α → α → Bool) (k : Nat) (D : List α) (cs : List (List α)) (c : List α) : Prop where
  eq : D = cs.flatten ++ c
  full : ∀ x ∈ cs, x.length = k ∧ Srt lt x
  len : c.length ≤ k
  srt : Srt lt c
theorem BS.snoc {k : Nat} {A c : List α} {cs : List (List α)} (h : A = cs.flatten) (hf : ∀ x ∈ cs, x.length = k ∧ Srt lt x) (hc : c.length = k) (hs : Srt lt c) : A ++ c = (cs ++ [c]).flatten ∧ ∀ x ∈ cs ++ [c], x.length = k ∧ Srt lt x := by
  refine ⟨by simp [h], fun x hx => ?_⟩
  rcases List.mem_append.1 hx with hx | hx
  · exact hf x hx
  · rw [List.mem_singleton.1 hx]; exact ⟨hc, hs⟩
theorem BS.two {k : Nat} {B c : List α} {cs : List (List α)} (hk : 0 < k) (h : BS lt k B cs c) (hl : 2 * k ≤ B.length) :
    ∃ c1 c2 B' cs' c', B = c1 ++ c2 ++ B' ∧ c1.length = k ∧ c2.length = k ∧ Srt lt c1 ∧ Srt lt c2 ∧ BS lt k B' cs' c' := by
  obtain ⟨h1, h2, h3, h4⟩ := h
  match cs, h1, h2 with
  | [], h1, h2 => simp only [List.flatten_nil, List.nil_append] at h1; subst h1; omega
  | [c1], h1, h2 =>
    have e1 := h2 c1 (by simp)
    have : B.length = k + c.length := by rw [h1]; simp [e1.1]
    exact ⟨c1, c, [], [], [], by rw [h1]; simp, e1.1, by omega, e1.2, h4, ⟨by simp, by simp, by simp, .nil⟩⟩
  | c1 :: c2 :: cs, h1, h2 =>
    have e1 := h2 c1 (by simp)
    have e2 := h2 c2 (by simp)
    exact ⟨c1, c2, cs.flatten ++ c, cs, c, by rw [h1]; simp, e1.1, e2.1, e1.2, e2.2, ⟨rfl, fun x hx => h2 x (by simp [hx]), h3, h4⟩⟩
theorem BS.last {k : Nat} {B c : List α} {cs : List (List α)} (hk : 0 < k) (h : BS lt k B cs c) (hl : B.length < 2 * k) : (B.length ≤ k ∧ Srt lt B) ∨ (k < B.length ∧ ∃ c1 c2, B = c1 ++ c2 ∧ c1.length = k ∧ Srt lt c1 ∧ Srt lt c2) := by
  obtain ⟨h1, h2, h3, h4⟩ := h
  match cs, h1, h2 with
  | [], h1, h2 => simp only [List.flatten_nil, List.nil_append] at h1; subst h1; exact .inl ⟨h3, h4⟩
  | [c1], h1, h2 =>
    have e1 := h2 c1 (by simp)
    have : B.length = k + c.length := by rw [h1]; simp [e1.1]
    by_cases hc : c.length = 0
    · rw [List.eq_nil_of_length_eq_zero hc] at h1
      refine .inl ⟨by omega, ?_⟩
      rw [h1]; simpa using e1.2
    · exact .inr ⟨by omega, c1, c, by rw [h1]; simp, e1.1, e1.2, h4⟩
  | c1 :: c2 :: cs, h1, h2 =>
    have e1 := h2 c1 (by simp)
    have e2 := h2 c2 (by simp)
    have : k + k ≤ B.length := by rw [h1]; simp [e1.1, e2.1]
    omega
theorem BS.whole {k : Nat} {B c : List α} {cs : List (List α)} (hk : 0 < k) (h : BS lt k B cs c) (hl : B.length ≤ k) : Srt lt B := by
  rcases h.last hk (by omega) with h | h
  · exact h.2
  · omega
/-! ## Places in lists that are put together -/
theorem app_get [Inhabited α] (p q : List α) (x : α) : (p ++ x :: q).getD p.length default = x := by simp
theorem app_set (p q : List α) (x y : α) : (p ++ x :: q).set p.length y = p ++ y :: q := by simp
theorem two_get [Inhabited α] (p q r : List α) (x y : α) : (p ++ x :: q ++ y :: r).getD (p.length + 1 + q.length) default = y := by
  have := app_get (p ++ x :: q) r y
  simp [Nat.add_assoc, Nat.add_comm 1]
theorem two_set (p q r : List α) (x y z : α) : (p ++ x :: q ++ y :: r).set (p.length + 1 + q.length) z = p ++ x :: q ++ z :: r := by
  have := app_set (p ++ x :: q) r y z
  simp [Nat.add_assoc, Nat.add_comm 1]
theorem swap_ji [Inhabited α] (p q r : List α) (x y : α) : ((p ++ x :: q ++ y :: r).set (p.length + 1 + q.length) x).set p.length y = p ++ y :: q ++ x :: r := by
  rw [two_set, List.append_assoc, List.cons_append, app_set]; simp
theorem swap_ij [Inhabited α] (p q r : List α) (x y : α) : ((p ++ x :: q ++ y :: r).set p.length y).set (p.length + 1 + q.length) x = p ++ y :: q ++ x :: r := by
  rw [show p ++ x :: q ++ y :: r = p ++ x :: (q ++ y :: r) by simp, app_set, show p ++ y :: (q ++ y :: r) = p ++ y :: q ++ y :: r by simp, two_set]
theorem get_at [Inhabited α] {l p q : List α} {x : α} {i : Nat} (h : l = p ++ x :: q) (hi : i = p.length) : l.getD i default = x := by rw [h, hi]; exact app_get p q x
def swM (P X Z Y S : List α) (k : Nat) : List α := P ++ (Y.take k ++ X.drop k) ++ Z ++ (X.take k ++ Y.drop k) ++ S
theorem parted {l : List α} {k : Nat} (hk : k < l.length) : ∃ a x b, l = a ++ x :: b ∧ a.length = k := ⟨l.take k, l[k], l.drop (k + 1), by simp, by simp; omega⟩
theorem swM_step [Inhabited α] {P X Z Y S : List α} {k i j : Nat} (h : Y.length = X.length) (hk : k < X.length) (hi : i = P.length + k) (hj : j = P.length + X.length + Z.length + k) :
    ((swM P X Z Y S k).set i ((swM P X Z Y S k).getD j default)).set j ((swM P X Z Y S k).getD i default) = swM P X Z Y S (k + 1) := by
  obtain ⟨X1, x, X2, rfl, h1⟩ := parted hk
  obtain ⟨Y1, y, Y2, rfl, h2⟩ := parted (l := Y) (k := k) (by omega)
  have e1 : swM P (X1 ++ x :: X2) Z (Y1 ++ y :: Y2) S k = (P ++ Y1) ++ x :: (X2 ++ Z ++ X1) ++ y :: (Y2 ++ S) := by
    unfold swM
    rw [List.take_append_of_le_length (by omega), List.take_append_of_le_length (by omega), List.take_of_length_le (by omega), List.take_of_length_le (by omega), ← h1, List.drop_left, h1, ← h2, List.drop_left]
    simp
  have e2 : swM P (X1 ++ x :: X2) Z (Y1 ++ y :: Y2) S (k + 1) = (P ++ Y1) ++ y :: (X2 ++ Z ++ X1) ++ x :: (Y2 ++ S) := by
    have t : ∀ (a b : List α) (z : α), a.length = k → (a ++ z :: b).take (k + 1) = a ++ [z] ∧ (a ++ z :: b).drop (k + 1) = b := fun a b z ha => by
      rw [show a ++ z :: b = (a ++ [z]) ++ b by simp, show k + 1 = (a ++ [z]).length by simp [ha], List.take_left, List.drop_left]; exact ⟨rfl, rfl⟩
    unfold swM
    rw [(t _ _ _ h1).1, (t _ _ _ h1).2, (t _ _ _ h2).1, (t _ _ _ h2).2]
    simp
  have hi' : i = (P ++ Y1).length := by simp; omega
  have hj' : j = (P ++ Y1).length + 1 + (X2 ++ Z ++ X1).length := by simp at hj ⊢; omega
  rw [e1, e2, hi', hj', two_get, List.append_assoc (P ++ Y1), List.cons_append, app_get, ← List.cons_append, ← List.append_assoc, swap_ij]
theorem swM_len {P X Z Y S : List α} {k : Nat} (h : Y.length = X.length) : (swM P X Z Y S k).length = P.length + X.length + Z.length + Y.length + S.length := by
  simp only [swM, List.length_append, List.length_take, List.length_drop]; omega
theorem swM_0 (P X Z Y S : List α) : swM P X Z Y S 0 = P ++ X ++ Z ++ Y ++ S := by simp [swM]
theorem swM_n {P X Z Y S : List α} {n : Nat} (h1 : X.length = n) (h2 : Y.length = n) : swM P X Z Y S n = P ++ Y ++ Z ++ X ++ S := by
  unfold swM
  rw [List.take_of_length_le (by omega), List.take_of_length_le (by omega), List.drop_of_length_le (by omega), List.drop_of_length_le (by omega)]
  simp
end
end Go.Proofs.YtkkmageogkkchaaGreat
namespace Go.Proofs.YtkkmageogkkchaaGreat
set_option maxRecDepth 100000
set_option linter.unusedSectionVars false
set_option linter.unnecessarySimpa false
section
variable {α : Type} [Inhabited α] {lt : α → α → Bool}
theorem adj {M p r : List α} {u v : α} {k k' : Nat} (h : M = p ++ u :: v :: r) (hk : k = p.length) (hk' : k' = k + 1) : M.getD k default = u ∧ M.getD k' default = v ∧ (M.set k' u).set k v = p ++ v :: u :: r ∧ (M.set k v).set k' u = p ++ v :: u :: r := by
  subst hk'; subst h; subst hk
  have e : p ++ u :: v :: r = p ++ u :: [] ++ v :: r := by simp
  refine ⟨app_get _ _ _, ?_, ?_, ?_⟩
  · rw [e]; exact two_get p [] r u v
  · rw [e]; have := swap_ji p [] r u v; simpa using this
  · rw [e]; have := swap_ij p [] r u v; simpa using this
theorem seg1 {pp xx yy ss : List α} {k i : Nat} (hk : k < xx.length) (hi : i = pp.length + k) : (pp ++ xx ++ yy ++ ss).getD i default = xx.getD k default := by
  subst hi
  simp only [List.getD_eq_getElem?_getD, List.append_assoc]
  rw [List.getElem?_append_right (by omega), Nat.add_sub_cancel_left, List.getElem?_append_left hk]
theorem seg2 {pp xx yy ss : List α} {k i : Nat} (hk : k < yy.length) (hi : i = pp.length + xx.length + k) : (pp ++ xx ++ yy ++ ss).getD i default = yy.getD k default := by
  subst hi
  have e : pp ++ xx ++ yy ++ ss = (pp ++ xx) ++ yy ++ ss ++ [] := by simp
  rw [e]
  exact seg1 hk (by simp)
theorem getD_mem {l : List α} {k : Nat} (h : k < l.length) : l.getD k default ∈ l := by simp [h]
theorem of_take {l : List α} {q : Nat} {v : α} (h : v ∈ l.take q) : ∃ c, c < q ∧ c < l.length ∧ v = l.getD c default := by
  obtain ⟨c, hc, rfl⟩ := List.getElem_of_mem h
  rw [List.length_take] at hc
  exact ⟨c, by omega, by omega, by simp [show c < l.length by omega]⟩
theorem of_drop {l : List α} {q : Nat} {v : α} (h : v ∈ l.drop q) : ∃ c, q ≤ c ∧ c < l.length ∧ v = l.getD c default := by
  obtain ⟨c, hc, rfl⟩ := List.getElem_of_mem h
  rw [List.length_drop] at hc
  exact ⟨q + c, by omega, by omega, by simp [show q + c < l.length by omega]⟩
theorem Srt.at {l : List α} (h : Srt lt l) {i j : Nat} (hij : i < j) (hj : j < l.length) : lt (l.getD j default) (l.getD i default) = false := by
  have := List.pairwise_iff_getElem.1 h i j (by omega) hj hij
  simpa [hj, show i < l.length by omega] using this
theorem Srt.at' (hs : SWO lt) {l : List α} (h : Srt lt l) {i j : Nat} (hij : i ≤ j) (hj : j < l.length) : lt (l.getD j default) (l.getD i default) = false := by
  rcases Nat.lt_or_eq_of_le hij with h1 | rfl
  · exact h.at h1 hj
  · exact hs.irr _
theorem Srt.take {l : List α} (h : Srt lt l) (q : Nat) : Srt lt (l.take q) := List.Pairwise.sublist (List.take_sublist q l) h
theorem Srt.drop {l : List α} (h : Srt lt l) (q : Nat) : Srt lt (l.drop q) := List.Pairwise.sublist (List.drop_sublist q l) h
theorem sm_one1 (hs : SWO lt) {x : α} {yy : List α} {q : Nat} (hy : Srt lt yy) (h1 : ∀ k, k < q → k < yy.length → lt (yy.getD k default) x = true) (h2 : ∀ k, q ≤ k → k < yy.length → lt (yy.getD k default) x = false) : StS lt ([x] ++ yy) (yy.take q ++ x :: yy.drop q) := by
  have m1 : ∀ v ∈ yy.take q, lt v x = true := fun v hv => by obtain ⟨c, a, b, rfl⟩ := of_take hv; exact h1 c a b
  have m2 : ∀ v ∈ yy.drop q, lt v x = false := fun v hv => by obtain ⟨c, a, b, rfl⟩ := of_drop hv; exact h2 c a b
  refine ⟨?_, ?_⟩
  · have h3 := (Rch.right x (yy.take q) m1).ctx [] (yy.drop q)
    have e : [x] ++ yy = [] ++ (x :: yy.take q) ++ yy.drop q := by simp
    rw [e]
    simpa using h3
  · rw [Srt.app]
    have h4 : Srt lt (yy.take q ++ yy.drop q) := by rw [List.take_append_drop]; exact hy
    rw [Srt.app] at h4
    refine ⟨h4.1, List.pairwise_cons.2 ⟨m2, h4.2.1⟩, fun a ha b hb => ?_⟩
    rcases List.mem_cons.1 hb with rfl | hb
    · exact hs.asym (m1 a ha)
    · exact h4.2.2 a ha b hb
theorem sm_one2 (hs : SWO lt) {y : α} {xx : List α} {q : Nat} (hx : Srt lt xx) (h1 : ∀ k, k < q → k < xx.length → lt y (xx.getD k default) = false) (h2 : ∀ k, q ≤ k → k < xx.length → lt y (xx.getD k default) = true) : StS lt (xx ++ [y]) (xx.take q ++ y :: xx.drop q) := by
  have m1 : ∀ v ∈ xx.take q, lt y v = false := fun v hv => by obtain ⟨c, a, b, rfl⟩ := of_take hv; exact h1 c a b
  have m2 : ∀ v ∈ xx.drop q, lt y v = true := fun v hv => by obtain ⟨c, a, b, rfl⟩ := of_drop hv; exact h2 c a b
  refine ⟨?_, ?_⟩
  · have h3 := (Rch.left y (xx.drop q) m2).ctx (xx.take q) []
    have e : xx ++ [y] = xx.take q ++ (xx.drop q ++ [y]) ++ [] := by rw [← List.append_assoc, List.take_append_drop, List.append_nil]
    rw [e]
    simpa using h3
  · rw [Srt.app]
    have h4 : Srt lt (xx.take q ++ xx.drop q) := by rw [List.take_append_drop]; exact hx
    rw [Srt.app] at h4
    refine ⟨h4.1, List.pairwise_cons.2 ⟨fun a ha => hs.asym (m2 a ha), h4.2.1⟩, fun a ha b hb => ?_⟩
    rcases List.mem_cons.1 hb with rfl | hb
    · exact m1 a ha
    · exact h4.2.2 a ha b hb
theorem sm_parts (hs : SWO lt) {xx yy L R : List α} {h s : Nat} (hx : Srt lt xx) (hy : Srt lt yy) (hh : h = (xx.length + yy.length) / 2) (hlo : h - yy.length ≤ s) (hhi : s ≤ h) (hhi2 : s ≤ xx.length)
    (h1 : ∀ c, c < s → h - yy.length ≤ c → lt (yy.getD (h - 1 - c) default) (xx.getD c default) = false) (h2 : ∀ c, s ≤ c → c < h → c < xx.length → lt (yy.getD (h - 1 - c) default) (xx.getD c default) = true)
    (hL : StS lt (xx.take s ++ yy.take (h - s)) L) (hR : StS lt (xx.drop s ++ yy.drop (h - s)) R) : StS lt (xx ++ yy) (L ++ R) := by
  have hb : ∀ v ∈ xx.drop s, ∀ u ∈ yy.take (h - s), lt u v = true := fun v hv u hu => by
    obtain ⟨c, c1, c2, rfl⟩ := of_drop hv
    obtain ⟨d, d1, d2, rfl⟩ := of_take hu
    have k1 := h2 s (Nat.le_refl _) (by omega) (by omega)
    have k2 := hy.at' hs (i := d) (j := h - 1 - s) (by omega) (by omega)
    have k3 := hx.at' hs (i := s) (j := c) c1 c2
    exact hs.tr1 (hs.tr2 k1 k2) k3
  have hx' : Srt lt (xx.take s ++ xx.drop s) := by rw [List.take_append_drop]; exact hx
  have hy' : Srt lt (yy.take (h - s) ++ yy.drop (h - s)) := by rw [List.take_append_drop]; exact hy
  rw [Srt.app] at hx' hy'
  have := StS.parts (xx.take s) (xx.drop s) (yy.take (h - s)) (yy.drop (h - s)) L R hL hR hb (fun u hu v hv => ?_)
  · rwa [List.take_append_drop, List.take_append_drop] at this
  rcases List.mem_append.1 hu with hu | hu <;> rcases List.mem_append.1 hv with hv | hv
  · exact hx'.2.2 u hu v hv
  · obtain ⟨c, c1, c2, rfl⟩ := of_take hu
    obtain ⟨d, d1, d2, rfl⟩ := of_drop hv
    by_cases hz : h - yy.length < s
    · have k1 := h1 (s - 1) (by omega) (by omega)
      rw [show h - 1 - (s - 1) = h - s by omega] at k1
      have k2 := hy.at' hs (i := h - s) (j := d) d1 d2
      have k3 := hx.at' hs (i := c) (j := s - 1) (by omega) (by omega)
      exact hs.nt _ _ _ (hs.nt _ _ _ k2 k1) k3
    · omega
  · exact hs.asym (hb v hv u hu)
  · exact hy'.2.2 u hu v hv
theorem tdl (xx : List α) (s : Nat) : xx.take s ++ xx.drop s = xx := List.take_append_drop s xx
theorem mono1 (hs : SWO lt) {yy : List α} {x : α} (hy : Srt lt yy) {i j : Nat} (hij : i ≤ j) (hj : j < yy.length) (h : lt (yy.getD j default) x = true) : lt (yy.getD i default) x = true := hs.tr2 h (hy.at' hs hij hj)
theorem mono1' (hs : SWO lt) {yy : List α} {x : α} (hy : Srt lt yy) {i j : Nat} (hij : i ≤ j) (hj : j < yy.length) (h : lt (yy.getD i default) x = false) : lt (yy.getD j default) x = false := hs.nt _ _ _ (hy.at' hs hij hj) h
theorem mono2 (hs : SWO lt) {xx : List α} {y : α} (hx : Srt lt xx) {i j : Nat} (hij : i ≤ j) (hj : j < xx.length) (h : lt y (xx.getD j default) = false) : lt y (xx.getD i default) = false := hs.nt _ _ _ h (hx.at' hs hij hj)
theorem mono2' (hs : SWO lt) {xx : List α} {y : α} (hx : Srt lt xx) {i j : Nat} (hij : i ≤ j) (hj : j < xx.length) (h : lt y (xx.getD i default) = true) : lt y (xx.getD j default) = true := hs.tr1 h (hx.at' hs hij hj)
end
end Go.Proofs.YtkkmageogkkchaaGreat
