/- Regions in whatever order in which one operation makes a block and those that turn blocks may make blocks, too. No condition. -/
import Derived.Test.YtfjoaeghnfkdlaaA9
import Derived.Test.YtfjoaeghnfkdlaaA7
import Derived.Test.YtfjoaeghnfkdlaaA8
import Derived.Test.YtfjoaeghnfkdlaaA15
set_option linter.unusedSimpArgs false
set_option linter.unusedVariables false
set_option maxHeartbeats 1000000
namespace Go.Proofs.Ytfjoaeghnfkdlaa
set_option maxRecDepth 100000
open Go.RowKit
section
variable {P : Program} {n : Md} {Q : Exit → Slots → Heap → Prop} {s : Slots} {h : Heap} {ops : Array Oper} {rest : List Oper} {o : Oper}
def hasNs (Ns : List Nat) (v : AV) : Bool := Ns.any fun N => hasId N v
def TuL (P : Program) (Ns : List Nat) (o : Oper) (s : Slots) (h h' : Heap) (v : AV) : Prop :=
  ∀ (E : Env) (σ : Sig) (ι : Nat → Value) (a : Act) (w : World), Rel E σ ι h w → (∀ y ∈ o.op.operands.toList, VR σ ι (evA s y) (a.eval y)) →
    ∀ (K : Act → World → Prop) (Q : Exit → Act → World → Prop), (∀ σ' ι' w' u, Sig.le σ σ' → (∀ (n : Md) (s : Slots) (a : Act), (∀ N ∈ Ns, ∀ t, hasId N (get s t) = false) → TR n σ ι s a → TR n σ' ι' s a) → Rel E σ' ι' h' w' → VR σ' ι' v u → K (a.put o.dst u) w') → o.wp P a w K Q
theorem TuL.congr {Ns : List Nat} {s s' : Slots} {h h' : Heap} {v : AV} (e : ∀ t, get s t = get s' t) (hk : TuL P Ns o s h h' v) : TuL P Ns o s' h h' v := fun E σ ι a w hr hx =>
  hk E σ ι a w hr fun x hm => by rw [evA_congr e]; exact hx x hm
theorem TuO.toL {Ns : List Nat} {h' : Heap} {v : AV} (hk : TuO P o s h h' v) : TuL P Ns o s h h' v := fun E σ ι a w hr hx K Q hK =>
  hk E σ ι a w hr hx K Q fun σ' ι' w' u k1 k2 k3 k4 => hK σ' ι' w' u k1 (fun n s a _ t => k2 n s a t) k3 k4
theorem TuL.post {Ns : List Nat} {h' h'' : Heap} {v : AV} (ht : TuL P Ns o s h h' v) (hh : LeH h' h'') : TuL P Ns o s h h'' v := fun E σ ι a w hr hv K Q hK =>
  ht E σ ι a w hr hv K Q fun σ' ι' w' u k1 k2 k3 k4 => hK σ' ι' w' u k1 k2 (k3.le hh) k4
theorem killL_none : ∀ (ids : List Nat) (s : Slots), (∀ i ∈ ids, ∀ t, hasId i (get s t) = false) → ∀ t, get (killL ids s) t = get s t
  | [], s, _, t => rfl
  | i :: r, s, h, t => by
    have e : ∀ t, get (killS i s) t = get s t := fun t => by rw [get_killS, h i List.mem_cons_self t]; rfl
    rw [killL, killL_none r (killS i s) (fun j hj t => by rw [e]; exact h j (List.mem_cons_of_mem _ hj) t), e]
theorem tl_call (ρ : Nat → Nat) {f : FuncId} {args : List AV} {hin hout : Heap} {v0 v : AV} {h' : Heap} {Ns : List Nat} (hf : FnH P f args hin (fun r h' => r = v0 ∧ h' = hout)) (hc : callA s o = some (f, renL ρ args)) (hsub : LeH h (renH ρ hin)) (hlow : lowQ (hids hin) = true) (hinj : injQ ρ (hids hin) = true)
    (hrow : (rowsR ρ (hids hin)).all (Nat.ble 5) = true) (hlone : loneL (rowsR ρ (hids hin)) (hdelL ((hids hin).map ρ) h) = true) (hNs : (rowsR ρ (hids hin)).all Ns.contains = true) (hcl : closedA (hids hin) v0 = true) (hclh : closedH (hids hin) hout = true) (hv : ren ρ v0 = v) (hh : LeH (renH ρ hout ++ hdelL ((hids hin).map ρ) h) h') : TuL P Ns o s h h' v := fun E σ ι a w hr hx K Q hK => by
  obtain ⟨vs, h1, h2⟩ := callA_spec (P := P) (w := w) hc hf.1 hx
  unfold Oper.wp
  rw [h1, Oper.upon_enter]
  have h2' : L2 (VR σ (fun i => ι (ρ i))) args vs := ⟨by rw [← renL_length ρ args]; exact h2.1, fun j c v hc hv => (h2.2 j (ren ρ c) v (by rw [renL_get, hc]; rfl) hv).unren c rfl⟩
  obtain ⟨may, pin, hr1, back⟩ := hr.lend ρ hsub hlow hinj hrow hlone
  refine (hf.2 may pin σ _ w vs hr1 h2').mono ?_
  rintro e w' ⟨u, r, h3, σ', ι', rfl, ⟨rfl, rfl⟩, h4, h5⟩
  obtain ⟨ι2, b1, b2, b3, b4⟩ := back w' _ σ' ι' h5 hclh
  refine hK σ' ι2 w' u b2 (fun n s a hN t => ?_) (b1.le hh) (by rw [← hv]; exact h4.reren b3 hcl)
  have b := b4 n s a t
  refine ⟨b.size, b.defers, fun t => ?_⟩
  have b5 := b.at_ t
  rwa [killL_none _ s (fun i hi t => hN i (List.contains_iff_mem.1 (List.all_eq_true.1 hNs i hi)) t)] at b5
def nwQ (ops : Array Oper) (tn : List Nat) (nw : Nat → List Nat) (m : Nat) (v : AV) : Bool := tn.all fun i => Nat.beq m i || (!hasNs (nw i) v || ((Region.before ops).getD m 0).testBit i)
def mQ (ops : Array Oper) (c N : Nat) (tn : List Nat) (nw : Nat → List Nat) (m : Nat) (v : AV) : Bool := nQ ops c N m v && nwQ ops tn nw m v
variable {β : Type} {H : β → Bool → Heap} {ok ok1 : β → Prop} {K : Slots → β → Prop} {tn ln : List Nat} {c N : Nat} {nw : Nat → List Nat}
def ADq (P : Program) (ops : Array Oper) (H : β → Bool → Heap) (ok ok1 : β → Prop) (tn ln : List Nat) (c N : Nat) (nw : Nat → List Nat) (K : Slots → β → Prop) : Nat → List Oper → Slots → β → Prop
  | _, [], s, x => ∃ s', (∀ t, get s t = get s' t) ∧ K s' x
  | m, o :: rest, s, x => (GoG ops s o ∧ m ≠ c ∧ tn.contains m = true ∧ ∃ x' v, ok x' ∧ (fO ops c m false = true → ok1 x') ∧ mQ ops c N tn nw m v = true ∧ (∀ f, fO ops c m f = true → TuL P (nw m) o s (H x f) (H x' f) v) ∧ ADq P ops H ok ok1 tn ln c N nw K (m + 1) rest (putS s o.dst v) x') ∨
      (GoG ops s o ∧ m = c ∧ ∃ v, mQ ops c N tn nw m v = true ∧ (∀ y, ok1 y → TuN P N o s (H y false) (H y true) v) ∧ ADq P ops H ok ok1 tn ln c N nw K (m + 1) rest (putS s o.dst v) x) ∨
      (GoG ops s o ∧ m ≠ c ∧ tn.contains m = false ∧ ∃ v, mQ ops c N tn nw m v = true ∧ ((ln.contains m = true ∧ ∀ f, fO ops c m f = true → OkO P o s (H x f) v) ∨ ∀ y f, ok y → OkO P o s (H y f) v) ∧ ADq P ops H ok ok1 tn ln c N nw K (m + 1) rest (putS s o.dst v) x) ∨
      (SkG ops s o ∧ m ≠ c ∧ tn.contains m = false ∧ ADq P ops H ok ok1 tn ln c N nw K (m + 1) rest (putS s o.dst (.tup [])) x)
def KnQ (P : Program) (H : β → Bool → Heap) (ok ok1 : β → Prop) (tn ln : List Nat) (c N : Nat) (nw : Nat → List Nat) (l : List Oper) (s : Slots) (vs : Nat → AV) (ys : Nat → β) (i : Nat) (o : Oper) : Prop :=
  (GoG l.toArray (stOf s l vs (fun _ => true) i) o ∧ i ≠ c ∧ tn.contains i = true ∧ mQ l.toArray c N tn nw i (vs i) = true ∧ (fO l.toArray c i false = true → ok1 (ys (cTn tn i + 1))) ∧ ∀ f, fO l.toArray c i f = true → TuL P (nw i) o (stOf s l vs (fun _ => true) i) (H (ys (cTn tn i)) f) (H (ys (cTn tn i + 1)) f) (vs i)) ∨
  (GoG l.toArray (stOf s l vs (fun _ => true) i) o ∧ i = c ∧ mQ l.toArray c N tn nw i (vs i) = true ∧ ∀ y, ok1 y → TuN P N o (stOf s l vs (fun _ => true) i) (H y false) (H y true) (vs i)) ∨
  (GoG l.toArray (stOf s l vs (fun _ => true) i) o ∧ i ≠ c ∧ tn.contains i = false ∧ mQ l.toArray c N tn nw i (vs i) = true ∧ ((ln.contains i = true ∧ ∀ f, fO l.toArray c i f = true → OkO P o (stOf s l vs (fun _ => true) i) (H (ys (cTn tn i)) f) (vs i)) ∨ ∀ y f, ok y → OkO P o (stOf s l vs (fun _ => true) i) (H y f) (vs i))) ∨
  (SkG l.toArray (stOf s l vs (fun _ => true) i) o ∧ i ≠ c ∧ vs i = .tup [] ∧ tn.contains i = false)
theorem knownQ (htc : tn.contains c = false) (l : List Oper) : ∀ (rest : List Oper) (m : Nat) (vs : Nat → AV) (ys : Nat → β), l.drop m = rest → m ≤ l.length → ADq P l.toArray H ok ok1 tn ln c N nw K m rest (stOf s l vs (fun _ => true) m) (ys (cTn tn m)) →
    (∀ k, k ≤ cTn tn m → ok (ys k)) → (∀ (i : Nat) (o : Oper), i < m → l[i]? = some o → KnQ P H ok ok1 tn ln c N nw l s vs ys i o) →
    ∃ (vs' : Nat → AV) (ys' : Nat → β), (∀ k, k = 0 → ys' k = ys k) ∧ (∃ s', (∀ t, get (stOf s l vs' (fun _ => true) l.length) t = get s' t) ∧ K s' (ys' (cTn tn l.length))) ∧ (∀ k, k ≤ cTn tn l.length → ok (ys' k)) ∧ ∀ (i : Nat) (o : Oper), l[i]? = some o → KnQ P H ok ok1 tn ln c N nw l s vs' ys' i o
  | [], m, vs, ys, hr, hm, hd, hok, hk => by
    have hm' : m = l.length := by
      have := List.drop_eq_nil_iff.1 hr; omega
    subst hm'
    exact ⟨vs, ys, fun _ _ => rfl, hd, hok, fun i o ho => hk i o (List.getElem?_eq_some_iff.1 ho).1 ho⟩
  | o :: rest, m, vs, ys, hr, hm, hd, hok, hk => by
    have hlt : m < l.length := by
      have : (l.drop m).length = (o :: rest).length := by rw [hr]
      simp at this; omega
    have ho : l[m]? = some o := by
      have : (l.drop m)[0]? = some o := by rw [hr]; rfl
      simpa using this
    have hr' : l.drop (m + 1) = rest := by rw [← List.drop_drop, hr]; rfl
    have hcm : ∀ i, i < m → tn.contains i = true → cTn tn i + 1 ≤ cTn tn m := fun i hi hs => by
      have h1 := cTn_succ tn i
      rw [hs, if_pos rfl] at h1
      have h2 : cTn tn (i + 1) ≤ cTn tn m := cTn_mono tn hi
      omega
    have hcle : ∀ i, i ≤ m → cTn tn i ≤ cTn tn m := fun i hi => cTn_mono tn hi
    have e : ∀ v k, k ≤ m → stOf s l (fun i => if i = m then v else vs i) (fun _ => true) k = stOf s l vs (fun _ => true) k := fun v k hk => stOf_congr k fun j hj => by
      show (if j = m then v else vs j) = vs j; rw [if_neg (by omega)]
    have go1 : ∀ v x', tn.contains m = true → ok x' → ADq P l.toArray H ok ok1 tn ln c N nw K (m + 1) rest (putS (stOf s l vs (fun _ => true) m) o.dst v) x' →
        (∀ (vs2 : Nat → AV) (ys2 : Nat → β), vs2 m = v → stOf s l vs2 (fun _ => true) m = stOf s l vs (fun _ => true) m → ys2 (cTn tn m) = ys (cTn tn m) → ys2 (cTn tn m + 1) = x' → KnQ P H ok ok1 tn ln c N nw l s vs2 ys2 m o) →
        ∃ (vs' : Nat → AV) (ys' : Nat → β), (∀ k, k = 0 → ys' k = ys k) ∧ (∃ s', (∀ t, get (stOf s l vs' (fun _ => true) l.length) t = get s' t) ∧ K s' (ys' (cTn tn l.length))) ∧ (∀ k, k ≤ cTn tn l.length → ok (ys' k)) ∧ ∀ (i : Nat) (o : Oper), l[i]? = some o → KnQ P H ok ok1 tn ln c N nw l s vs' ys' i o := by
      intro v x' hs hx' hd hkn
      have hc := cTn_succ tn m
      rw [hs, if_pos rfl] at hc
      obtain ⟨ys2, hys2⟩ : ∃ ys2 : Nat → β, ys2 = fun k => if k = cTn tn m + 1 then x' else ys k := ⟨_, rfl⟩
      have e1 : ∀ k, k ≤ cTn tn m → ys2 k = ys k := fun k hk => by rw [hys2]; show (if _ then _ else _) = _; rw [if_neg (by omega)]
      have e2 : ys2 (cTn tn m + 1) = x' := by rw [hys2]; show (if _ then _ else _) = _; rw [if_pos rfl]
      obtain ⟨vs', ys', q1, q2, q3, q4⟩ := knownQ htc l rest (m + 1) (fun i => if i = m then v else vs i) ys2 hr' hlt (by
          simp only [stOf, if_true, ho, Option.bind_some]
          rw [e v m (Nat.le_refl _), hc, e2]; exact hd)
        (fun k hk => by
          rw [hc] at hk
          by_cases hke : k = cTn tn m + 1
          · rw [hke, e2]; exact hx'
          · rw [e1 k (by omega)]; exact hok k (by omega))
        (fun i o' hi ho' => by
          by_cases him : i = m
          · subst him
            rw [ho] at ho'; cases ho'
            exact hkn _ _ (by simp) (e v i (Nat.le_refl _)) (e1 _ (Nat.le_refl _)) e2
          · have := hk i o' (by omega) ho'
            unfold KnQ at this ⊢
            simp only [e v i (by omega), if_neg him]
            rcases this with ⟨h0, hm, h1, hq, hq1, h2⟩ | ⟨h0, hm, hq, h2⟩ | ⟨h0, hm, h1, hq, h2⟩ | ⟨h0, hm, h1, h2⟩
            · exact .inl ⟨h0, hm, h1, hq, by rw [e1 _ (hcm i (by omega) h1)]; exact hq1, by rw [e1 _ (hcle i (by omega)), e1 _ (hcm i (by omega) h1)]; exact h2⟩
            · exact .inr (.inl ⟨h0, hm, hq, h2⟩)
            · exact .inr (.inr (.inl ⟨h0, hm, h1, hq, by rw [e1 _ (hcle i (by omega))]; exact h2⟩))
            · exact .inr (.inr (.inr ⟨h0, hm, h1, h2⟩)))
      exact ⟨vs', ys', fun k hk => (q1 k hk).trans (e1 k (by omega)), q2, q3, q4⟩
    have go2 : ∀ v, tn.contains m = false → ADq P l.toArray H ok ok1 tn ln c N nw K (m + 1) rest (putS (stOf s l vs (fun _ => true) m) o.dst v) (ys (cTn tn m)) →
        (∀ (vs2 : Nat → AV), vs2 m = v → stOf s l vs2 (fun _ => true) m = stOf s l vs (fun _ => true) m → KnQ P H ok ok1 tn ln c N nw l s vs2 ys m o) →
        ∃ (vs' : Nat → AV) (ys' : Nat → β), (∀ k, k = 0 → ys' k = ys k) ∧ (∃ s', (∀ t, get (stOf s l vs' (fun _ => true) l.length) t = get s' t) ∧ K s' (ys' (cTn tn l.length))) ∧ (∀ k, k ≤ cTn tn l.length → ok (ys' k)) ∧ ∀ (i : Nat) (o : Oper), l[i]? = some o → KnQ P H ok ok1 tn ln c N nw l s vs' ys' i o := by
      intro v hs hd hkn
      have hc := cTn_succ tn m
      rw [hs, if_neg (by simp), Nat.add_zero] at hc
      refine knownQ htc l rest (m + 1) (fun i => if i = m then v else vs i) ys hr' hlt ?_ (by rw [hc]; exact hok) ?_
      · simp only [stOf, if_true, ho, Option.bind_some]
        rw [e v m (Nat.le_refl _), hc]; exact hd
      · intro i o' hi ho'
        by_cases him : i = m
        · subst him
          rw [ho] at ho'; cases ho'
          exact hkn _ (by simp) (e v i (Nat.le_refl _))
        · have := hk i o' (by omega) ho'
          unfold KnQ at this ⊢
          simp only [e v i (by omega), if_neg him]
          exact this
    rcases hd with ⟨hg, hm, hs, x', v, hx', hx1, hq, htu, hd⟩ | ⟨hg, hm, v, hq, htn, hd⟩ | ⟨hg, hm, hs, v, hq, hv, hd⟩ | ⟨hg, hm, hs, hd⟩
    · exact go1 v x' hs hx' hd fun vs2 ys2 e1 e2 e3 e4 => .inl ⟨by rw [e2]; exact hg, hm, hs, by rw [e1]; exact hq, by rw [e4]; exact hx1, by rw [e1, e2, e3, e4]; exact htu⟩
    · exact go2 v (by rw [hm]; exact htc) hd fun vs2 e1 e2 => .inr (.inl ⟨by rw [e2]; exact hg, hm, by rw [e1]; exact hq, by rw [e1, e2]; exact htn⟩)
    · exact go2 v hs hd fun vs2 e1 e2 => .inr (.inr (.inl ⟨by rw [e2]; exact hg, hm, hs, by rw [e1]; exact hq, by rw [e1, e2]; exact hv⟩))
    · exact go2 (.tup []) hs hd fun vs2 e1 e2 => .inr (.inr (.inr ⟨by rw [e2]; exact hg, hm, e1, hs⟩))
theorem awp_drawQ {id : Nat} {l : List Oper} {x0 : β} (hm : P.follows .mixedOrders = true) (hok : drawOk n l = true) (hst : tuQ tn ln l = true) (hx0 : ok x0) (hx1 : ok1 x0) (hfr : ∀ t, hasId N (get s t) = false) (hfL : ∀ i, tn.contains i = true → ∀ N ∈ nw i, ∀ t, hasId N (get s t) = false) (htc : tn.contains c = false) (hcl0 : c < l.length) (hk : ADq P l.toArray H ok ok1 tn ln c N nw (fun s' x => Q .normal s' (H x true)) 0 l s x0) : AWp P n (.region id l.toArray true) Q s (H x0 false) := by
  intro E σ0 ι0 a w hr ht
  obtain ⟨vs, ys, hy0, ⟨sF, hF, hQ⟩, hoky, hkn⟩ := knownQ (s := s) (c := c) (N := N) (nw := nw) htc l l 0 (fun _ => .undef) (fun _ => x0) rfl (Nat.zero_le _) hk (fun _ _ => hx0) (fun i o hi => absurd hi (by omega))
  have hy0 := hy0 0 rfl
  refine wpIn_region_any hm ?_
  have hr' : Rel E σ0 ι0 (H (ys 0) false) { w with drawn := w.drawn + 1 } := by rw [hy0]; exact ⟨hr.os, hr.tape, hr.output, hr.size, hr.old, hr.sigOld, hr.sub, hr.ch, hr.foot, hr.dj, hr.pin, hr.low, hr.xo⟩
  have key : ∀ (fuel : Nat) (listed : Array Bool) (σ : Sig) (ι : Nat → Value) (a : Act) (w : World), listed.size = l.length →
      (∀ j o, l[j]? = some o → listed.getD j false = true → ∀ e ∈ o.after.toList, Region.binds .any e = true → listed.getD e.on false = true) →
      (List.range l.length).countP (fun j => !listed.getD j false) ≤ fuel →
      Rel E σ ι (H (ys (cLn tn l.length (fun j => listed.getD j false))) (listed.getD c false)) w → TR n σ ι (stOf s l vs (fun j => listed.getD j false) l.length) a →
      wpAnyIn (wideR n.ro) 0 P .any l.toArray (fun e a' w' => ∃ s' h' σ' ι', Q e s' h' ∧ Rel E σ' ι' h' w' ∧ TR n σ' ι' s' a') fuel listed a w := by
    have done : ∀ (listed : Array Bool) (σ : Sig) (ι : Nat → Value) (a : Act) (w : World), listed.size = l.length →
        Region.ready .any l.toArray listed = [] → Rel E σ ι (H (ys (cLn tn l.length (fun j => listed.getD j false))) (listed.getD c false)) w → TR n σ ι (stOf s l vs (fun j => listed.getD j false) l.length) a → ∃ s' h' σ' ι', Q .normal s' h' ∧ Rel E σ' ι' h' w ∧ TR n σ' ι' s' a := by
      intro listed σ ι a w hsz hready hr ht
      have hall : ∀ m j, j < m → j < l.length → listed.getD j false = true := by
        intro m
        induction m with
        | zero => intro j hj; omega
        | succ m ih =>
          intro j hj hlen
          by_cases hlt : j < m
          · exact ih j hlt hlen
          obtain rfl : j = m := by omega
          cases hl : listed.getD j false with
          | true => rfl
          | false =>
            exfalso
            have : j ∈ Region.ready .any l.toArray listed := by
              unfold Region.ready
              refine List.mem_filter.2 ⟨by simpa using hlen, ?_⟩
              have ho : l[j]? = some l[j] := List.getElem?_eq_getElem hlen
              have hj' : listed.getD j true = false := by
                have hb : j < listed.size := by omega
                simpa [Array.getD, hb] using hl
              simp only [hj', Bool.not_false, Bool.true_and, List.getElem?_toArray, ho, Option.map_some, Option.getD_some]
              rw [← Array.all_toList]
              refine List.all_eq_true.2 fun e he => ?_
              cases hb : Region.binds .any e with
              | false => simp
              | true =>
                have h3 := (drawOk_at hok ho).2.2.2.1 e he hb
                rw [ih e.on h3 (by omega)]; simp
            rw [hready] at this; cases this
      have hcl : cLn tn l.length (fun j => listed.getD j false) = cTn tn l.length := cLn_at (Nat.le_refl _) (fun j hj _ => hall _ j hj hj) (fun j hj hj2 => by omega)
      rw [hcl, hall _ c hcl0 hcl0] at hr
      refine ⟨_, _, σ, ι, hQ, hr, ?_⟩
      refine ⟨ht.size, ht.defers, fun t => ?_⟩
      have := ht.at_ t
      rwa [stOf_low (M := fun _ => true) l.length fun j hj _ => hall _ j hj hj, hF] at this
    intro fuel
    induction fuel with
    | zero =>
      intro listed σ ι a w hsz _ hc hr ht
      have hready : Region.ready .any l.toArray listed = [] := by
        rw [List.eq_nil_iff_forall_not_mem]
        intro j hj
        obtain ⟨h1, h2⟩ := List.mem_filter.1 hj
        have h1' : j < l.length := by simpa using h1
        have hb : j < listed.size := by omega
        have h3 : listed.getD j false = false := by
          have := (Bool.and_eq_true _ _ ▸ h2).1
          simpa [Array.getD, hb] using this
        have : 0 < (List.range l.length).countP (fun j => !listed.getD j false) := List.countP_pos_iff.2 ⟨j, List.mem_range.2 h1', by simp [h3]⟩
        omega
      exact ⟨hready, done listed σ ι a w hsz hready hr ht⟩
    | succ fuel ih =>
      intro listed σ ι a w hsz hdown hc hr ht
      refine ⟨fun hready => done listed σ ι a w hsz hready hr ht, fun i hi => ?_⟩
      obtain ⟨h1, h2⟩ := List.mem_filter.1 hi
      have hil : i < l.length := by simpa using h1
      have hb : i < listed.size := by omega
      have ho : l[i]? = some l[i] := List.getElem?_eq_getElem hil
      have h2' := Bool.and_eq_true _ _ ▸ h2
      have hif : listed.getD i false = false := by
        have := h2'.1
        simpa [Array.getD, hb] using this
      have hafter : ∀ e ∈ l[i].after.toList, Region.binds .any e = true → listed.getD e.on false = true := by
        have h3 := h2'.2
        simp only [List.getElem?_toArray, ho, Option.map_some, Option.getD_some] at h3
        rw [← Array.all_toList] at h3
        intro e he hbe
        have := List.all_eq_true.1 h3 e he
        simpa [hbe] using this
      have hopsA : ∀ j o, l.toArray[j]? = some o ↔ l[j]? = some o := fun j o => by rw [List.getElem?_toArray]
      obtain ⟨c0, c1, c2, c3, c4, c5⟩ := drawOk_at hok ho
      -- ahead of this one
      have hL' : ∀ x, (listed.setIfInBounds i true).getD x false = (listed.getD x false || x == i) := fun x => by
        by_cases hx : x = i
        · subst hx; simp [Array.getD, hb]
        · have : ¬ i = x := fun e => hx e.symm
          simp [Array.getD_eq_getD_getElem?, Array.getElem?_setIfInBounds, this, hx]
      have hdown' : ∀ j o, l[j]? = some o → (listed.setIfInBounds i true).getD j false = true → ∀ e ∈ o.after.toList, Region.binds .any e = true → (listed.setIfInBounds i true).getD e.on false = true := by
        intro j o hjo hj e he hbe
        rw [hL'] at hj ⊢
        rcases (Bool.or_eq_true _ _).mp hj with hj | hj
        · rw [hdown j o hjo hj e he hbe]; rfl
        · have : j = i := by simpa using hj
          subst this
          rw [ho] at hjo; cases hjo
          rw [hafter e he hbe]; rfl
      have hbef' := before_listed (ops := l.toArray) (L := fun j => (listed.setIfInBounds i true).getD j false) (fun j o hjo => hdown' j o ((hopsA j o).1 hjo))
      have hbef := before_listed (ops := l.toArray) (L := fun j => listed.getD j false) (fun j o hjo => hdown j o ((hopsA j o).1 hjo))
      have hlow : ∀ x, x ≠ i → ((Region.before l.toArray).getD i 0).testBit x = true → listed.getD x false = true := by
        intro x hx hbit
        have := hbef' i x (by simp [hL']) hbit
        simp only [hL'] at this
        rcases (Bool.or_eq_true _ _).mp this with h | h
        · exact h
        · exact absurd (by simpa using h) hx
      -- a slot that it names: those that write it ahead of it, in the text, have come up; the others have not
      have hside : ∀ t, (t ∈ tmpsOf l.toArray l[i] ∨ l[i].dst = some t) → ∀ j, j < l.length → (l[j]?).bind (·.dst) = some t → j ≠ i → listed.getD j false = decide (j < i) := by
        intro t htm j hj hjd hne
        have hd : dstAt l.toArray j = some t := by simpa [dstAt] using hjd
        have hbit := c5 j t hj hne hd htm
        by_cases hlt : j < i
        · rw [Nat.max_eq_right (by omega), Nat.min_eq_left (by omega)] at hbit
          rw [hlow j hne hbit]; simp [hlt]
        · have hgt : i < j := by omega
          rw [Nat.max_eq_left (by omega), Nat.min_eq_right (by omega)] at hbit
          simp only [hlt, decide_false]
          cases hc : listed.getD j false with
          | false => rfl
          | true => have := hbef j i hc hbit; simp only [hif] at this; cases this
      have hget : ∀ t, (t ∈ tmpsOf l.toArray l[i] ∨ l[i].dst = some t) → get (stOf s l vs (fun j => listed.getD j false) l.length) t = get (stOf s l vs (fun _ => true) i) t := by
        intro t htm
        rw [stOf_high (i := i) l.length (by omega) fun j h3 h4 hjd => ?_]
        · exact stOf_low i fun j h3 hjd => by rw [hside t htm j (by omega) hjd (by omega)]; simp [h3]
        · by_cases hji : j = i
          · subst hji; exact hif
          · rw [hside t htm j h4 hjd hji]; simp; omega
      have hcount : (List.range l.length).countP (fun j => !(listed.setIfInBounds i true).getD j false) ≤ fuel := by
        have hlt : (List.range l.length).countP (fun j => !(listed.setIfInBounds i true).getD j false) < (List.range l.length).countP (fun j => !listed.getD j false) := by
          have hsplit : List.range l.length = List.range i ++ i :: (List.range' (i + 1) (l.length - (i + 1))) := by
            obtain ⟨m, hm⟩ : ∃ m, l.length = i + (m + 1) := ⟨l.length - (i + 1), by omega⟩
            rw [hm, show i + (m + 1) - (i + 1) = m by omega, List.range_eq_range', List.range_eq_range', ← List.range'_append_1, List.range'_succ]
            simp
          rw [hsplit, List.countP_append, List.countP_append, List.countP_cons, List.countP_cons]
          have e1 : (List.range i).countP (fun j => !(listed.setIfInBounds i true).getD j false) = (List.range i).countP (fun j => !listed.getD j false) := List.countP_congr fun x hx => by
            rw [hL']; have := List.mem_range.1 hx; simp [show x ≠ i by omega]
          have e2 : (List.range' (i + 1) (l.length - (i + 1))).countP (fun j => !(listed.setIfInBounds i true).getD j false) = (List.range' (i + 1) (l.length - (i + 1))).countP (fun j => !listed.getD j false) := List.countP_congr fun x hx => by
            rw [hL']; have := (List.mem_range'_1.1 hx).1; simp [show x ≠ i by omega]
          rw [e1, e2, hL']
          simp [hif]
        omega
      have hcL' : cLn tn l.length (fun j => (listed.setIfInBounds i true).getD j false) = cLn tn l.length (fun j => listed.getD j false) + (if tn.contains i then 1 else 0) := by
        have hsplit : List.range l.length = List.range i ++ i :: (List.range' (i + 1) (l.length - (i + 1))) := by
          obtain ⟨m, hm⟩ : ∃ m, l.length = i + (m + 1) := ⟨l.length - (i + 1), by omega⟩
          rw [hm, show i + (m + 1) - (i + 1) = m by omega, List.range_eq_range', List.range_eq_range', ← List.range'_append_1, List.range'_succ]
          simp
        unfold cLn
        rw [hsplit, List.countP_append, List.countP_append, List.countP_cons, List.countP_cons]
        have e1 : (List.range i).countP (fun j => (listed.setIfInBounds i true).getD j false && tn.contains j) = (List.range i).countP (fun j => listed.getD j false && tn.contains j) := List.countP_congr fun x hx => by
          rw [hL']; have := List.mem_range.1 hx; simp [show x ≠ i by omega]
        have e2 : (List.range' (i + 1) (l.length - (i + 1))).countP (fun j => (listed.setIfInBounds i true).getD j false && tn.contains j) = (List.range' (i + 1) (l.length - (i + 1))).countP (fun j => listed.getD j false && tn.contains j) := List.countP_congr fun x hx => by
          rw [hL']; have := (List.mem_range'_1.1 hx).1; simp [show x ≠ i by omega]
        rw [e1, e2]
        simp only [hL', hif, BEq.rfl, Bool.or_true, Bool.true_and, Bool.false_and]
        cases tn.contains i <;> simp <;> omega
      have finN : ∀ σ' ι' w' u, TR n σ' ι' (stOf s l vs (fun j => listed.getD j false) l.length) a → Rel E σ' ι' (H (ys (cLn tn l.length (fun j => (listed.setIfInBounds i true).getD j false))) ((listed.setIfInBounds i true).getD c false)) w' → VR σ' ι' (vs i) u →
          wpAnyIn (wideR n.ro) 0 P .any l.toArray (fun e a' w' => ∃ s' h' σ' ι', Q e s' h' ∧ Rel E σ' ι' h' w' ∧ TR n σ' ι' s' a') fuel (listed.setIfInBounds i true) (a.put l[i].dst u) w' := by
        intro σ' ι' w' u hle hr'' hv
        refine ih _ σ' ι' _ w' (by simpa using hsz) hdown' hcount hr'' ?_
        have hp : TR n σ' ι' (putS (stOf s l vs (fun j => listed.getD j false) l.length) l[i].dst (vs i)) (a.put l[i].dst u) := hle.putS c2 hv
        refine ⟨hp.size, hp.defers, fun t => ?_⟩
        have h3 := hp.at_ t
        rw [get_putS] at h3
        by_cases hdt : l[i].dst = some t
        · rw [if_pos hdt] at h3
          have : get (stOf s l vs (fun j => (listed.setIfInBounds i true).getD j false) l.length) t = vs i := by
            rw [stOf_high (i := i + 1) l.length (by omega) fun j h4 h5 hjd => ?_]
            · simp only [stOf, hL', hif, BEq.rfl, Bool.or_true, if_true, get_putS, ho, Option.bind_some, if_pos hdt]
            · rw [hL', hside t (.inr hdt) j h5 hjd (by omega)]; simp; omega
          rw [this]; exact h3
        · rw [if_neg hdt] at h3
          have : get (stOf s l vs (fun j => (listed.setIfInBounds i true).getD j false) l.length) t = get (stOf s l vs (fun j => listed.getD j false) l.length) t :=
            stOf_low _ fun j h4 hjd => by
              rw [hL']
              have : j ≠ i := fun e => by subst e; rw [ho] at hjd; exact hdt (by simpa using hjd)
              simp [this]
          rw [this]; exact h3
      have fin := fun σ' ι' w' u (hle : ∀ (n : Md) (s : Slots) (a : Act), TR n σ ι s a → TR n σ' ι' s a) => finN σ' ι' w' u (hle _ _ _ ht)
      unfold wpOpIn
      simp only [List.getElem?_toArray, ho]
      have hopnd : ∀ x ∈ l[i].op.operands.toList, VR σ ι (evA (stOf s l vs (fun _ => true) i) x) (a.eval x) := by
        intro x hx
        refine evA_sound (List.all_eq_true.1 c1 x hx) fun t htx => ?_
        have htm : t ∈ tmpsOf l.toArray l[i] := List.mem_append_left _ (List.mem_filterMap.2 ⟨x, hx, by rw [htx]⟩)
        have := ht.at_ t
        rwa [hget t (.inl htm)] at this
      have hkn' := hkn i _ ho
      have hdn : ∀ j want d, l[i].guard = some (j, want) → dstAt l.toArray j = some d → d < n.n := fun j want d hg hd => by
        have hj : ∃ oj, l[j]? = some oj ∧ oj.dst = some d := by
          unfold dstAt at hd
          cases hjo : l[j]? with
          | none => simp [hjo] at hd
          | some oj => exact ⟨oj, rfl, by simpa [hjo] using hd⟩
        obtain ⟨oj, hjo, hjd⟩ := hj
        have := (drawOk_at hok hjo).2.2.1
        rw [hjd] at this
        simpa [dstOk] using this
      have hdt : ∀ j want d, l[i].guard = some (j, want) → dstAt l.toArray j = some d → d ∈ tmpsOf l.toArray l[i] := fun j want d hg hd => List.mem_append_right _ (by rw [hg]; simp [hd])
      have hwant : GoG l.toArray (stOf s l vs (fun _ => true) i) l[i] → Region.wanted l[i] (yielded l.toArray a.tmps) = true := by
        rintro (hg | ⟨j, want, d, hg, hd, hb'⟩)
        · simp [Region.wanted, hg]
        · have hv := ht.at_ d
          rw [hget d (.inl (hdt j want d hg hd)), hb'] at hv
          rw [wanted_of hg hd (by rw [ht.size]; exact hdn j want d hg hd) hv]
          simp
      have hskip : SkG l.toArray (stOf s l vs (fun _ => true) i) l[i] → Region.wanted l[i] (yielded l.toArray a.tmps) = false := by
        rintro ⟨j, want, d, hg, hd, hb'⟩
        have hv := ht.at_ d
        rcases hb' with hb' | hb'
        · rw [hget d (.inl (hdt j want d hg hd)), hb'] at hv
          rw [wanted_of hg hd (by rw [ht.size]; exact hdn j want d hg hd) hv]
          cases want <;> rfl
        · rw [hget d (.inl (hdt j want d hg hd)), hb'] at hv
          exact unwanted_of hg hd (by rw [ht.size]; exact hdn j want d hg hd) hv.tup0_inv
      -- an operation that touches what is turned: those in the text ahead of it have come up, the others have not
      have hstage : tn.contains i = true ∨ ln.contains i = true → cLn tn l.length (fun j => listed.getD j false) = cTn tn i := fun hmem => by
        refine cLn_at (by omega) (fun j hj hs => ?_) fun j hj hjl hs => ?_
        · refine hlow j (by omega) (tuQ_at hst hj hil ?_)
          rcases hmem with hmem | hmem <;> simp only [hs, hmem, Bool.true_or, Bool.or_true, Bool.true_and, Bool.and_true]
        · by_cases hji : j = i
          · subst hji; exact hif
          · have hbit := tuQ_at hst (show i < j by omega) hjl (by rcases hmem with hmem | hmem <;> simp only [hs, hmem, Bool.true_or, Bool.or_true, Bool.true_and, Bool.and_true])
            cases hc : listed.getD j false with
            | false => rfl
            | true => have := hbef j i hc hbit; simp only [hif] at this; cases this
      -- nothing that has come up names what is new
      have hfresh : i = c → ∀ k, k ≤ l.length → ∀ t, hasId N (get (stOf s l vs (fun j => listed.getD j false) k) t) = false := by
        intro hic
        refine st_fresh hfr fun k hk hLk => ?_
        have hne : k ≠ i := fun e => by simp only [e, hif] at hLk; cases hLk
        have hkk := hkn k _ (List.getElem?_eq_getElem hk)
        have hq : mQ l.toArray c N tn nw k (vs k) = true ∨ vs k = .tup [] := by
          unfold KnQ at hkk
          rcases hkk with ⟨_, _, _, hq, _, _⟩ | ⟨_, _, hq, _⟩ | ⟨_, _, _, hq, _⟩ | ⟨_, _, hq, _⟩
          · exact .inl hq
          · exact .inl hq
          · exact .inl hq
          · exact .inr hq
        rcases hq with hq | hq
        · have hq := (Bool.and_eq_true _ _ ▸ hq).1
          rw [nQ, show Nat.beq k c = false from Bool.eq_false_iff.2 (fun e => hne (by rw [hic]; exact Nat.eq_of_beq_eq_true e)), Bool.false_or] at hq
          rcases (Bool.or_eq_true _ _).mp hq with hq | hq
          · simpa using hq
          · have := hbef k c hLk hq
            simp only [← hic, hif] at this; cases this
        · rw [hq]; rfl
      -- .. nor what one that turns is to make
      have hfreshL : tn.contains i = true → ∀ N' ∈ nw i, ∀ t, hasId N' (get (stOf s l vs (fun j => listed.getD j false) l.length) t) = false := by
        intro hti N' hN'
        refine st_fresh (hfL i hti N' hN') (fun k hk hLk => ?_) l.length (Nat.le_refl _)
        have hne : k ≠ i := fun e => by simp only [e, hif] at hLk; cases hLk
        have hkk := hkn k _ (List.getElem?_eq_getElem hk)
        have hq : mQ l.toArray c N tn nw k (vs k) = true ∨ vs k = .tup [] := by
          unfold KnQ at hkk
          rcases hkk with ⟨_, _, _, hq, _, _⟩ | ⟨_, _, hq, _⟩ | ⟨_, _, _, hq, _⟩ | ⟨_, _, hq, _⟩
          · exact .inl hq
          · exact .inl hq
          · exact .inl hq
          · exact .inr hq
        rcases hq with hq | hq
        · have hq := List.all_eq_true.1 (Bool.and_eq_true _ _ ▸ hq).2 i (List.contains_iff_mem.1 hti)
          rw [show Nat.beq k i = false from Bool.eq_false_iff.2 (fun e => hne (Nat.eq_of_beq_eq_true e)), Bool.false_or] at hq
          rcases (Bool.or_eq_true _ _).mp hq with hq | hq
          · simp only [Bool.not_eq_true'] at hq
            cases hh : hasId N' (vs k) with
            | false => rfl
            | true => exact absurd (List.any_eq_true.2 ⟨N', hN', hh⟩) (by unfold hasNs at hq; rw [hq]; simp)
          · have := hbef k i hLk hq
            simp only [hif] at this; cases this
        · rw [hq]; rfl
      have hLc : i ≠ c → (listed.setIfInBounds i true).getD c false = listed.getD c false := fun hne => by
        rw [hL', show (c == i) = false from by simp; exact fun e => hne e.symm, Bool.or_false]
      have hfO : i ≠ c → fO l.toArray c i (listed.getD c false) = true := fun hne => by
        rw [fO]
        by_cases hci : c < i
        · rw [show Nat.blt c i = true by simp only [Nat.blt_eq]; exact hci, cond_true]
          cases hL : listed.getD c false with
          | true => rfl
          | false =>
            cases hb2 : ((Region.before l.toArray).getD i 0).testBit c with
            | false => rfl
            | true => have := hlow c (by omega) hb2; rw [hL] at this; cases this
        · rw [show Nat.blt c i = false from Bool.eq_false_iff.2 (fun e => by rw [Nat.blt_eq] at e; omega), cond_false]
          cases hL : listed.getD c false with
          | false => rfl
          | true =>
            cases hb2 : ((Region.before l.toArray).getD c 0).testBit i with
            | false => rfl
            | true => have := hbef c i hL hb2; simp only [hif] at this; cases this
      unfold KnQ at hkn'
      rcases hkn' with ⟨hg, hic, hs, _, _, hS⟩ | ⟨hg, hic, _, hSN⟩ | ⟨hg, hic, hs, _, hO⟩ | ⟨hg, hic, hv0, hy⟩
      · rw [if_pos (hwant hg)]
        refine op_R c0 ?_
        have hc := hstage (.inl hs)
        rw [hc] at hr
        refine hS _ (hfO hic) E σ ι a w hr hopnd _ _ fun σ' ι' w' u h2 h3 h4 h5 => finN σ' ι' w' u (h3 n _ a (hfreshL hs) ht) ?_ h5
        rw [hcL', hs, if_pos rfl, hc, hLc hic]; exact h4
      · have hs : tn.contains i = false := by rw [hic]; exact htc
        have hc2 : cLn tn l.length (fun j => (listed.setIfInBounds i true).getD j false) = cLn tn l.length (fun j => listed.getD j false) := by rw [hcL', hs]; simp
        rw [if_pos (hwant hg)]
        refine op_R c0 ?_
        have hok1 : ok1 (ys (cLn tn l.length (fun j => listed.getD j false))) := by
          rcases last_of (tn := tn) (fun j => listed.getD j false) l.length with h6 | ⟨j, h6, h7, h8, h9⟩
          · rw [cLn_at (i := 0) (Nat.zero_le _) (fun j hj => by omega) (fun j _ hj ht => h6 j hj ht)]
            show ok1 (ys 0)
            rw [hy0]; exact hx1
          · rw [cLn_at (i := j + 1) (by omega) (fun k hk ht => ?_) (fun k hk hkl ht => h9 k (by omega) hkl ht)]
            · rw [cTn_succ, h7, if_pos rfl]
              have hkk := hkn j _ (List.getElem?_eq_getElem h6)
              unfold KnQ at hkk
              rcases hkk with ⟨_, _, _, _, hq1, _⟩ | ⟨_, e, _⟩ | ⟨_, _, e, _⟩ | ⟨_, _, _, e⟩
              · refine hq1 ?_
                rw [fO]
                cases hcj : Nat.blt c j with
                | false => rfl
                | true =>
                  cases hb2 : ((Region.before l.toArray).getD j 0).testBit c with
                  | false => rfl
                  | true => have := hbef j c h8 hb2; simp only [← hic, hif] at this; cases this
              · rw [e, htc] at h7; cases h7
              · rw [h7] at e; cases e
              · rw [h7] at e; cases e
            · by_cases hkj : k = j
              · subst hkj; exact h8
              · exact hbef j k h8 (tuQ_at hst (by omega) h6 (by simp only [ht, h7, Bool.true_or, Bool.true_and]))
        have hf0 : listed.getD c false = false := by rw [← hic]; exact hif
        have hf1 : (listed.setIfInBounds i true).getD c false = true := by rw [hL', hic]; simp
        rw [hf0] at hr
        refine hSN _ hok1 E σ ι a w hr hopnd _ _ fun σ' ι' w' u h2 h3 h4 h5 => finN σ' ι' w' u (h3 n _ a (hfresh hic l.length (Nat.le_refl _)) ht) ?_ h5
        rw [hc2, hf1]; exact h4
      · have hc2 : cLn tn l.length (fun j => (listed.setIfInBounds i true).getD j false) = cLn tn l.length (fun j => listed.getD j false) := by rw [hcL', hs]; simp
        rw [if_pos (hwant hg)]
        refine op_R c0 ?_
        rcases hO with ⟨hl, hO⟩ | hO
        · rw [hstage (.inr hl)] at hr
          exact hO _ (hfO hic) E σ ι a w hr hopnd _ _ fun σ' w' u h3 h4 h5 => fin σ' ι w' u (fun _ _ _ t => t.mono h3) (by rw [hc2, hstage (.inr hl), hLc hic]; exact h4) h5
        · have hcle : cLn tn l.length (fun j => listed.getD j false) ≤ cTn tn l.length := by
            refine List.countP_mono_left fun x _ hx => ?_
            exact (Bool.and_eq_true _ _ ▸ hx).2
          exact hO _ _ (hoky _ hcle) E σ ι a w hr hopnd _ _ fun σ' w' u h3 h4 h5 => fin σ' ι w' u (fun _ _ _ t => t.mono h3) (by rw [hc2, hLc hic]; exact h4) h5
      · rw [if_neg (by rw [hskip hg]; simp)]
        refine ⟨fun _ _ => trivial, fin σ ι w undef (fun _ _ _ t => t) ?_ (by rw [hv0]; exact VR.tup0)⟩
        rw [hLc hic, hcL', hy]; simpa using hr
  have hrep : ∀ j, (Array.replicate l.toArray.size false).getD j false = false := fun j => by
    simp only [Array.getD_eq_getD_getElem?, Array.getElem?_replicate]; split <;> rfl
  have hc0 : cLn tn l.length (fun j => (Array.replicate l.toArray.size false).getD j false) = 0 := by
    unfold cLn; rw [List.countP_eq_zero]; intro j _; simp only [hrep]; simp
  refine key l.toArray.size _ σ0 ι0 a _ (by simp) ?_ ?_ (by rw [hc0, hrep]; exact hr') ?_
  · intro j o hj hl
    rw [hrep] at hl; cases hl
  · refine Nat.le_trans List.countP_le_length ?_
    simp
  · refine ⟨ht.size, ht.defers, fun t => ?_⟩
    have := ht.at_ t
    rw [stOf_high (i := 0) l.length (Nat.zero_le _) fun j _ _ _ => hrep j]
    exact this

structure QW (P : Program) (ops : Array Oper) (H : β → Bool → Heap) (ok ok1 : β → Prop) (tn ln : List Nat) (c N : Nat) (nw : Nat → List Nat) (K : Slots → β → Prop) (m : Nat) (rest : List Oper) (s : Slots) (x : β) : Prop where
  out : ADq P ops H ok ok1 tn ln c N nw K m rest s x
variable {m : Nat} {x : β}
theorem qw_nil (hk : K s x) : QW P ops H ok ok1 tn ln c N nw K m [] s x := ⟨⟨s, fun _ => rfl, hk⟩⟩
theorem qw_any {v : AV} (hg : o.guard = none) (hm : Nat.beq m c = false) (ht : tn.contains m = false) (hv : ∀ y f, ok y → Y P o s (H y f) v) (hq : mQ ops c N tn nw m v = true) (hk : QW P ops H ok ok1 tn ln c N nw K (m + 1) rest (putS s o.dst v) x) : QW P ops H ok ok1 tn ln c N nw K m (o :: rest) s x :=
  ⟨.inr (.inr (.inl ⟨.inl hg, fun e => by rw [e] at hm; simp at hm, ht, v, hq, .inr fun y f hy => (hv y f hy).out, hk.out⟩))⟩
theorem qw_tu {v : AV} {x' : β} (hg : o.guard = none) (hm : Nat.beq m c = false) (ht : tn.contains m = true) (hx : ok x') (hx1 : ok1 x') (hv : ∀ f, fO ops c m f = true → TuL P (nw m) o s (H x f) (H x' f) v) (hq : mQ ops c N tn nw m v = true) (hk : QW P ops H ok ok1 tn ln c N nw K (m + 1) rest (putS s o.dst v) x') : QW P ops H ok ok1 tn ln c N nw K m (o :: rest) s x :=
  ⟨.inl ⟨.inl hg, fun e => by rw [e] at hm; simp at hm, ht, x', v, hx, fun _ => hx1, hq, hv, hk.out⟩⟩
theorem qw_tu1 {v : AV} {x' : β} (hg : o.guard = none) (hm : Nat.beq m c = false) (ht : tn.contains m = true) (hx : ok x') (hf : fO ops c m false = false) (hv : TuL P (nw m) o s (H x true) (H x' true) v) (hq : mQ ops c N tn nw m v = true) (hk : QW P ops H ok ok1 tn ln c N nw K (m + 1) rest (putS s o.dst v) x') : QW P ops H ok ok1 tn ln c N nw K m (o :: rest) s x :=
  ⟨.inl ⟨.inl hg, fun e => by rw [e] at hm; simp at hm, ht, x', v, hx, (fun h => by rw [hf] at h; cases h), hq, (fun f h => by cases f; (rw [hf] at h; cases h); exact hv), hk.out⟩⟩
theorem qw_new {v : AV} (hg : o.guard = none) (hm : Nat.beq m c = true) (hq : mQ ops c N tn nw m v = true) (hv : ∀ y, ok1 y → TuN P N o s (H y false) (H y true) v) (hk : QW P ops H ok ok1 tn ln c N nw K (m + 1) rest (putS s o.dst v) x) : QW P ops H ok ok1 tn ln c N nw K m (o :: rest) s x :=
  ⟨.inr (.inl ⟨.inl hg, Nat.eq_of_beq_eq_true hm, v, hq, hv, hk.out⟩)⟩
theorem wdrawQ {id : Nat} {l : List Oper} (H : β → Bool → Heap) (ok ok1 : β → Prop) (tn ln : List Nat) (c N : Nat) (nw : Nat → List Nat) (x0 : β) (hh : LeH h (H x0 false)) (hm : P.follows .mixedOrders = true) (hok : drawOk n l = true) (hst : tuQ tn ln l = true) (hx0 : ok x0) (hx1 : ok1 x0) (hfr : freshS N s = true) (hfL : (tn.all fun i => (nw i).all fun N => freshS N s) = true) (htc : tn.contains c = false) (hcl : Nat.blt c l.length = true) (hk : QW P l.toArray H ok ok1 tn ln c N nw (fun s' x => Q .normal s' (H x true)) 0 l s x0) : W P n (.region id l.toArray true) Q s h :=
  wle (LeS.refl s) hh ⟨awp_drawQ hm hok hst hx0 hx1 (freshS_get hfr) (fun i hi N hN => freshS_get (List.all_eq_true.1 (List.all_eq_true.1 hfL i (List.contains_iff_mem.1 hi)) N hN)) htc (by simpa [Nat.blt_eq] using hcl) hk.out⟩
end
end Go.Proofs.Ytfjoaeghnfkdlaa
namespace Go.Proofs.Ytfjoaeghnfkdlaa
set_option maxRecDepth 100000
open Go.RowKit
section
variable {P : Program} {n : Md} {Q : Exit → Slots → Heap → Prop} {s : Slots} {h : Heap} {ops : Array Oper} {rest : List Oper} {o : Oper}
end
end Go.Proofs.Ytfjoaeghnfkdlaa
namespace Go.Proofs.Ytfjoaeghnfkdlaa
set_option maxRecDepth 100000
open Go.RowKit
section
variable {P : Program} {n : Md} {Q : Exit → Slots → Heap → Prop} {s : Slots} {h : Heap} {ops : Array Oper} {rest : List Oper} {o : Oper}
end
end Go.Proofs.Ytfjoaeghnfkdlaa
namespace Go.Proofs.Ytfjoaeghnfkdlaa
set_option maxRecDepth 100000
set_option maxRecDepth 100000
open Go.RowKit
def actP (i : Int) (j : Job) : Bool := decide (j.task = i ∧ j.fin < 0)
def actI (js : List Job) (i : Int) : Int := match js.findIdx? (actP i) with
  | some k => (k : Int)
  | none => -1
theorem getD_lt {js : List Job} {k : Nat} (hk : k < js.length) : js.getD k default = js[k] := by
  rw [List.getD_eq_getElem?_getD, List.getElem?_eq_getElem hk, Option.getD_some]
theorem actI_at {js : List Job} {i : Int} {k : Nat} (hk : k < js.length) (h : ∀ j, j < k → actP i (js.getD j default) = false) (hp : actP i (js.getD k default) = true) : actI js i = (k : Int) := by
  have : js.findIdx? (actP i) = some k := by
    rw [List.findIdx?_eq_some_iff_getElem]
    refine ⟨hk, by rw [← getD_lt hk]; exact hp, fun j hj => ?_⟩
    have h2 := h j hj
    rw [getD_lt (by omega)] at h2
    rw [h2]; decide
  rw [actI, this]
theorem actI_no {js : List Job} {i : Int} (h : ∀ j, j < js.length → actP i (js.getD j default) = false) : actI js i = -1 := by
  have : js.findIdx? (actP i) = none := by
    rw [List.findIdx?_eq_none_iff]
    intro x hx
    obtain ⟨j, hj, rfl⟩ := List.mem_iff_getElem.1 hx
    have := h j hj
    rwa [getD_lt hj] at this
  rw [actI, this]
theorem actI_good {l : List Task} {n : Nat} {B : Bk} (h : GoodB l n B) (i : Int) : actI B.all i = if hasN B.act i = true then (posB B i : Int) else -1 := by
  split
  · rename_i hh
    obtain ⟨p1, p2, p3, p4⟩ := h.pos hh
    rw [jobAt] at p3 p4
    refine actI_at p2 (fun j hj => ?_) (decide_eq_true ⟨p3, p4⟩)
    refine decide_eq_false fun e => ?_
    have := (h.opn j (by omega) e.2).2
    rw [e.1, p1] at this
    have := Int.ofNat.inj (Option.some.inj this)
    omega
  · rename_i hh
    refine actI_no fun j hj => decide_eq_false fun e => ?_
    have := (h.opn j hj e.2).1
    rw [e.1] at this
    exact hh this
abbrev rbP (l : List Task) (js : List Job) (os : List Due) : Heap :=
  [(0, .blk 84 [.lst 7 (l.map eTask), .own 1, .own 2]), (1, .row 74 8 (js.map eJob)), (2, .row 41 2 (os.map eDue))]
abbrev rbH (l : List Task) (js : List Job) (os : List Due) : Heap :=
  [(0, .blk 84 [.lst 7 (l.map eTask), .own 5, .own 6]), (5, .row 74 8 (js.map eJob)), (6, .row 41 2 (os.map eDue))]
set_option maxHeartbeats 2000000 in
theorem ractive_fn (l : List Task) (js : List Job) (os : List Due) (hl : js.length ≤ 1000000) (i : Int) : FnH Try.prog 62 [.ptr 0 0, .int .i64 i] (rbP l js os) (fun r h' => r = .int .i64 (actI js i) ∧ h' = rbP l js os) := by
  refine FnH.drop' (fnhb Try.func62 (entered_of (by kernel_rfl)) rfl rfl ?_)
  repeat' (first | refine sA ?_ | ((first | apply kM | apply kN); (iterate 3 (· exact rfl)); (· first | exact ya)) | refine sG ?_ | (refine sK ?_ ?_ <;> intro hc <;> (try simp only [KL, sL, reduceCtorEq] at hc) <;> (try (have hT : True := hc; clear hT hc)) <;> (try (exfalso; omega))))
  refine wloop (fun k : Nat => ([(0, .ptr 0 0), (1, .int .i64 i), (10, .own 1), (11, .int .i64 js.length), (12, .int .i64 k)], rbP l js os)) (fun k => k ≤ js.length ∧ ∀ j, j < k → actP i (js.getD j default) = false) (fun k => js.length - k) 0 ⟨Nat.zero_le _, fun j hj => by omega⟩ les leh (fun k hk => ?_)
  obtain ⟨hk1, hk2⟩ := hk
  rcases Nat.lt_or_eq_of_le hk1 with hlt | rfl
  · by_cases hp : (js.getD k default).task = i ∧ (js.getD k default).fin < 0
    · rw [actI_at hlt hk2 (decide_eq_true hp)]
      obtain ⟨h1, h2⟩ := hp
      repeat' (first | refine sA ?_ | (show O _ _ _ _ _ _ _; first | refine ao_alloc (id := 20) rfl rfl rfl rfl rfl rfl rfl ?_) | ((first | apply kM | apply kN); (iterate 3 (· exact rfl)); (· first | exact ya)) | refine sG ?_ | (refine sK ?_ ?_ <;> intro hc <;> (try simp only [KL, sL, reduceCtorEq] at hc) <;> (try (have hT : True := hc; clear hT hc)) <;> (try (exfalso; omega))))
      all_goals first | (exfalso; omega) | exact retq rfl ⟨rbP l js os, leh, rfl, rfl⟩
    · have hnx : ∀ j, j < k + 1 → actP i (js.getD j default) = false := fun j hj => by
        rcases Nat.lt_or_eq_of_le (Nat.le_of_lt_succ hj) with q | q
        · exact hk2 j q
        · subst q; exact decide_eq_false hp
      repeat' (first | refine sA ?_ | (show O _ _ _ _ _ _ _; first | refine ao_alloc (id := 20) rfl rfl rfl rfl rfl rfl rfl ?_) | ((first | apply kM | apply kN); (iterate 3 (· exact rfl)); (· first | exact ya)) | refine sG ?_ | (refine sK ?_ ?_ <;> intro hc <;> (try simp only [KL, sL, reduceCtorEq] at hc) <;> (try (have hT : True := hc; clear hT hc)) <;> (try (exfalso; omega))))
      all_goals first | (exfalso; omega) | exact ⟨k + 1, ⟨by omega, hnx⟩, by omega, les, leh⟩
  · rw [actI_no hk2]
    repeat' (first | refine sA ?_ | ((first | apply kM | apply kN); (iterate 3 (· exact rfl)); (· first | exact ya)) | refine sG ?_ | (refine sK ?_ ?_ <;> intro hc <;> (try simp only [KL, sL, reduceCtorEq] at hc) <;> (try (have hT : True := hc; clear hT hc)) <;> (try (exfalso; omega))))
    all_goals first | (exfalso; omega) | exact retq rfl ⟨rbP l js os, leh, rfl, rfl⟩
def ρr (i : Nat) : Nat := [0, 5, 6].getD i (i + 20)
theorem rinT_fn (n : Int) : Fn Try.prog 84 [.int .i64 n, .int .i64 0, .int .i64 1099511627776] (.int .i64 (inT n)) := by
  unfold inT
  refine fnb Try.func84 (entered_of (by kernel_rfl)) rfl rfl rfl ?_
  repeat' (first | refine sA ?_ | ((first | apply kM | apply kN); (iterate 3 (· exact rfl)); (· first | exact ya)) | refine sG ?_ | (refine sK ?_ ?_ <;> intro hc <;> (try simp only [KL, sL, reduceCtorEq] at hc) <;> (try (have hT : True := hc; clear hT hc)) <;> (try (exfalso; omega))))
  all_goals first | (exfalso; omega) | exact retq rfl (congrArg (AV.int .i64) (by omega))
theorem raddT_fn (a b : Int) : Fn Try.prog 85 [.int .i64 a, .int .i64 b] (.int .i64 (addT a b)) := by
  have h1 := inT_le a
  have h2 := inT_le b
  refine fnb Try.func85 (entered_of (by kernel_rfl)) rfl rfl rfl ?_
  repeat' (first | refine sA ?_ | ((first | apply kM | apply kN); (iterate 3 (· exact rfl)); (· first | exact ya | exact q_c (rinT_fn _) rfl)) | refine sG ?_ | (refine sK ?_ ?_ <;> intro hc <;> (try simp only [KL, sL, reduceCtorEq] at hc) <;> (try (have hT : True := hc; clear hT hc)) <;> (try (exfalso; omega))))
  exact retq rfl rfl
set_option maxHeartbeats 4000000 in
theorem rrelJ_fn (l : List Task) (B : Bk) (n : Nat) (h : GoodB (hd64 l) n B) (hn : n ≤ 100000) (i t : Int) : FnH Try.prog 61 [.ptr 0 0, .int .i64 i, .int .i64 t] (rbH l B.all B.overs)
    (fun r h' => r = .tup [.int .i64 (if relOk (hd64 l) B i then noB B i else 0), .bool (relOk (hd64 l) B i)] ∧ h' = rbH l (relBk (hd64 l) B i t).all (relBk (hd64 l) B i t).overs) := by
  refine FnH.drop' (fnhb Try.func61 (entered_of (by kernel_rfl)) rfl rfl ?_)
  have hlen : (hd64 l).length = min l.length 64 := by rw [hd64, List.length_take]; omega
  have halen := h.alen
  have holen := h.olen
  have c1 := rinT_fn t
  have ht := inT_le t
  have c2 := ractive_fn l B.all B.overs (by omega) i
  rw [actI_good h i] at c2
  by_cases h0 : i < 0 ∨ ((hd64 l).length : Int) ≤ i
  · have e1 : relOk (hd64 l) B i = false := by rw [relOk, decide_eq_true h0]; rfl
    have e2 : relBk (hd64 l) B i t = B := by rw [relBk, if_pos h0]
    rw [e1, e2]
    repeat' (first | refine sA ?_ | ((first | apply kM | apply kN); (iterate 3 (· exact rfl)); (· first | exact ya)) | refine sG ?_ | (refine sK ?_ ?_ <;> intro hc <;> (try simp only [KL, sL, reduceCtorEq] at hc) <;> (try (have hT : True := hc; clear hT hc)) <;> (try (exfalso; omega))))
    all_goals first | (exfalso; omega) | exact retq rfl ⟨rbH l B.all B.overs, leh, rfl, rfl⟩
  have hr : 0 ≤ i ∧ i < l.length ∧ i ≤ 63 := by omega
  cases hh : hasN B.act i
  case true =>
    have e1 : relOk (hd64 l) B i = false := by rw [relOk, hh, Bool.not_true, Bool.and_false]
    have e2 : relBk (hd64 l) B i t = { B with overs := B.overs ++ [⟨inT t, i⟩] } := by rw [relBk, if_neg h0, if_pos hh]
    rw [e1, e2]
    rw [hh, if_pos rfl] at c2
    repeat' (first | refine sA ?_ | ((first | apply kM | apply kN); (iterate 3 (· exact rfl)); (· first | exact ya | exact q_c (c1) rfl)) | refine sG ?_ | (refine sK ?_ ?_ <;> intro hc <;> (try simp only [KL, sL, reduceCtorEq] at hc) <;> (try (have hT : True := hc; clear hT hc)) <;> (try (exfalso; omega))))
    all_goals first | (exfalso; omega) | skip
    refine zcall (fun i => ρr i) (c2) rfl rfl leh rfl rfl rfl rfl rfl rfl (fun r h' hR => ?_)
    obtain ⟨rfl, rfl⟩ := hR
    refine ⟨rfl, rfl, ?_⟩
    repeat' (first | refine sA ?_ | ((first | apply kM | apply kN); (iterate 3 (· exact rfl)); (· first | exact ya)) | refine sG ?_ | (refine sK ?_ ?_ <;> intro hc <;> (try simp only [KL, sL, reduceCtorEq] at hc) <;> (try (have hT : True := hc; clear hT hc)) <;> (try (exfalso; omega))))
    all_goals first | (exfalso; omega) | skip
    refine oturn (turn_mask [false, false, true] (id := 0) rfl) ?_
    refine ole (h' := [(6, .row 41 2 (B.overs.map eDue)), (0, .blk 84 [.lst 7 (l.map eTask), .own 5, .undef]), (5, .row 74 8 (B.all.map eJob))]) (LeS.refl _) leh ?_
    (refine ao_ap (id := 6) (ys := [(⟨inT t, i⟩ : Due)]) (by_ := 16) rfl rfl rfl rfl rfl rfl rfl rfl rfl rfl (fun _ _ => rfl) ?_ ?_ rfl rfl rfl rfl rfl ?_; (· (first | omega | ((try simp only [List.length_cons, List.length_nil, List.length_append, List.length_map]) <;> omega))); (· (first | omega | ((try simp only [List.length_cons, List.length_nil, List.length_append, List.length_map]) <;> omega))))
    repeat' (first | refine sA ?_ | ((first | apply kM | apply kN); (iterate 3 (· exact rfl)); (· first | exact ya)) | refine sG ?_ | (refine sK ?_ ?_ <;> intro hc <;> (try simp only [KL, sL, reduceCtorEq] at hc) <;> (try (have hT : True := hc; clear hT hc)) <;> (try (exfalso; omega))))
    exact retq rfl ⟨rbH l B.all (B.overs ++ [⟨inT t, i⟩]), leh, rfl, rfl⟩
  case false =>
    have e1 : relOk (hd64 l) B i = true := by rw [relOk, decide_eq_false h0, hh]; rfl
    have e2 : relBk (hd64 l) B i t = ⟨B.all ++ [newJb (hd64 l) B i t], setM B.now i B.all.length, setM B.cnt i (noB B i + 1), putN B.act i, B.overs⟩ := by rw [relBk, if_neg h0, if_neg (by rw [hh]; exact Bool.false_ne_true)]
    rw [e1, e2, if_pos rfl]
    rw [hh, if_neg (by decide)] at c2
    have hcnt := h.cnt i
    have ej : newJb (hd64 l) B i t = ⟨i, noB B i, inT t, addT (inT t) (l.getD i.toNat default).deadline, -1, -1, 0, false⟩ := by
      rw [newJb, hd64, List.getD_eq_getElem?_getD, List.getElem?_take, if_pos (by omega), ← List.getD_eq_getElem?_getD]
    rw [ej, hcnt]
    repeat' (first | refine sA ?_ | ((first | apply kM | apply kN); (iterate 3 (· exact rfl)); (· first | exact ya | exact q_c (c1) rfl)) | refine sG ?_ | (refine sK ?_ ?_ <;> intro hc <;> (try simp only [KL, sL, reduceCtorEq] at hc) <;> (try (have hT : True := hc; clear hT hc)) <;> (try (exfalso; omega))))
    all_goals first | (exfalso; omega) | skip
    refine zcall (fun i => ρr i) (c2) rfl rfl leh rfl rfl rfl rfl rfl rfl (fun r h' hR => ?_)
    obtain ⟨rfl, rfl⟩ := hR
    refine ⟨rfl, rfl, ?_⟩
    repeat' (first | refine sA ?_ | ((first | apply kM | apply kN); (iterate 3 (· exact rfl)); (· first | exact ya)) | refine sG ?_ | (refine sK ?_ ?_ <;> intro hc <;> (try simp only [KL, sL, reduceCtorEq] at hc) <;> (try (have hT : True := hc; clear hT hc)) <;> (try (exfalso; omega))))
    all_goals first | (exfalso; omega) | skip
    refine wloop (fun k : Nat => ([(0, .ptr 0 0), (1, .int .i64 i), (2, .int .i64 (inT t)), (8, .int .i64 (cntT (B.all.take k) i)), (47, .own 5), (48, .int .i64 B.all.length), (49, .int .i64 k)], rbH l B.all B.overs)) (fun k => k ≤ B.all.length) (fun k => B.all.length - k) 0 (Nat.zero_le _) les leh (fun k hk => ?_)
    have hcl := cntT_le (B.all.take k) i
    have htl : (B.all.take k).length = k := by rw [List.length_take]; omega
    rcases Nat.lt_or_eq_of_le hk with hlt | rfl
    · have hnx := cntJ_next B.all i k hlt
      by_cases htk : (B.all.getD k default).task = i
      · rw [if_pos htk] at hnx
        repeat' (first | refine sA ?_ | (show O _ _ _ _ _ _ _; first | refine ao_alloc (id := 20) rfl rfl rfl rfl rfl rfl rfl ?_) | ((first | apply kM | apply kN); (iterate 3 (· exact rfl)); (· first | exact ya)) | refine sG ?_ | (refine sK ?_ ?_ <;> intro hc <;> (try simp only [KL, sL, reduceCtorEq] at hc) <;> (try (have hT : True := hc; clear hT hc)) <;> (try (exfalso; omega))))
        all_goals first | (exfalso; omega) | exact ⟨k + 1, by omega, by omega, by simp only [hnx]; exact les, leh⟩
      · rw [if_neg htk, Int.add_zero] at hnx
        repeat' (first | refine sA ?_ | (show O _ _ _ _ _ _ _; first | refine ao_alloc (id := 20) rfl rfl rfl rfl rfl rfl rfl ?_) | ((first | apply kM | apply kN); (iterate 3 (· exact rfl)); (· first | exact ya)) | refine sG ?_ | (refine sK ?_ ?_ <;> intro hc <;> (try simp only [KL, sL, reduceCtorEq] at hc) <;> (try (have hT : True := hc; clear hT hc)) <;> (try (exfalso; omega))))
        all_goals first | (exfalso; omega) | exact ⟨k + 1, by omega, by omega, by simp only [hnx]; exact les, leh⟩
    · rw [List.take_length] at *
      generalize cntT B.all i = no at *
      repeat' (first | refine sB ?_ | ((first | apply kM | apply kN); (iterate 3 (· exact rfl)); (· first | exact ya)) | refine sG ?_ | (refine sK ?_ ?_ <;> intro hc <;> (try simp only [KL, sL, reduceCtorEq] at hc) <;> (try (have hT : True := hc; clear hT hc)) <;> (try (exfalso; omega))))
      all_goals first | (exfalso; omega) | skip
      refine wle (s' := [(0, .ptr 0 0), (1, .int .i64 i), (2, .int .i64 (inT t)), (8, .int .i64 no)]) (h' := rbH l B.all B.overs) les leh ?_
      refine wdrawK (H := fun y : List Job × AV => [(5, .row 74 8 (y.1.map eJob)), (0, .blk 84 [.lst 7 (l.map eTask), y.2, .own 6]), (6, .row 41 2 (B.overs.map eDue))]) (ok := fun _ => True) (tn := [20, 23]) (ln := [4]) (c := 20) (R := 5) (B.all, .own 5) leh (by kernel_rfl) (by kernel_rfl) (by kernel_rfl) trivial ?_
      repeat' (first | refine sA ?_ | ((first | apply kM | apply kN); (iterate 3 (· exact rfl)); (· first | exact ya | exact q_c (raddT_fn _ _) rfl)) | (show KW _ _ _ _ _ _ _ _ _ _ _ _ _; first | refine knil rfl ?_ | (apply k_any; (· exact rfl); (· exact rfl); (· exact rfl); (· intro y' hy'; first | exact ya | exact q_c (raddT_fn _ _) rfl); (· first | exact rfl | kernel_rfl)) | (apply k_ld; (· exact rfl); (· exact rfl); (· exact rfl); (· exact rfl); (· first | exact ya | exact q_c (raddT_fn _ _) rfl); (· first | exact rfl | kernel_rfl))) | refine sG ?_ | (refine sK ?_ ?_ <;> intro hc <;> (try simp only [KL, sL, reduceCtorEq] at hc) <;> (try (have hT : True := hc; clear hT hc)) <;> (try (exfalso; omega))))
      refine k_mv (x' := (B.all ++ [(⟨i, no, inT t, addT (inT t) (l.getD i.toNat default).deadline, -1, -1, 0, false⟩ : Job)], .undef)) rfl rfl rfl trivial
        (TuK.post (TuK.pre (pre_mask (h2 := [(5, .row 74 8 (B.all.map eJob)), (0, .blk 84 [.lst 7 (l.map eTask), .undef, .own 6]), (6, .row 41 2 (B.overs.map eDue))]) [false, true] (id := 0) rfl leh)
          (tk_append (ys := [(⟨i, no, inT t, addT (inT t) (l.getD i.toNat default).deadline, -1, -1, 0, false⟩ : Job)]) (by_ := 64) rfl rfl rfl rfl rfl rfl rfl rfl rfl rfl (fun _ _ => rfl) (by simp only [List.length_cons, List.length_nil]; omega) (by simp only [List.length_cons, List.length_nil]; omega) rfl rfl)) leh) ?_
      repeat' (first | refine sA ?_ | ((first | apply kM | apply kN); (iterate 3 (· exact rfl)); (· first | exact ya)) | (show KW _ _ _ _ _ _ _ _ _ _ _ _ _; first | refine knil rfl ?_ | (apply k_any; (· exact rfl); (· exact rfl); (· exact rfl); (· intro y' hy'; first | exact ya); (· first | exact rfl | kernel_rfl)) | (apply k_ld; (· exact rfl); (· exact rfl); (· exact rfl); (· exact rfl); (· first | exact ya); (· first | exact rfl | kernel_rfl))) | refine sG ?_ | (refine sK ?_ ?_ <;> intro hc <;> (try simp only [KL, sL, reduceCtorEq] at hc) <;> (try (have hT : True := hc; clear hT hc)) <;> (try (exfalso; omega))))
      refine k_tu (x' := (B.all ++ [(⟨i, no, inT t, addT (inT t) (l.getD i.toNat default).deadline, -1, -1, 0, false⟩ : Job)], .own 5)) rfl rfl rfl trivial ((tu_st (sto_B rfl rfl rfl rfl rfl rfl (Nat.le_of_ble_eq_true rfl)) rfl).post leh) (by kernel_rfl) ?_
      repeat' (first | refine sA ?_ | ((first | apply kM | apply kN); (iterate 3 (· exact rfl)); (· first | exact ya)) | (show KW _ _ _ _ _ _ _ _ _ _ _ _ _; first | refine knil rfl ?_ | (apply k_any; (· exact rfl); (· exact rfl); (· exact rfl); (· intro y' hy'; first | exact ya); (· first | exact rfl | kernel_rfl)) | (apply k_ld; (· exact rfl); (· exact rfl); (· exact rfl); (· exact rfl); (· first | exact ya); (· first | exact rfl | kernel_rfl))) | refine sG ?_ | (refine sK ?_ ?_ <;> intro hc <;> (try simp only [KL, sL, reduceCtorEq] at hc) <;> (try (have hT : True := hc; clear hT hc)) <;> (try (exfalso; omega))))
      exact retq rfl ⟨rbH l (B.all ++ [(⟨i, no, inT t, addT (inT t) (l.getD i.toNat default).deadline, -1, -1, 0, false⟩ : Job)]) B.overs, leh, rfl, rfl⟩
end Go.Proofs.Ytfjoaeghnfkdlaa
