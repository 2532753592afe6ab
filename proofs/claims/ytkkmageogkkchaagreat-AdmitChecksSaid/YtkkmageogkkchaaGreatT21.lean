/- A region that draws its order, in which several blocks are made. No condition. -/
import Derived.Test.YtkkmageogkkchaaGreatT14
import Derived.Test.YtkkmageogkkchaaGreatT5
import Derived.Test.YtkkmageogkkchaaGreatT18
import Derived.Test.YtkkmageogkkchaaGreatT20
import Derived.Test.YtkkmageogkkchaaGreatT6
import Derived.Test.YtkkmageogkkchaaGreatT17
set_option linter.unusedSimpArgs false
set_option linter.unusedVariables false
set_option maxHeartbeats 1000000
namespace Go.Proofs.YtkkmageogkkchaaGreat
set_option maxRecDepth 100000
open Go.RowKit
section
variable {P : Program} {n : Md} {Q : Exit → Slots → Heap → Prop} {s : Slots} {h : Heap} {ops : Array Oper} {rest : List Oper} {o : Oper}
variable {H : (Nat → Bool) → Heap} {cs : List Nat} {nm : Nat → Nat} {K : Slots → Prop}
def setB (f : Nat → Bool) (m : Nat) : Nat → Bool := fun k => if k = m then true else f k
def nQm (ops : Array Oper) (cs : List Nat) (nm : Nat → Nat) (m : Nat) (v : AV) : Bool := cs.all fun c => Nat.beq m c || (!hasId (nm c) v || ((Region.before ops).getD m 0).testBit c)
def ADm (P : Program) (ops : Array Oper) (H : (Nat → Bool) → Heap) (cs : List Nat) (nm : Nat → Nat) (K : Slots → Prop) : Nat → List Oper → Slots → Prop
  | _, [], s => ∃ s', (∀ t, get s t = get s' t) ∧ K s'
  | m, o :: rest, s => (GoG ops s o ∧ cs.contains m = true ∧ ∃ v, nQm ops cs nm m v = true ∧ (∀ f : Nat → Bool, f m = false → TuN P (nm m) o s (H f) (H (setB f m)) v) ∧ ADm P ops H cs nm K (m + 1) rest (putS s o.dst v)) ∨
      (GoG ops s o ∧ cs.contains m = false ∧ ∃ v, nQm ops cs nm m v = true ∧ (∀ f, OkO P o s (H f) v) ∧ ADm P ops H cs nm K (m + 1) rest (putS s o.dst v)) ∨
      (SkG ops s o ∧ cs.contains m = false ∧ ADm P ops H cs nm K (m + 1) rest (putS s o.dst (.tup [])))
def KnM (P : Program) (H : (Nat → Bool) → Heap) (cs : List Nat) (nm : Nat → Nat) (l : List Oper) (s : Slots) (vs : Nat → AV) (i : Nat) (o : Oper) : Prop :=
  (GoG l.toArray (stOf s l vs (fun _ => true) i) o ∧ cs.contains i = true ∧ nQm l.toArray cs nm i (vs i) = true ∧ ∀ f : Nat → Bool, f i = false → TuN P (nm i) o (stOf s l vs (fun _ => true) i) (H f) (H (setB f i)) (vs i)) ∨
  (GoG l.toArray (stOf s l vs (fun _ => true) i) o ∧ cs.contains i = false ∧ nQm l.toArray cs nm i (vs i) = true ∧ ∀ f, OkO P o (stOf s l vs (fun _ => true) i) (H f) (vs i)) ∨
  (SkG l.toArray (stOf s l vs (fun _ => true) i) o ∧ cs.contains i = false ∧ vs i = .tup [])
theorem knownM (l : List Oper) : ∀ (rest : List Oper) (m : Nat) (vs : Nat → AV), l.drop m = rest → m ≤ l.length → ADm P l.toArray H cs nm K m rest (stOf s l vs (fun _ => true) m) →
    (∀ (i : Nat) (o : Oper), i < m → l[i]? = some o → KnM P H cs nm l s vs i o) →
    ∃ (vs' : Nat → AV), (∃ s', (∀ t, get (stOf s l vs' (fun _ => true) l.length) t = get s' t) ∧ K s') ∧ ∀ (i : Nat) (o : Oper), l[i]? = some o → KnM P H cs nm l s vs' i o
  | [], m, vs, hr, hm, hd, hk => by
    have hm' : m = l.length := by
      have := List.drop_eq_nil_iff.1 hr; omega
    subst hm'
    exact ⟨vs, hd, fun i o ho => hk i o (List.getElem?_eq_some_iff.1 ho).1 ho⟩
  | o :: rest, m, vs, hr, hm, hd, hk => by
    have hlt : m < l.length := by
      have : (l.drop m).length = (o :: rest).length := by rw [hr]
      simp at this; omega
    have ho : l[m]? = some o := by
      have : (l.drop m)[0]? = some o := by rw [hr]; rfl
      simpa using this
    have hr' : l.drop (m + 1) = rest := by rw [← List.drop_drop, hr]; rfl
    have e : ∀ v k, k ≤ m → stOf s l (fun i => if i = m then v else vs i) (fun _ => true) k = stOf s l vs (fun _ => true) k := fun v k hk => stOf_congr k fun j hj => by
      show (if j = m then v else vs j) = vs j; rw [if_neg (by omega)]
    have go2 : ∀ v, ADm P l.toArray H cs nm K (m + 1) rest (putS (stOf s l vs (fun _ => true) m) o.dst v) →
        (∀ (vs2 : Nat → AV), vs2 m = v → stOf s l vs2 (fun _ => true) m = stOf s l vs (fun _ => true) m → KnM P H cs nm l s vs2 m o) →
        ∃ (vs' : Nat → AV), (∃ s', (∀ t, get (stOf s l vs' (fun _ => true) l.length) t = get s' t) ∧ K s') ∧ ∀ (i : Nat) (o : Oper), l[i]? = some o → KnM P H cs nm l s vs' i o := by
      intro v hd hkn
      refine knownM l rest (m + 1) (fun i => if i = m then v else vs i) hr' hlt ?_ ?_
      · simp only [stOf, if_true, ho, Option.bind_some]
        rw [e v m (Nat.le_refl _)]; exact hd
      · intro i o' hi ho'
        by_cases him : i = m
        · subst him
          rw [ho] at ho'; cases ho'
          exact hkn _ (by simp) (e v i (Nat.le_refl _))
        · have := hk i o' (by omega) ho'
          unfold KnM at this ⊢
          simp only [e v i (by omega), if_neg him]
          exact this
    rcases hd with ⟨hg, hm, v, hq, htn, hd⟩ | ⟨hg, hm, v, hq, hv, hd⟩ | ⟨hg, hm, hd⟩
    · exact go2 v hd fun vs2 e1 e2 => .inl ⟨by rw [e2]; exact hg, hm, by rw [e1]; exact hq, by rw [e1, e2]; exact htn⟩
    · exact go2 v hd fun vs2 e1 e2 => .inr (.inl ⟨by rw [e2]; exact hg, hm, by rw [e1]; exact hq, by rw [e1, e2]; exact hv⟩)
    · exact go2 (.tup []) hd fun vs2 e1 e2 => .inr (.inr ⟨by rw [e2]; exact hg, hm, e1⟩)
theorem awp_drawM {id : Nat} {l : List Oper} (hm : P.follows .mixedOrders = true) (hok : drawOk n l = true) (hcs : ∀ f g : Nat → Bool, (∀ c ∈ cs, f c = g c) → H f = H g) (hcl : ∀ c ∈ cs, c < l.length) (hfr : ∀ c ∈ cs, ∀ t, hasId (nm c) (get s t) = false) (hk : ADm P l.toArray H cs nm (fun s' => Q .normal s' (H fun _ => true)) 0 l s) : AWp P n (.region id l.toArray true) Q s (H fun _ => false) := by
  intro E σ0 ι0 a w hr ht
  obtain ⟨vs, ⟨sF, hF, hQ⟩, hkn⟩ := knownM (s := s) (cs := cs) (nm := nm) l l 0 (fun _ => .undef) rfl (Nat.zero_le _) hk (fun i o hi => absurd hi (by omega))
  refine wpIn_region_any hm ?_
  have hr' : Rel E σ0 ι0 (H fun _ => false) { w with drawn := w.drawn + 1 } := ⟨hr.os, hr.tape, hr.output, hr.size, hr.old, hr.sigOld, hr.sub, hr.ch, hr.foot, hr.dj, hr.pin, hr.low, hr.xo⟩
  have key : ∀ (fuel : Nat) (listed : Array Bool) (σ : Sig) (ι : Nat → Value) (a : Act) (w : World), listed.size = l.length →
      (∀ j o, l[j]? = some o → listed.getD j false = true → ∀ e ∈ o.after.toList, Region.binds .any e = true → listed.getD e.on false = true) →
      (List.range l.length).countP (fun j => !listed.getD j false) ≤ fuel →
      Rel E σ ι (H (fun j => listed.getD j false)) w → TR n σ ι (stOf s l vs (fun j => listed.getD j false) l.length) a →
      wpAnyIn (wideR n.ro) 0 P .any l.toArray (fun e a' w' => ∃ s' h' σ' ι', Q e s' h' ∧ Rel E σ' ι' h' w' ∧ TR n σ' ι' s' a') fuel listed a w := by
    have done : ∀ (listed : Array Bool) (σ : Sig) (ι : Nat → Value) (a : Act) (w : World), listed.size = l.length →
        Region.ready .any l.toArray listed = [] → Rel E σ ι (H (fun j => listed.getD j false)) w → TR n σ ι (stOf s l vs (fun j => listed.getD j false) l.length) a → ∃ s' h' σ' ι', Q .normal s' h' ∧ Rel E σ' ι' h' w ∧ TR n σ' ι' s' a := by
      intro listed σ ι a w hsz hready hr ht
      have hall : ∀ m j, j < m → j < l.length → listed.getD j false = true := by
        intro m
        induction m with
        | zero => intro j hj; omega
        | succ m ih =>
          intro j hj hlen
          by_cases hlt : j < m
          · exact ih j hlt hlen
          obtain rfl : j = m := by omega
          cases hl : listed.getD j false with
          | true => rfl
          | false =>
            exfalso
            have : j ∈ Region.ready .any l.toArray listed := by
              unfold Region.ready
              refine List.mem_filter.2 ⟨by simpa using hlen, ?_⟩
              have ho : l[j]? = some l[j] := List.getElem?_eq_getElem hlen
              have hj' : listed.getD j true = false := by
                have hb : j < listed.size := by omega
                simpa [Array.getD, hb] using hl
              simp only [hj', Bool.not_false, Bool.true_and, List.getElem?_toArray, ho, Option.map_some, Option.getD_some]
              rw [← Array.all_toList]
              refine List.all_eq_true.2 fun e he => ?_
              cases hb : Region.binds .any e with
              | false => simp
              | true =>
                have h3 := (drawOk_at hok ho).2.2.2.1 e he hb
                rw [ih e.on h3 (by omega)]; simp
            rw [hready] at this; cases this
      rw [hcs (fun j => listed.getD j false) (fun _ => true) (fun c hc => hall _ c (hcl c hc) (hcl c hc))] at hr
      refine ⟨_, _, σ, ι, hQ, hr, ?_⟩
      refine ⟨ht.size, ht.defers, fun t => ?_⟩
      have := ht.at_ t
      rwa [stOf_low (M := fun _ => true) l.length fun j hj _ => hall _ j hj hj, hF] at this
    intro fuel
    induction fuel with
    | zero =>
      intro listed σ ι a w hsz _ hc hr ht
      have hready : Region.ready .any l.toArray listed = [] := by
        rw [List.eq_nil_iff_forall_not_mem]
        intro j hj
        obtain ⟨h1, h2⟩ := List.mem_filter.1 hj
        have h1' : j < l.length := by simpa using h1
        have hb : j < listed.size := by omega
        have h3 : listed.getD j false = false := by
          have := (Bool.and_eq_true _ _ ▸ h2).1
          simpa [Array.getD, hb] using this
        have : 0 < (List.range l.length).countP (fun j => !listed.getD j false) := List.countP_pos_iff.2 ⟨j, List.mem_range.2 h1', by simp [h3]⟩
        omega
      exact ⟨hready, done listed σ ι a w hsz hready hr ht⟩
    | succ fuel ih =>
      intro listed σ ι a w hsz hdown hc hr ht
      refine ⟨fun hready => done listed σ ι a w hsz hready hr ht, fun i hi => ?_⟩
      obtain ⟨h1, h2⟩ := List.mem_filter.1 hi
      have hil : i < l.length := by simpa using h1
      have hb : i < listed.size := by omega
      have ho : l[i]? = some l[i] := List.getElem?_eq_getElem hil
      have h2' := Bool.and_eq_true _ _ ▸ h2
      have hif : listed.getD i false = false := by
        have := h2'.1
        simpa [Array.getD, hb] using this
      have hafter : ∀ e ∈ l[i].after.toList, Region.binds .any e = true → listed.getD e.on false = true := by
        have h3 := h2'.2
        simp only [List.getElem?_toArray, ho, Option.map_some, Option.getD_some] at h3
        rw [← Array.all_toList] at h3
        intro e he hbe
        have := List.all_eq_true.1 h3 e he
        simpa [hbe] using this
      have hopsA : ∀ j o, l.toArray[j]? = some o ↔ l[j]? = some o := fun j o => by rw [List.getElem?_toArray]
      obtain ⟨c0, c1, c2, c3, c4, c5⟩ := drawOk_at hok ho
      -- ahead of this one
      have hL' : ∀ x, (listed.setIfInBounds i true).getD x false = (listed.getD x false || x == i) := fun x => by
        by_cases hx : x = i
        · subst hx; simp [Array.getD, hb]
        · have : ¬ i = x := fun e => hx e.symm
          simp [Array.getD_eq_getD_getElem?, Array.getElem?_setIfInBounds, this, hx]
      have hdown' : ∀ j o, l[j]? = some o → (listed.setIfInBounds i true).getD j false = true → ∀ e ∈ o.after.toList, Region.binds .any e = true → (listed.setIfInBounds i true).getD e.on false = true := by
        intro j o hjo hj e he hbe
        rw [hL'] at hj ⊢
        rcases (Bool.or_eq_true _ _).mp hj with hj | hj
        · rw [hdown j o hjo hj e he hbe]; rfl
        · have : j = i := by simpa using hj
          subst this
          rw [ho] at hjo; cases hjo
          rw [hafter e he hbe]; rfl
      have hbef' := before_listed (ops := l.toArray) (L := fun j => (listed.setIfInBounds i true).getD j false) (fun j o hjo => hdown' j o ((hopsA j o).1 hjo))
      have hbef := before_listed (ops := l.toArray) (L := fun j => listed.getD j false) (fun j o hjo => hdown j o ((hopsA j o).1 hjo))
      have hlow : ∀ x, x ≠ i → ((Region.before l.toArray).getD i 0).testBit x = true → listed.getD x false = true := by
        intro x hx hbit
        have := hbef' i x (by simp [hL']) hbit
        simp only [hL'] at this
        rcases (Bool.or_eq_true _ _).mp this with h | h
        · exact h
        · exact absurd (by simpa using h) hx
      -- a slot that it names: those that write it ahead of it, in the text, have come up; the others have not
      have hside : ∀ t, (t ∈ tmpsOf l.toArray l[i] ∨ l[i].dst = some t) → ∀ j, j < l.length → (l[j]?).bind (·.dst) = some t → j ≠ i → listed.getD j false = decide (j < i) := by
        intro t htm j hj hjd hne
        have hd : dstAt l.toArray j = some t := by simpa [dstAt] using hjd
        have hbit := c5 j t hj hne hd htm
        by_cases hlt : j < i
        · rw [Nat.max_eq_right (by omega), Nat.min_eq_left (by omega)] at hbit
          rw [hlow j hne hbit]; simp [hlt]
        · have hgt : i < j := by omega
          rw [Nat.max_eq_left (by omega), Nat.min_eq_right (by omega)] at hbit
          simp only [hlt, decide_false]
          cases hc : listed.getD j false with
          | false => rfl
          | true => have := hbef j i hc hbit; simp only [hif] at this; cases this
      have hget : ∀ t, (t ∈ tmpsOf l.toArray l[i] ∨ l[i].dst = some t) → get (stOf s l vs (fun j => listed.getD j false) l.length) t = get (stOf s l vs (fun _ => true) i) t := by
        intro t htm
        rw [stOf_high (i := i) l.length (by omega) fun j h3 h4 hjd => ?_]
        · exact stOf_low i fun j h3 hjd => by rw [hside t htm j (by omega) hjd (by omega)]; simp [h3]
        · by_cases hji : j = i
          · subst hji; exact hif
          · rw [hside t htm j h4 hjd hji]; simp; omega
      have hcount : (List.range l.length).countP (fun j => !(listed.setIfInBounds i true).getD j false) ≤ fuel := by
        have hlt : (List.range l.length).countP (fun j => !(listed.setIfInBounds i true).getD j false) < (List.range l.length).countP (fun j => !listed.getD j false) := by
          have hsplit : List.range l.length = List.range i ++ i :: (List.range' (i + 1) (l.length - (i + 1))) := by
            obtain ⟨m, hm⟩ : ∃ m, l.length = i + (m + 1) := ⟨l.length - (i + 1), by omega⟩
            rw [hm, show i + (m + 1) - (i + 1) = m by omega, List.range_eq_range', List.range_eq_range', ← List.range'_append_1, List.range'_succ]
            simp
          rw [hsplit, List.countP_append, List.countP_append, List.countP_cons, List.countP_cons]
          have e1 : (List.range i).countP (fun j => !(listed.setIfInBounds i true).getD j false) = (List.range i).countP (fun j => !listed.getD j false) := List.countP_congr fun x hx => by
            rw [hL']; have := List.mem_range.1 hx; simp [show x ≠ i by omega]
          have e2 : (List.range' (i + 1) (l.length - (i + 1))).countP (fun j => !(listed.setIfInBounds i true).getD j false) = (List.range' (i + 1) (l.length - (i + 1))).countP (fun j => !listed.getD j false) := List.countP_congr fun x hx => by
            rw [hL']; have := (List.mem_range'_1.1 hx).1; simp [show x ≠ i by omega]
          rw [e1, e2, hL']
          simp [hif]
        omega
      have finN : ∀ σ' ι' w' u, TR n σ' ι' (stOf s l vs (fun j => listed.getD j false) l.length) a → Rel E σ' ι' (H (fun j => (listed.setIfInBounds i true).getD j false)) w' → VR σ' ι' (vs i) u →
          wpAnyIn (wideR n.ro) 0 P .any l.toArray (fun e a' w' => ∃ s' h' σ' ι', Q e s' h' ∧ Rel E σ' ι' h' w' ∧ TR n σ' ι' s' a') fuel (listed.setIfInBounds i true) (a.put l[i].dst u) w' := by
        intro σ' ι' w' u hle hr'' hv
        refine ih _ σ' ι' _ w' (by simpa using hsz) hdown' hcount hr'' ?_
        have hp : TR n σ' ι' (putS (stOf s l vs (fun j => listed.getD j false) l.length) l[i].dst (vs i)) (a.put l[i].dst u) := hle.putS c2 hv
        refine ⟨hp.size, hp.defers, fun t => ?_⟩
        have h3 := hp.at_ t
        rw [get_putS] at h3
        by_cases hdt : l[i].dst = some t
        · rw [if_pos hdt] at h3
          have : get (stOf s l vs (fun j => (listed.setIfInBounds i true).getD j false) l.length) t = vs i := by
            rw [stOf_high (i := i + 1) l.length (by omega) fun j h4 h5 hjd => ?_]
            · simp only [stOf, hL', hif, BEq.rfl, Bool.or_true, if_true, get_putS, ho, Option.bind_some, if_pos hdt]
            · rw [hL', hside t (.inr hdt) j h5 hjd (by omega)]; simp; omega
          rw [this]; exact h3
        · rw [if_neg hdt] at h3
          have : get (stOf s l vs (fun j => (listed.setIfInBounds i true).getD j false) l.length) t = get (stOf s l vs (fun j => listed.getD j false) l.length) t :=
            stOf_low _ fun j h4 hjd => by
              rw [hL']
              have : j ≠ i := fun e => by subst e; rw [ho] at hjd; exact hdt (by simpa using hjd)
              simp [this]
          rw [this]; exact h3
      have fin := fun σ' ι' w' u (hle : ∀ (n : Md) (s : Slots) (a : Act), TR n σ ι s a → TR n σ' ι' s a) => finN σ' ι' w' u (hle _ _ _ ht)
      unfold wpOpIn
      simp only [List.getElem?_toArray, ho]
      have hopnd : ∀ x ∈ l[i].op.operands.toList, VR σ ι (evA (stOf s l vs (fun _ => true) i) x) (a.eval x) := by
        intro x hx
        refine evA_sound (List.all_eq_true.1 c1 x hx) fun t htx => ?_
        have htm : t ∈ tmpsOf l.toArray l[i] := List.mem_append_left _ (List.mem_filterMap.2 ⟨x, hx, by rw [htx]⟩)
        have := ht.at_ t
        rwa [hget t (.inl htm)] at this
      have hkn' := hkn i _ ho
      have hdn : ∀ j want d, l[i].guard = some (j, want) → dstAt l.toArray j = some d → d < n.n := fun j want d hg hd => by
        have hj : ∃ oj, l[j]? = some oj ∧ oj.dst = some d := by
          unfold dstAt at hd
          cases hjo : l[j]? with
          | none => simp [hjo] at hd
          | some oj => exact ⟨oj, rfl, by simpa [hjo] using hd⟩
        obtain ⟨oj, hjo, hjd⟩ := hj
        have := (drawOk_at hok hjo).2.2.1
        rw [hjd] at this
        simpa [dstOk] using this
      have hdt : ∀ j want d, l[i].guard = some (j, want) → dstAt l.toArray j = some d → d ∈ tmpsOf l.toArray l[i] := fun j want d hg hd => List.mem_append_right _ (by rw [hg]; simp [hd])
      have hwant : GoG l.toArray (stOf s l vs (fun _ => true) i) l[i] → Region.wanted l[i] (yielded l.toArray a.tmps) = true := by
        rintro (hg | ⟨j, want, d, hg, hd, hb'⟩)
        · simp [Region.wanted, hg]
        · have hv := ht.at_ d
          rw [hget d (.inl (hdt j want d hg hd)), hb'] at hv
          rw [wanted_of hg hd (by rw [ht.size]; exact hdn j want d hg hd) hv]
          simp
      have hskip : SkG l.toArray (stOf s l vs (fun _ => true) i) l[i] → Region.wanted l[i] (yielded l.toArray a.tmps) = false := by
        rintro ⟨j, want, d, hg, hd, hb'⟩
        have hv := ht.at_ d
        rcases hb' with hb' | hb'
        · rw [hget d (.inl (hdt j want d hg hd)), hb'] at hv
          rw [wanted_of hg hd (by rw [ht.size]; exact hdn j want d hg hd) hv]
          cases want <;> rfl
        · rw [hget d (.inl (hdt j want d hg hd)), hb'] at hv
          exact unwanted_of hg hd (by rw [ht.size]; exact hdn j want d hg hd) hv.tup0_inv
      -- nothing that has come up names what is new
      have hfresh : cs.contains i = true → ∀ k, k ≤ l.length → ∀ t, hasId (nm i) (get (stOf s l vs (fun j => listed.getD j false) k) t) = false := by
        intro hic
        have hmem : i ∈ cs := by simpa using hic
        refine st_fresh (hfr i hmem) fun k hk hLk => ?_
        have hne : k ≠ i := fun e => by simp only [e, hif] at hLk; cases hLk
        have hkk := hkn k _ (List.getElem?_eq_getElem hk)
        have hq : nQm l.toArray cs nm k (vs k) = true ∨ vs k = .tup [] := by
          unfold KnM at hkk
          rcases hkk with ⟨_, _, hq, _⟩ | ⟨_, _, hq, _⟩ | ⟨_, _, hq⟩
          · exact .inl hq
          · exact .inl hq
          · exact .inr hq
        rcases hq with hq | hq
        · have hq := List.all_eq_true.1 hq i hmem
          rw [show Nat.beq k i = false from Bool.eq_false_iff.2 (fun e => hne (Nat.eq_of_beq_eq_true e)), Bool.false_or] at hq
          rcases (Bool.or_eq_true _ _).mp hq with hq | hq
          · simpa using hq
          · have := hbef k i hLk hq
            simp only [hif] at this; cases this
        · rw [hq]; rfl
      have hLs : cs.contains i = false → H (fun j => (listed.setIfInBounds i true).getD j false) = H (fun j => listed.getD j false) := fun hne => hcs _ _ fun c hc => by
        have : c ≠ i := fun e => by
          have h2 : cs.contains i = true := by simpa [← e] using hc
          rw [h2] at hne; cases hne
        show (listed.setIfInBounds i true).getD c false = listed.getD c false
        rw [hL']; simp [this]
      have hLn : H (fun j => (listed.setIfInBounds i true).getD j false) = H (setB (fun j => listed.getD j false) i) := hcs _ _ fun c hc => by
        show (listed.setIfInBounds i true).getD c false = if c = i then true else listed.getD c false
        rw [hL']
        by_cases hci : c = i <;> simp [hci]
      unfold KnM at hkn'
      rcases hkn' with ⟨hg, hic, _, hSN⟩ | ⟨hg, hic, _, hO⟩ | ⟨hg, hic, hv0⟩
      · rw [if_pos (hwant hg)]
        refine op_R c0 ?_
        refine hSN _ hif E σ ι a w hr hopnd _ _ fun σ' ι' w' u h2 h3 h4 h5 => finN σ' ι' w' u (h3 n _ a (hfresh hic l.length (Nat.le_refl _)) ht) ?_ h5
        rw [hLn]; exact h4
      · rw [if_pos (hwant hg)]
        refine op_R c0 ?_
        exact hO _ E σ ι a w hr hopnd _ _ fun σ' w' u h3 h4 h5 => fin σ' ι w' u (fun _ _ _ t => t.mono h3) (by rw [hLs hic]; exact h4) h5
      · rw [if_neg (by rw [hskip hg]; simp)]
        refine ⟨fun _ _ => trivial, fin σ ι w undef (fun _ _ _ t => t) ?_ (by rw [hv0]; exact VR.tup0)⟩
        rw [hLs hic]; exact hr
  have hrep : ∀ j, (Array.replicate l.toArray.size false).getD j false = false := fun j => by
    simp only [Array.getD_eq_getD_getElem?, Array.getElem?_replicate]; split <;> rfl
  have h0 : (fun j => (Array.replicate l.toArray.size false).getD j false) = fun _ => false := funext hrep
  refine key l.toArray.size _ σ0 ι0 a _ (by simp) ?_ ?_ (by rw [h0]; exact hr') ?_
  · intro j o hj hl
    rw [hrep] at hl; cases hl
  · refine Nat.le_trans List.countP_le_length ?_
    simp
  · refine ⟨ht.size, ht.defers, fun t => ?_⟩
    have := ht.at_ t
    rw [stOf_high (i := 0) l.length (Nat.zero_le _) fun j _ _ _ => hrep j]
    exact this

structure MW (P : Program) (ops : Array Oper) (H : (Nat → Bool) → Heap) (cs : List Nat) (nm : Nat → Nat) (K : Slots → Prop) (m : Nat) (rest : List Oper) (s : Slots) : Prop where
  out : ADm P ops H cs nm K m rest s
variable {m : Nat}
theorem mwnil (hk : K s) : MW P ops H cs nm K m [] s := ⟨⟨s, fun _ => rfl, hk⟩⟩
theorem mw_any {v : AV} (hg : o.guard = none) (ht : cs.contains m = false) (hv : ∀ f, Y P o s (H f) v) (hq : nQm ops cs nm m v = true) (hk : MW P ops H cs nm K (m + 1) rest (putS s o.dst v)) : MW P ops H cs nm K m (o :: rest) s :=
  ⟨.inr (.inl ⟨.inl hg, ht, v, hq, fun f => (hv f).out, hk.out⟩)⟩
theorem mw_new {v : AV} (hg : o.guard = none) (ht : cs.contains m = true) (hv : ∀ f : Nat → Bool, f m = false → TuN P (nm m) o s (H f) (H (setB f m)) v) (hq : nQm ops cs nm m v = true) (hk : MW P ops H cs nm K (m + 1) rest (putS s o.dst v)) : MW P ops H cs nm K m (o :: rest) s :=
  ⟨.inl ⟨.inl hg, ht, v, hq, hv, hk.out⟩⟩
theorem tn_make {α : Type} {f : α → List AV} {d : α} {t e : TypeId} {x y : Operand} {sz by_ m : Nat} {k k' : IntKind} {z0 : List AV} {id : Nat} (ho : o.op = .makeSlice t x y) (ht : sliceE P t = some e) (h0 : zeroA P e = some z0) (hz : sizeQ P e sz = true) (hz0 : z0 = f d) (hzl : Nat.beq z0.length sz = true) (hsz : Nat.blt 0 sz = true) (hby : bytesQ P e by_ = true)
    (hx : evA s x = .int k m) (hy : evA s y = .int k' m) (hb : m * by_ ≤ 140737488355328) (hm : m ≤ 9223372036854775807) (h5 : Nat.ble 5 id = true) (hf : freshH id h = true) : TuN P id o s h ((id, .row e sz ((List.replicate m d).map f)) :: h) (.own id) := fun E σ ι a w hr hv K Q hK => by
  have hzl := Nat.eq_of_beq_eq_true hzl
  have hsz : 0 < sz := by simpa [Nat.blt_eq] using hsz
  have hX : VR σ ι (evA s x) (a.eval x) := hv x (by rw [ho]; simp [Op.operands])
  have hY : VR σ ι (evA s y) (a.eval y) := hv y (by rw [ho]; simp [Op.operands])
  rw [hx] at hX
  rw [hy] at hY
  obtain ⟨zi, z, hzi, hzz, hzL⟩ := zeroA_spec h0
  have hisz : zi.size = sz := by unfold sizeQ at hz; rw [hzi] at hz; exact Nat.eq_of_beq_eq_true hz
  have hiby : zi.bytes = by_ := by unfold bytesQ at hby; rw [hzi] at hby; exact Nat.eq_of_beq_eq_true hby
  have hzs : z.cells.size = sz := by rw [← Array.length_toList, ← (hzL σ).1, hzl]
  obtain ⟨w', h1, h2, h3⟩ := run_make_full (P := P) w 0 t e zi z sz (sliceE_spec ht) hzi hzz hisz k k' m (by rw [hiby, Nat.mul_comm]; omega) (by simp only [maxLen]; omega) (Nat.zero_le _)
  unfold Oper.wp
  have hrun : (execOp a.eval o).run P w = .ok (.value (.slice (some ⟨w.heap.size, 0, none⟩) m m)) w' := by
    simp only [execOp, ho, hX.int_inv.1, hY.int_inv.1, Sem.run_bind, Sem.run_pure, h1, Result.andThen_ok]
  rw [hrun]
  have hL : L2 (VR0 σ) ((List.replicate m d).map f).flatten (madeCells z.cells (m * sz)).toList := by
    have hlen : ((List.replicate m d).map f).flatten.length = m * sz := by
      rw [flatten_length (sz := sz)]
      · simp
      · intro c hc
        obtain ⟨q, hq, rfl⟩ := List.mem_map.1 hc
        rw [List.eq_of_mem_replicate hq, ← hz0]; exact hzl
    refine ⟨by rw [hlen, Array.length_toList, size_madeCells], fun j c u hc hu => ?_⟩
    have hj : j < m * sz := by rw [← hlen]; exact (List.getElem?_eq_some_iff.1 hc).1
    have hjs : j % sz < sz := Nat.mod_lt _ hsz
    have hjm : j / sz < m := Nat.div_lt_of_lt_mul (by rw [Nat.mul_comm]; exact hj)
    have hc2 : ((List.replicate m d).map f).flatten[j]? = some (z0[j % sz]'(by omega)) := by
      have := flatten_get (sz := sz) (xs := (List.replicate m d).map f) (i := j / sz) (j := j % sz) (c := z0) (x := z0[j % sz]'(by omega)) (fun c hc => by
        obtain ⟨q, hq, rfl⟩ := List.mem_map.1 hc
        rw [List.eq_of_mem_replicate hq, ← hz0]; exact hzl) (by simp [hjm, hz0]) (List.getElem?_eq_getElem _)
      rwa [Nat.mul_comm, Nat.div_add_mod] at this
    rw [hc2] at hc
    cases hc
    have hu2 : (z.cells.toList)[j % sz]? = some u := by
      rw [Array.getElem?_toList] at hu
      simp only [madeCells, Array.getElem?_map, Array.getElem?_range, hj, if_true, Option.map_some, Option.some.injEq, hzs] at hu
      rw [Array.getElem?_toList, ← hu]
      have : j % sz < z.cells.size := by omega
      simp [this]
    exact (hzL σ).2 _ _ u (List.getElem?_eq_getElem _) hu2
  have hnew := hr.turn (id := id) (u := .slice (some ⟨w.heap.size, 0, none⟩) m m) (h' := (id, .row e sz ((List.replicate m d).map f)) :: h) (c' := .row e sz ((List.replicate m d).map f)) (w' := w')
    (fun i c hi hc => by
      rw [hget_cons, if_neg (fun e => hi e.symm)] at hc
      exact ⟨hc, .inr (freshH_get hf i c hc).2⟩)
    (by rw [hget_cons, if_pos rfl])
    ⟨hsz, fun c hc => by
      obtain ⟨q, hq, rfl⟩ := List.mem_map.1 hc
      rw [List.eq_of_mem_replicate hq, ← hz0]; exact hzl, _, by rw [upd_eq, List.length_map, List.length_replicate]; exact h2, hL⟩
    h3.os h3.tape h3.output h3.size (fun k hk _ => h3.block k hk (by simp)) (fun g hv => by cases hv; exact .inr (Nat.le_refl _)) (.inl (Nat.ble_eq ▸ h5))
  refine hK σ _ _ _ (Sig.le.refl σ) (fun n s a hf t => t.updN (Nat.ble_eq ▸ h5) hf _) hnew ?_
  have h6 := VR.own (σ := σ) (ι := YtkkmageogkkchaaGreat.upd ι id (.slice (some ⟨w.heap.size, 0, none⟩) m m)) id (by rw [upd_eq]; rfl)
  rwa [upd_eq] at h6
theorem wdrawM {id : Nat} {l : List Oper} (H : (Nat → Bool) → Heap) (cs : List Nat) (nm : Nat → Nat) (hh : LeH h (H fun _ => false)) (hm : P.follows .mixedOrders = true) (hok : drawOk n l = true) (hcs : ∀ f g : Nat → Bool, (∀ c ∈ cs, f c = g c) → H f = H g) (hcl : (cs.all fun c => Nat.blt c l.length) = true) (hfr : (cs.all fun c => freshS (nm c) s) = true) (hk : MW P l.toArray H cs nm (fun s' => Q .normal s' (H fun _ => true)) 0 l s) : W P n (.region id l.toArray true) Q s h :=
  wle (LeS.refl s) hh ⟨awp_drawM hm hok hcs (fun c hc => by simpa [Nat.blt_eq] using List.all_eq_true.1 hcl c hc) (fun c hc => freshS_get (List.all_eq_true.1 hfr c hc)) hk.out⟩
end
end Go.Proofs.YtkkmageogkkchaaGreat
namespace Go.Proofs.YtkkmageogkkchaaGreat
set_option maxRecDepth 100000
open Go.RowKit
section
variable {P : Program} {n : Md} {s : Slots} {h : Heap}
def resA4 (P : Program) (s : Slots) (h : Heap) : List ResultVar → Option AV
  | [x, y, z, q] => match resV P s h x, resV P s h y, resV P s h z, resV P s h q with | some v1, some v2, some v3, some v4 => some (.tup [v1, v2, v3, v4]) | _, _, _, _ => none
  | _ => none
theorem resA4_run {E : Env} {fn : Func} {σ : Sig} {ι : Nat → Value} {a : Act} {w : World} {m : Md} (hr : Rel E σ ι h w) (ht : TR m σ ι s a) {v : AV} (hv : resA4 P s h fn.results.toList = some v) : ∃ u, (results fn a.tmps).run P w = .ok u w ∧ VR σ ι v u := by
  have e : ∀ l, fn.results.toList = l → fn.results = l.toArray := fun l h => by rw [← Array.toArray_toList (xs := fn.results), h]
  unfold resA4 at hv
  split at hv
  · rename_i x y z q h1
    split at hv
    · rename_i v1 v2 v3 v4 hx hy hz hq; cases hv
      obtain ⟨u1, h2, h3⟩ := resV_run hr ht hx
      obtain ⟨u2, h4, h5⟩ := resV_run hr ht hy
      obtain ⟨u3, h6, h7⟩ := resV_run hr ht hz
      obtain ⟨u4, h8, h9⟩ := resV_run hr ht hq
      refine ⟨.tuple #[u1, u2, u3, u4], ?_, .tup _ [_, _, _, _] rfl ((((((L2.nil _).cons h9).cons h7).cons h5).cons h3).2)⟩
      simp [results_eq, e _ h1, h2, h4, h6, h8]
    · cases hv
  · cases hv
def RetQ4 (P : Program) (rs : List ResultVar) (Q : AV → Heap → Prop) : Exit → Slots → Heap → Prop
  | .ret, s, h => ∃ v s' h', (∀ n, Turns n s h s' h') ∧ resA4 P s' h' rs = some v ∧ Q v h'
  | _, _, _ => False
theorem wp_body4 {fn : Func} {c : Code} {E : Env} {args : List AV} {vs : List Value} {σ : Sig} {ι : Nat → Value} {w : World} {f : FuncId} {Qf : AV → Heap → Prop} (hf : P.funcs[f]? = some fn) (hb : fn.body = some c) (hl : args.length ≤ fn.ntmps)
    (hwp : AWp P { n := fn.ntmps } c (RetQ4 P fn.results.toList Qf) (slots0 args 0) h) (hr : Rel E σ ι h w) (hv : L2 (VR σ ι) args vs) :
    Calls P f vs.toArray w (fun e w' => ∃ u r h' σ' ι', e = .returned u ∧ Qf r h' ∧ VR σ' ι' r u ∧ Rel E σ' ι' h' w') := by
  have h0 := hwp E σ ι _ w hr (start_TR hl hv)
  change c.wpIn Fence.wide 0 P _ _ _ at h0
  refine calls_of_wp hf hb (Code.wp_mono ?_ (wpIn_wide.1 h0))
  rintro e a w' ⟨s', h', σ', ι', q, r, t⟩
  have fin : (∃ v s'' h'', (∀ n, Turns n s' h' s'' h'') ∧ resA4 P s'' h'' fn.results.toList = some v ∧ Qf v h'') → a.defers = [] ∧ ∃ v, (results fn a.tmps).run P w' = .ok v w' ∧ ∃ u r h' σ' ι', Ending.returned v = .returned u ∧ Qf r h' ∧ VR σ' ι' r u ∧ Rel E σ' ι' h' w' := fun ⟨v, s'', h'', hl, h1, h2⟩ => by
    obtain ⟨σ2, ι2, r2, t2⟩ := hl _ E σ' ι' a w' r t
    obtain ⟨u, h3, h4⟩ := resA4_run (P := P) r2 t2 h1
    exact ⟨t.defers.1, u, h3, u, v, h'', σ2, ι2, rfl, h2, h4, r2⟩
  cases e with
  | ret => exact fin q
  | _ => exact q.elim
theorem fnb4 {f : FuncId} {fn : Func} {c : Code} {args : List AV} {r : AV} (hf : P.funcs[f]? = some fn) (he : Entered P f) (hb : fn.body = some c) (hl : Nat.ble args.length fn.ntmps = true) (hp : pureA r = true)
    (hwp : W P { n := fn.ntmps } c (RetQ4 P fn.results.toList (fun v _ => v = r)) (slots0 args 0) []) : Fn P f args r := by
  refine ⟨he, fun σ ι w vs hsub hv => (wp_body4 hf hb (Nat.ble_eq ▸ hl) hwp.out (Rel.start σ ι w hsub) hv).mono ?_⟩
  rintro e w' ⟨u, r', h', σ', ι', rfl, rfl, h2, h3⟩
  refine ⟨u, σ', rfl, h2.pure hp, ?_⟩
  exact ⟨h3.os, h3.tape, h3.output, h3.size, h3.old, h3.sigOld, h3.sub, fun i c hc => (by cases hc), fun i c hc => (by cases hc), fun i j c d hc => (by cases hc), fun p hp => (by cases hp), fun p hp => (by cases hp), fun p hp => (by cases hp)⟩
theorem retq4 {rs : List ResultVar} {Qf : AV → Heap → Prop} {v : AV} (hr : resA4 P s h rs = some v) (hq : Qf v h) : RetQ4 P rs Qf .ret s h := ⟨v, s, h, fun _ => Turns.refl s h, hr, hq⟩
theorem retT4 {rs : List ResultVar} {Qf : AV → Heap → Prop} {s' : Slots} {h' : Heap} (ht : ∀ n, Turns n s h s' h') (hk : RetQ4 P rs Qf .ret s' h') : RetQ4 P rs Qf .ret s h :=
  let ⟨v, s2, h2, h3, h4, h5⟩ := hk; ⟨v, s2, h2, fun n => (ht n).trans (h3 n), h4, h5⟩
end
end Go.Proofs.YtkkmageogkkchaaGreat
namespace Go.Proofs.YtkkmageogkkchaaGreat
set_option maxRecDepth 100000
set_option maxRecDepth 100000
open Go.RowKit
def pickI (S : System) (m : Nat) : Int := (ordL (priosL S.tasks) S.tasks.length).getD m default
structure AllR where
  R : List Int
  C : List Int
  at_ : Int
  e : Int
deriving DecidableEq
def zerosL (n : Nat) : List Int := List.replicate n 0
def allS (S : System) (p : Int) (a : AllR) : AllR :=
  if (respI S p a.C).2 ≠ 0 then ⟨[], [], p, (respI S p a.C).2⟩
  else ⟨a.R.set p.toNat (respI S p a.C).1, a.C.set p.toNat (jobI S p (respI S p a.C).1), -1, 0⟩
def allN (S : System) : Nat → AllR
  | 0 => ⟨zerosL S.tasks.length, zerosL S.tasks.length, -1, 0⟩
  | m + 1 => if (allN S m).e ≠ 0 then allN S m else allS S (pickI S m) (allN S m)
def allI (S : System) : AllR := allN S S.tasks.length
theorem allN_ok (S : System) : ∀ m, (allN S m).e = 0 → (allN S m).R.length = S.tasks.length ∧ (allN S m).C.length = S.tasks.length ∧ (allN S m).at_ = -1
  | 0, _ => by simp [allN, zerosL]
  | m + 1, h => by
    rw [allN] at h ⊢
    by_cases h1 : (allN S m).e ≠ 0
    · rw [if_pos h1] at h; exact absurd h h1
    rw [if_neg h1] at h ⊢
    have ih := allN_ok S m (by simpa using h1)
    rw [allS] at h ⊢
    by_cases h2 : (respI S (pickI S m) (allN S m).C).2 ≠ 0
    · rw [if_pos h2] at h; exact absurd h h2
    · rw [if_neg h2]
      exact ⟨by simp only [List.length_set]; exact ih.1, by simp only [List.length_set]; exact ih.2.1, rfl⟩
theorem allN_stop (S : System) {m : Nat} (h : (allN S m).e ≠ 0) : ∀ k, allN S (m + k) = allN S m
  | 0 => rfl
  | k + 1 => by
    have ih := allN_stop S h k
    rw [← Nat.add_assoc, allN, ih, if_pos h]
theorem allI_stop (S : System) {m : Nat} (hm : m ≤ S.tasks.length) (h : (allN S m).e ≠ 0) : allI S = allN S m := by
  have := allN_stop S h (S.tasks.length - m)
  rw [show m + (S.tasks.length - m) = S.tasks.length from by omega] at this
  exact this
theorem pick_ord (S : System) : Ord (priosL S.tasks) S.tasks.length (ordL (priosL S.tasks) S.tasks.length) := by
  obtain ⟨o, ho⟩ := ord_ex (priosL S.tasks) S.tasks.length
  rw [← ho.eq]; exact ho
theorem pick_B (S : System) {m : Nat} (hm : m < S.tasks.length) : 0 ≤ pickI S m ∧ pickI S m < S.tasks.length := (pick_ord S).at hm
theorem pick_rk (S : System) {m : Nat} (hm : m < S.tasks.length) : rk (priosL S.tasks) S.tasks.length (pickI S m) = m := (pick_ord S).rank hm
theorem pick_of (S : System) {m i : Nat} (hi : i < S.tasks.length) (h : rk (priosL S.tasks) S.tasks.length (i : Int) = m) : pickI S m = i := by
  have := (pick_ord S).back (i := (i : Int)) ⟨by omega, by omega⟩
  rw [h] at this
  exact this.2
theorem pick_idx (S : System) {m : Nat} (hm : m < S.tasks.length) : idxI (rkL (priosL S.tasks) S.tasks.length) (m : Int) = pickI S m := by
  obtain ⟨p, hp⟩ : ∃ p : Nat, pickI S m = p := ⟨(pickI S m).toNat, by have := pick_B S hm; omega⟩
  have hb := pick_B S hm
  have hr := pick_rk S hm
  rw [hp] at hb hr
  rw [idxI, rkL_len, fstN_some (k := p) (by omega), idxV, hp]
  · rw [rkL_at _ (by omega), hr]; simp
  · intro j hj
    rw [rkL_at _ (by omega)]
    refine decide_eq_false fun e => ?_
    have := pick_of S (m := m) (i := j) (by omega) (by omega)
    omega
theorem above_rk (l : List Task) {k : Nat} (hk : k < l.length) : rk (priosL l) l.length (k : Int) = (aboveL l k).length := by
  rw [rk, aboveL, aboveTo, List.length_map, ← List.countP_eq_length_filter, idx, List.countP_map]
  refine List.countP_congr fun j hj => ?_
  have hj := List.mem_range.1 hj
  have e : ∀ i : Nat, i < l.length → pr (priosL l) (i : Int) = prioAt l (i : Int) := fun i hi => by
    simp [pr, priosL, prioAt, hi]
  simp only [Function.comp, befB, decide_eq_true_eq, ahead_lt, e j hj, e k hk]
  omega
theorem pick_above (S : System) {m i : Nat} (hm : m < S.tasks.length) (hi : i < S.tasks.length) : ((aboveL S.tasks i).length : Int) = m ↔ pickI S m = i := by
  rw [← above_rk _ hi]
  constructor
  · intro h; exact pick_of S hi (by omega)
  · intro h
    have := pick_rk S hm
    rw [h] at this; omega
def h11 (n : Nat) (f : Nat → Bool) : Heap := (bif f 3 then [(10, .row 3 1 ((zerosL n).map eI))] else []) ++ (bif f 7 then [(11, .row 3 1 ((zerosL n).map eI))] else [])
set_option maxHeartbeats 2000000 in
theorem all_fn (S : System) (h : OkS S) : Fn Tryz.prog 34 [.agg (eSystem S)] (.tup [.lst 1 ((allI S).R.map eI), .lst 1 ((allI S).C.map eI), .int .i64 (allI S).at_, .int .i64 (allI S).e]) := by
  have h1 := h.tl
  have hrl : (rkL (priosL S.tasks) S.tasks.length).length = S.tasks.length := rkL_len _ _
  have c1 := tranks_fn S.tasks (by omega)
  have cidx : ∀ m : Nat, m < S.tasks.length → idxI (rkL (priosL S.tasks) S.tasks.length) (m : Int) = pickI S m := fun m hm => pick_idx S hm
  generalize rkL (priosL S.tasks) S.tasks.length = rks at *
  refine fnb4 Tryz.func34 (entered_of (by kernel_rfl)) rfl rfl rfl ?_
  repeat' (first | refine sB ?_ | ((first | apply kM | apply kN); (iterate 3 (· exact rfl)); (· first | exact ya)) | refine sG ?_ | (refine sK ?_ ?_ <;> intro hc <;> (try simp only [KL, sL, reduceCtorEq] at hc) <;> (try (exfalso; omega))))
  refine wdrawM (h11 S.tasks.length) [3, 7] (fun c => bif Nat.beq c 3 then 10 else 11) leh (by kernel_rfl) (by kernel_rfl) (fun f g e => by unfold h11; rw [e 3 (by decide), e 7 (by decide)]) rfl rfl ?_
  repeat' (first | refine sA ?_ | ((first | apply kM | apply kN); (iterate 3 (· exact rfl)); (· first | exact ya)) | (show MW _ _ _ _ _ _ _ _ _; first | refine mwnil ?_ | (apply mw_any; (· exact rfl); (· exact rfl); (· intro f'; first | exact ya); (· first | exact rfl | kernel_rfl))) | refine sG ?_ | (refine sK ?_ ?_ <;> intro hc <;> (try simp only [KL, sL, reduceCtorEq] at hc) <;> (try (exfalso; omega))))
  refine mw_new (v := .own 10) rfl rfl (fun f hf => ?_) (by first | exact rfl | kernel_rfl) ?_
  · have e1 : setB f 3 3 = true := rfl
    have e2 : setB f 3 7 = f 7 := rfl
    unfold h11
    rw [hf, e1, e2]
    cases f 7
    · exact TuN.post (tn_make (f := eI) (d := 0) (by_ := 8) rfl rfl rfl rfl rfl rfl rfl rfl rfl rfl (by omega) (by omega) rfl rfl) leh
    · exact TuN.post (tn_make (f := eI) (d := 0) (by_ := 8) rfl rfl rfl rfl rfl rfl rfl rfl rfl rfl (by omega) (by omega) rfl rfl) leh
  repeat' (first | refine sA ?_ | ((first | apply kM | apply kN); (iterate 3 (· exact rfl)); (· first | exact ya)) | (show MW _ _ _ _ _ _ _ _ _; first | refine mwnil ?_ | (apply mw_any; (· exact rfl); (· exact rfl); (· intro f'; first | exact ya); (· first | exact rfl | kernel_rfl))) | refine sG ?_ | (refine sK ?_ ?_ <;> intro hc <;> (try simp only [KL, sL, reduceCtorEq] at hc) <;> (try (exfalso; omega))))
  refine mw_new (v := .own 11) rfl rfl (fun f hf => ?_) (by first | exact rfl | kernel_rfl) ?_
  · have e1 : setB f 7 7 = true := rfl
    have e2 : setB f 7 3 = f 3 := rfl
    unfold h11
    rw [hf, e1, e2]
    cases f 3
    · exact TuN.post (tn_make (f := eI) (d := 0) (by_ := 8) rfl rfl rfl rfl rfl rfl rfl rfl rfl rfl (by omega) (by omega) rfl rfl) leh
    · exact TuN.post (tn_make (f := eI) (d := 0) (by_ := 8) rfl rfl rfl rfl rfl rfl rfl rfl rfl rfl (by omega) (by omega) rfl rfl) leh
  repeat' (first | refine sA ?_ | ((first | apply kM | apply kN); (iterate 3 (· exact rfl)); (· first | exact ya)) | (show MW _ _ _ _ _ _ _ _ _; first | refine mwnil ?_ | (apply mw_any; (· exact rfl); (· exact rfl); (· intro f'; first | exact ya); (· first | exact rfl | kernel_rfl))) | refine sG ?_ | (refine sK ?_ ?_ <;> intro hc <;> (try simp only [KL, sL, reduceCtorEq] at hc) <;> (try (exfalso; omega))))
  repeat' (first | refine sA ?_ | ((first | apply kM | apply kN); (iterate 3 (· exact rfl)); (· first | exact ya | exact q_c (c1) rfl)) | refine sG ?_ | (refine sK ?_ ?_ <;> intro hc <;> (try simp only [KL, sL, reduceCtorEq] at hc) <;> (try (exfalso; omega))))
  refine wloop (fun m : Nat => ([(1, .ref (eSystem S)), (2, .own 10), (3, .own 11), (6, .lst 1 (rks.map eI)), (23, .int .i64 S.tasks.length), (24, .int .i64 m)], [(10, .row 3 1 ((allN S m).R.map eI)), (11, .row 3 1 ((allN S m).C.map eI))])) (fun m => m ≤ S.tasks.length ∧ (allN S m).e = 0) (fun m => S.tasks.length - m) 0 ⟨Nat.zero_le _, rfl⟩ les leh (fun m hm => ?_)
  obtain ⟨hm, he⟩ := hm
  have hok := allN_ok S m he
  rcases Nat.lt_or_eq_of_le hm with hml | hml
  · have hpb := pick_B S hml
    have c2 := index_fn rks (m : Int) (by omega)
    rw [cidx m hml] at c2
    have enx : allN S (m + 1) = allS S (pickI S m) (allN S m) := by rw [allN, if_neg (by rw [he]; simp)]
    have hstop := fun h => allI_stop S (m := m + 1) hml h
    rw [enx, allS] at hstop
    rw [allS] at enx
    obtain ⟨p, hp⟩ : ∃ p : Nat, pickI S m = p := ⟨(pickI S m).toNat, by omega⟩
    rw [hp] at c2 hstop enx hpb
    generalize allN S m = a at *
    obtain ⟨R, C, at0, e0⟩ := a
    obtain ⟨hR, hC, hA⟩ := hok
    dsimp only at he hR hC hA hstop enx ⊢
    have c3 := response_fn S h p C
    by_cases hx : (respI S p C).2 = 0
    · rw [if_neg (by rw [hx]; simp)] at enx
      have c4 := job_fn S h p (respI S p C).1
      rw [hx] at c3
      generalize (respI S p C).1 = r at *
      repeat' (first | refine sA ?_ | ((first | apply kM | apply kN); (iterate 3 (· exact rfl)); (· first | (show Y _ ⟨_, .indexAddr _ _ _, _, _, _, _⟩ _ _ _; first | exact q_ioE (p) rfl rfl rfl rfl rfl rfl (by omega) (by omega)) | exact ya | exact q_c (c2) rfl | exact q_c (c4) rfl | exact Y.mk (ok_lend c3 rfl rfl rfl))) | refine sG ?_ | (refine sK ?_ ?_ <;> intro hc <;> (try simp only [KL, sL, reduceCtorEq] at hc) <;> (try (exfalso; omega))))
      all_goals first | (exfalso; omega) | skip
      (refine ao_se (x' := r) rfl rfl rfl rfl rfl rfl rfl rfl rfl ?_ rfl rfl rfl ?_; (· (first | omega | ((try simp only [List.length_set, List.length_cons, List.length_nil, List.length_append, List.length_map]) <;> omega))))
      repeat' (first | refine sA ?_ | ((first | apply kM | apply kN); (iterate 3 (· exact rfl)); (· first | (show Y _ ⟨_, .indexAddr _ _ _, _, _, _, _⟩ _ _ _; first | exact q_ioE (p) rfl rfl rfl rfl rfl rfl (by omega) (by omega)) | exact ya)) | refine sG ?_ | (refine sK ?_ ?_ <;> intro hc <;> (try simp only [KL, sL, reduceCtorEq] at hc) <;> (try (exfalso; omega))))
      (refine ao_se (x' := jobI S p r) rfl rfl rfl rfl rfl rfl rfl rfl rfl ?_ rfl rfl rfl ?_; (· (first | omega | ((try simp only [List.length_set, List.length_cons, List.length_nil, List.length_append, List.length_map]) <;> omega))))
      repeat' (first | refine sA ?_ | ((first | apply kM | apply kN); (iterate 3 (· exact rfl)); (· first | exact ya)) | refine sG ?_ | (refine sK ?_ ?_ <;> intro hc <;> (try simp only [KL, sL, reduceCtorEq] at hc) <;> (try (exfalso; omega))))
      rw [Int.toNat_natCast] at enx
      exact ⟨m + 1, ⟨by omega, by rw [enx]⟩, by omega, les, by rw [enx]; exact leh⟩
    · rw [if_pos hx] at hstop
      rw [hstop hx]
      repeat' (first | refine sA ?_ | ((first | apply kM | apply kN); (iterate 3 (· exact rfl)); (· first | exact ya | exact q_c (c2) rfl | exact Y.mk (ok_lend c3 rfl rfl rfl))) | refine sG ?_ | (refine sK ?_ ?_ <;> intro hc <;> (try simp only [KL, sL, reduceCtorEq] at hc) <;> (try (exfalso; omega))))
      all_goals first | (exfalso; omega) | skip
      refine retT4 (fun _ => turn_nil 1 (t := 2) rfl) ?_
      refine retT4 (fun _ => turn_nil 1 (t := 3) rfl) ?_
      exact retq4 rfl rfl
  · subst hml
    have e : allI S = allN S S.tasks.length := rfl
    rw [e, he, hok.2.2]
    repeat' (first | refine sA ?_ | ((first | apply kM | apply kN); (iterate 3 (· exact rfl)); (· first | exact ya)) | refine sG ?_ | (refine sK ?_ ?_ <;> intro hc <;> (try simp only [KL, sL, reduceCtorEq] at hc) <;> (try (exfalso; omega))))
    all_goals first | (exfalso; omega) | skip
    refine retT4 (fun _ => turn_freeze (t := 2) rfl rfl rfl) ?_
    refine retT4 (fun _ => turn_freeze (t := 3) rfl rfl rfl) ?_
    exact retq4 rfl rfl
end Go.Proofs.YtkkmageogkkchaaGreat
namespace Go.Proofs.YtkkmageogkkchaaGreat
set_option maxRecDepth 100000
set_option maxRecDepth 100000
open Go.RowKit
def curN (S : System) (m i : Nat) : AllR := if pickI S m < (i : Int) then allN S (m + 1) else allN S m
set_option maxHeartbeats 2000000 in
theorem rall_fn (S : System) (h : OkS S) : Fn Tryz.prog 35 [.agg (eSystem S)] (.tup [.lst 1 ((allI S).R.map eI), .lst 1 ((allI S).C.map eI), .int .i64 (allI S).at_, .int .i64 (allI S).e]) := by
  have h1 := h.tl
  refine fnb4 Tryz.func35 (entered_of (by kernel_rfl)) rfl rfl rfl ?_
  repeat' (first | refine sA ?_ | ((first | apply kM | apply kN); (iterate 3 (· exact rfl)); (· first | exact ya)) | refine sG ?_ | (refine sK ?_ ?_ <;> intro hc <;> (try simp only [KL, sL, reduceCtorEq] at hc) <;> (try (exfalso; omega))))
  (refine ao_mk (f := eI) (d := (0 : Int)) (id := 10) (by_ := 8) (sz := 1) rfl rfl rfl rfl rfl rfl rfl rfl rfl rfl ?_ ?_ rfl rfl rfl rfl ?_; (· omega); (· omega))
  repeat' (first | refine sA ?_ | ((first | apply kM | apply kN); (iterate 3 (· exact rfl)); (· first | exact ya)) | refine sG ?_ | (refine sK ?_ ?_ <;> intro hc <;> (try simp only [KL, sL, reduceCtorEq] at hc) <;> (try (exfalso; omega))))
  (refine ao_mk (f := eI) (d := (0 : Int)) (id := 11) (by_ := 8) (sz := 1) rfl rfl rfl rfl rfl rfl rfl rfl rfl rfl ?_ ?_ rfl rfl rfl rfl ?_; (· omega); (· omega))
  repeat' (first | refine sA ?_ | ((first | apply kM | apply kN); (iterate 3 (· exact rfl)); (· first | exact ya)) | refine sG ?_ | (refine sK ?_ ?_ <;> intro hc <;> (try simp only [KL, sL, reduceCtorEq] at hc) <;> (try (exfalso; omega))))
  refine wloop (fun m : Nat => ([(1, .ref (eSystem S)), (6, .own 10), (7, .own 11), (22, .int .i64 S.tasks.length), (23, .int .i64 m)], [(10, .row 3 1 ((allN S m).R.map eI)), (11, .row 3 1 ((allN S m).C.map eI))])) (fun m => m ≤ S.tasks.length ∧ (allN S m).e = 0) (fun m => S.tasks.length - m) 0 ⟨Nat.zero_le _, rfl⟩ les leh (fun m hm => ?_)
  obtain ⟨hm, he⟩ := hm
  rcases Nat.lt_or_eq_of_le hm with hml | hml
  · have hpb := pick_B S hml
    have hab := fun i hi => pick_above S (m := m) (i := i) hml hi
    have enx : allN S (m + 1) = allS S (pickI S m) (allN S m) := by rw [allN, if_neg (by rw [he]; simp)]
    have hstop := fun h => allI_stop S (m := m + 1) hml h
    have hcur : ∀ i, curN S m i = if pickI S m < (i : Int) then allN S (m + 1) else allN S m := fun i => rfl
    have hok := allN_ok S m he
    generalize hN : allN S (m + 1) = b at *
    repeat' (first | refine sA ?_ | ((first | apply kM | apply kN); (iterate 3 (· exact rfl)); (· first | exact ya)) | refine sG ?_ | (refine sK ?_ ?_ <;> intro hc <;> (try simp only [KL, sL, reduceCtorEq] at hc) <;> (try (exfalso; omega))))
    all_goals first | (exfalso; omega) | skip
    refine wloop (fun i : Nat => ([(1, .ref (eSystem S)), (6, .own 10), (7, .own 11), (8, .int .i64 m), (22, .int .i64 S.tasks.length), (23, .int .i64 m), (28, .int .i64 S.tasks.length), (29, .int .i64 i)], [(10, .row 3 1 ((curN S m i).R.map eI)), (11, .row 3 1 ((curN S m i).C.map eI))])) (fun i => i ≤ S.tasks.length ∧ (curN S m i).e = 0) (fun i => S.tasks.length - i) 0 ⟨Nat.zero_le _, by rw [hcur, if_neg (by omega)]; exact he⟩ les (by rw [hcur, if_neg (by omega)]; exact leh) (fun i hi => ?_)
    obtain ⟨hi, hie⟩ := hi
    rcases Nat.lt_or_eq_of_le hi with hil | hil
    · have c1 := rabove_fn S.tasks i (by omega)
      have ha := hab i hil
      obtain ⟨L, hL⟩ : ∃ L, aboveL S.tasks i = L := ⟨_, rfl⟩
      rw [hL] at c1 ha
      have hLm : (L.map eI).length = L.length := List.length_map _
      have hn1 := hcur (i + 1)
      have hn0 := hcur i
      by_cases hp : pickI S m = i
      · rw [if_pos (by omega)] at hn1
        rw [if_neg (by omega)] at hn0
        rw [hn0]
        have hlen := ha.2 hp
        rw [hp, allS] at enx
        generalize allN S m = a at *
        obtain ⟨R, C, at0, e0⟩ := a
        obtain ⟨hR, hC, hA⟩ := hok
        dsimp only at he hR hC hA enx ⊢
        have c3 := rresp_fn S h i C
        by_cases hx : (respI S i C).2 = 0
        · rw [if_neg (by rw [hx]; simp)] at enx
          have c4 := rjob_fn S h i (respI S i C).1
          rw [hx] at c3
          generalize (respI S i C).1 = r at *
          repeat' (first | refine sA ?_ | ((first | apply kM | apply kN); (iterate 3 (· exact rfl)); (· first | (show Y _ ⟨_, .indexAddr _ _ _, _, _, _, _⟩ _ _ _; first | exact q_ioE (i) rfl rfl rfl rfl rfl rfl (by omega) (by omega)) | exact ya | exact q_c (c1) rfl | exact q_c (c4) rfl | exact Y.mk (ok_lend c3 rfl rfl rfl))) | refine sG ?_ | (refine sK ?_ ?_ <;> intro hc <;> (try simp only [KL, sL, reduceCtorEq] at hc) <;> (try (exfalso; omega))))
          all_goals first | (exfalso; omega) | skip
          (refine ao_se (x' := r) rfl rfl rfl rfl rfl rfl rfl rfl rfl ?_ rfl rfl rfl ?_; (· (first | omega | ((try simp only [List.length_set, List.length_cons, List.length_nil, List.length_append, List.length_map]) <;> omega))))
          repeat' (first | refine sA ?_ | ((first | apply kM | apply kN); (iterate 3 (· exact rfl)); (· first | (show Y _ ⟨_, .indexAddr _ _ _, _, _, _, _⟩ _ _ _; first | exact q_ioE (i) rfl rfl rfl rfl rfl rfl (by omega) (by omega)) | exact ya | exact q_c (c4) rfl)) | refine sG ?_ | (refine sK ?_ ?_ <;> intro hc <;> (try simp only [KL, sL, reduceCtorEq] at hc) <;> (try (exfalso; omega))))
          (refine ao_se (x' := jobI S i r) rfl rfl rfl rfl rfl rfl rfl rfl rfl ?_ rfl rfl rfl ?_; (· (first | omega | ((try simp only [List.length_set, List.length_cons, List.length_nil, List.length_append, List.length_map]) <;> omega))))
          repeat' (first | refine sA ?_ | ((first | apply kM | apply kN); (iterate 3 (· exact rfl)); (· first | exact ya)) | refine sG ?_ | (refine sK ?_ ?_ <;> intro hc <;> (try simp only [KL, sL, reduceCtorEq] at hc) <;> (try (exfalso; omega))))
          rw [Int.toNat_natCast] at enx
          exact ⟨i + 1, ⟨by omega, by rw [hn1, enx]⟩, by omega, les, by rw [hn1, enx]; exact leh⟩
        · rw [if_pos hx] at enx
          have hst := hstop (by rw [enx]; exact hx)
          rw [hst, enx]
          repeat' (first | refine sA ?_ | ((first | apply kM | apply kN); (iterate 3 (· exact rfl)); (· first | exact ya | exact q_c (c1) rfl | exact Y.mk (ok_lend c3 rfl rfl rfl))) | refine sG ?_ | (refine sK ?_ ?_ <;> intro hc <;> (try simp only [KL, sL, reduceCtorEq] at hc) <;> (try (exfalso; omega))))
          all_goals first | (exfalso; omega) | skip
          refine retT4 (fun _ => turn_nil 1 (t := 2) rfl) ?_
          refine retT4 (fun _ => turn_nil 1 (t := 3) rfl) ?_
          exact retq4 rfl rfl
      · have hlen : ¬ (L.length : Int) = m := fun e => hp (ha.1 e)
        have hsame : curN S m (i + 1) = curN S m i := by
          rw [hn1, hn0]
          by_cases hq : pickI S m < (i : Int)
          · rw [if_pos hq, if_pos (by omega)]
          · rw [if_neg hq, if_neg (by omega)]
        repeat' (first | refine sA ?_ | ((first | apply kM | apply kN); (iterate 3 (· exact rfl)); (· first | exact ya | exact q_c (c1) rfl)) | refine sG ?_ | (refine sK ?_ ?_ <;> intro hc <;> (try simp only [KL, sL, reduceCtorEq] at hc) <;> (try (exfalso; omega))))
        all_goals first | (exfalso; omega) | exact ⟨i + 1, ⟨by omega, by rw [hsame]; exact hie⟩, by omega, les, by rw [hsame]; exact leh⟩
    · subst hil
      rw [hcur, if_pos (by omega)] at hie
      repeat' (first | refine sA ?_ | ((first | apply kM | apply kN); (iterate 3 (· exact rfl)); (· first | exact ya)) | refine sG ?_ | (refine sK ?_ ?_ <;> intro hc <;> (try simp only [KL, sL, reduceCtorEq] at hc) <;> (try (exfalso; omega))))
      all_goals first | (exfalso; omega) | exact ⟨m + 1, ⟨by omega, by rw [hN]; exact hie⟩, by omega, les, by rw [hN]; (rw [hcur, if_pos (by omega)]); exact leh⟩
  · subst hml
    have e : allI S = allN S S.tasks.length := rfl
    rw [e, he, (allN_ok S _ he).2.2]
    repeat' (first | refine sA ?_ | ((first | apply kM | apply kN); (iterate 3 (· exact rfl)); (· first | exact ya)) | refine sG ?_ | (refine sK ?_ ?_ <;> intro hc <;> (try simp only [KL, sL, reduceCtorEq] at hc) <;> (try (exfalso; omega))))
    all_goals first | (exfalso; omega) | skip
    refine retT4 (fun _ => turn_freeze (t := 2) rfl rfl rfl) ?_
    refine retT4 (fun _ => turn_freeze (t := 3) rfl rfl rfl) ?_
    exact retq4 rfl rfl
abbrev nopX : Instr := ⟨0, 0, 0, 0, 0⟩
abbrev doneX : Instr := ⟨21, 0, 0, 0, 0⟩
def s38 : System := ⟨[⟨1, 2, 10, 0, 10, 1, [nopX, nopX, nopX, doneX]⟩, ⟨1, 0, 40, 0, 40, 1, [nopX, nopX, nopX, nopX, doneX]⟩], []⟩
end Go.Proofs.YtkkmageogkkchaaGreat
