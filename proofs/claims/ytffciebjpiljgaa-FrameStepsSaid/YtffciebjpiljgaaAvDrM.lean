/- A region that draws its order, in which several blocks are made. No condition. -/
import Derived.Test.YtffciebjpiljgaaAvDrN
namespace Go.Proofs.Ytffciebjpiljgaa
set_option linter.unusedSimpArgs false
set_option linter.unusedVariables false
set_option maxRecDepth 100000
set_option linter.unusedVariables false
set_option linter.unusedSimpArgs false
open Go.RowKit
section
variable {P : Program} {n : Md} {Q : Exit → Slots → Heap → Prop} {s : Slots} {h : Heap} {ops : Array Oper} {rest : List Oper} {o : Oper}
variable {H : (Nat → Bool) → Heap} {cs : List Nat} {nm : Nat → Nat} {K : Slots → Prop}
def setB (f : Nat → Bool) (m : Nat) : Nat → Bool := fun k => if k = m then true else f k
/-- Values that name new blocks come behind these. -/
def nQm (ops : Array Oper) (cs : List Nat) (nm : Nat → Nat) (m : Nat) (v : AV) : Bool := cs.all fun c => Nat.beq m c || (!hasId (nm c) v || ((Region.before ops).getD m 0).testBit c)
def ADm (P : Program) (ops : Array Oper) (H : (Nat → Bool) → Heap) (cs : List Nat) (nm : Nat → Nat) (K : Slots → Prop) : Nat → List Oper → Slots → Prop
  | _, [], s => ∃ s', (∀ t, get s t = get s' t) ∧ K s'
  | m, o :: rest, s => (GoG ops s o ∧ cs.contains m = true ∧ ∃ v, nQm ops cs nm m v = true ∧ (∀ f : Nat → Bool, f m = false → TuN P (nm m) o s (H f) (H (setB f m)) v) ∧ ADm P ops H cs nm K (m + 1) rest (putS s o.dst v)) ∨
      (GoG ops s o ∧ cs.contains m = false ∧ ∃ v, nQm ops cs nm m v = true ∧ (∀ f, OkO P o s (H f) v) ∧ ADm P ops H cs nm K (m + 1) rest (putS s o.dst v)) ∨
      (SkG ops s o ∧ cs.contains m = false ∧ ADm P ops H cs nm K (m + 1) rest (putS s o.dst (.tup [])))
def KnM (P : Program) (H : (Nat → Bool) → Heap) (cs : List Nat) (nm : Nat → Nat) (l : List Oper) (s : Slots) (vs : Nat → AV) (i : Nat) (o : Oper) : Prop :=
  (GoG l.toArray (stOf s l vs (fun _ => true) i) o ∧ cs.contains i = true ∧ nQm l.toArray cs nm i (vs i) = true ∧ ∀ f : Nat → Bool, f i = false → TuN P (nm i) o (stOf s l vs (fun _ => true) i) (H f) (H (setB f i)) (vs i)) ∨
  (GoG l.toArray (stOf s l vs (fun _ => true) i) o ∧ cs.contains i = false ∧ nQm l.toArray cs nm i (vs i) = true ∧ ∀ f, OkO P o (stOf s l vs (fun _ => true) i) (H f) (vs i)) ∨
  (SkG l.toArray (stOf s l vs (fun _ => true) i) o ∧ cs.contains i = false ∧ vs i = .tup [])
theorem knownM (l : List Oper) : ∀ (rest : List Oper) (m : Nat) (vs : Nat → AV), l.drop m = rest → m ≤ l.length → ADm P l.toArray H cs nm K m rest (stOf s l vs (fun _ => true) m) →
    (∀ (i : Nat) (o : Oper), i < m → l[i]? = some o → KnM P H cs nm l s vs i o) →
    ∃ (vs' : Nat → AV), (∃ s', (∀ t, get (stOf s l vs' (fun _ => true) l.length) t = get s' t) ∧ K s') ∧ ∀ (i : Nat) (o : Oper), l[i]? = some o → KnM P H cs nm l s vs' i o
  | [], m, vs, hr, hm, hd, hk => by
    have hm' : m = l.length := by
      have := List.drop_eq_nil_iff.1 hr; omega
    subst hm'
    exact ⟨vs, hd, fun i o ho => hk i o (List.getElem?_eq_some_iff.1 ho).1 ho⟩
  | o :: rest, m, vs, hr, hm, hd, hk => by
    have hlt : m < l.length := by
      have : (l.drop m).length = (o :: rest).length := by rw [hr]
      simp at this; omega
    have ho : l[m]? = some o := by
      have : (l.drop m)[0]? = some o := by rw [hr]; rfl
      simpa using this
    have hr' : l.drop (m + 1) = rest := by rw [← List.drop_drop, hr]; rfl
    have e : ∀ v k, k ≤ m → stOf s l (fun i => if i = m then v else vs i) (fun _ => true) k = stOf s l vs (fun _ => true) k := fun v k hk => stOf_congr k fun j hj => by
      show (if j = m then v else vs j) = vs j; rw [if_neg (by omega)]
    have go2 : ∀ v, ADm P l.toArray H cs nm K (m + 1) rest (putS (stOf s l vs (fun _ => true) m) o.dst v) →
        (∀ (vs2 : Nat → AV), vs2 m = v → stOf s l vs2 (fun _ => true) m = stOf s l vs (fun _ => true) m → KnM P H cs nm l s vs2 m o) →
        ∃ (vs' : Nat → AV), (∃ s', (∀ t, get (stOf s l vs' (fun _ => true) l.length) t = get s' t) ∧ K s') ∧ ∀ (i : Nat) (o : Oper), l[i]? = some o → KnM P H cs nm l s vs' i o := by
      intro v hd hkn
      refine knownM l rest (m + 1) (fun i => if i = m then v else vs i) hr' hlt ?_ ?_
      · simp only [stOf, if_true, ho, Option.bind_some]
        rw [e v m (Nat.le_refl _)]; exact hd
      · intro i o' hi ho'
        by_cases him : i = m
        · subst him
          rw [ho] at ho'; cases ho'
          exact hkn _ (by simp) (e v i (Nat.le_refl _))
        · have := hk i o' (by omega) ho'
          unfold KnM at this ⊢
          simp only [e v i (by omega), if_neg him]
          exact this
    rcases hd with ⟨hg, hm, v, hq, htn, hd⟩ | ⟨hg, hm, v, hq, hv, hd⟩ | ⟨hg, hm, hd⟩
    · exact go2 v hd fun vs2 e1 e2 => .inl ⟨by rw [e2]; exact hg, hm, by rw [e1]; exact hq, by rw [e1, e2]; exact htn⟩
    · exact go2 v hd fun vs2 e1 e2 => .inr (.inl ⟨by rw [e2]; exact hg, hm, by rw [e1]; exact hq, by rw [e1, e2]; exact hv⟩)
    · exact go2 (.tup []) hd fun vs2 e1 e2 => .inr (.inr ⟨by rw [e2]; exact hg, hm, e1⟩)
theorem awp_drawM {id : Nat} {l : List Oper} (hm : P.follows .mixedOrders = true) (hok : drawOk n l = true) (hcs : ∀ f g : Nat → Bool, (∀ c ∈ cs, f c = g c) → H f = H g) (hcl : ∀ c ∈ cs, c < l.length) (hfr : ∀ c ∈ cs, ∀ t, hasId (nm c) (get s t) = false) (hk : ADm P l.toArray H cs nm (fun s' => Q .normal s' (H fun _ => true)) 0 l s) : AWp P n (.region id l.toArray true) Q s (H fun _ => false) := by
  intro E σ0 ι0 a w hr ht
  obtain ⟨vs, ⟨sF, hF, hQ⟩, hkn⟩ := knownM (s := s) (cs := cs) (nm := nm) l l 0 (fun _ => .undef) rfl (Nat.zero_le _) hk (fun i o hi => absurd hi (by omega))
  refine wpIn_region_any hm ?_
  have hr' : Rel E σ0 ι0 (H fun _ => false) { w with drawn := w.drawn + 1 } := ⟨hr.os, hr.tape, hr.output, hr.size, hr.old, hr.sigOld, hr.sub, hr.ch, hr.foot, hr.dj, hr.pin, hr.low, hr.xo⟩
  have key : ∀ (fuel : Nat) (listed : Array Bool) (σ : Sig) (ι : Nat → Value) (a : Act) (w : World), listed.size = l.length →
      (∀ j o, l[j]? = some o → listed.getD j false = true → ∀ e ∈ o.after.toList, Region.binds .any e = true → listed.getD e.on false = true) →
      (List.range l.length).countP (fun j => !listed.getD j false) ≤ fuel →
      Rel E σ ι (H (fun j => listed.getD j false)) w → TR n σ ι (stOf s l vs (fun j => listed.getD j false) l.length) a →
      wpAnyIn (wideR n.ro) 0 P .any l.toArray (fun e a' w' => ∃ s' h' σ' ι', Q e s' h' ∧ Rel E σ' ι' h' w' ∧ TR n σ' ι' s' a') fuel listed a w := by
    have done : ∀ (listed : Array Bool) (σ : Sig) (ι : Nat → Value) (a : Act) (w : World), listed.size = l.length →
        Region.ready .any l.toArray listed = [] → Rel E σ ι (H (fun j => listed.getD j false)) w → TR n σ ι (stOf s l vs (fun j => listed.getD j false) l.length) a → ∃ s' h' σ' ι', Q .normal s' h' ∧ Rel E σ' ι' h' w ∧ TR n σ' ι' s' a := by
      intro listed σ ι a w hsz hready hr ht
      have hall : ∀ m j, j < m → j < l.length → listed.getD j false = true := by
        intro m
        induction m with
        | zero => intro j hj; omega
        | succ m ih =>
          intro j hj hlen
          by_cases hlt : j < m
          · exact ih j hlt hlen
          obtain rfl : j = m := by omega
          cases hl : listed.getD j false with
          | true => rfl
          | false =>
            exfalso
            have : j ∈ Region.ready .any l.toArray listed := by
              unfold Region.ready
              refine List.mem_filter.2 ⟨by simpa using hlen, ?_⟩
              have ho : l[j]? = some l[j] := List.getElem?_eq_getElem hlen
              have hj' : listed.getD j true = false := by
                have hb : j < listed.size := by omega
                simpa [Array.getD, hb] using hl
              simp only [hj', Bool.not_false, Bool.true_and, List.getElem?_toArray, ho, Option.map_some, Option.getD_some]
              rw [← Array.all_toList]
              refine List.all_eq_true.2 fun e he => ?_
              cases hb : Region.binds .any e with
              | false => simp
              | true =>
                have h3 := (drawOk_at hok ho).2.2.2.1 e he hb
                rw [ih e.on h3 (by omega)]; simp
            rw [hready] at this; cases this
      rw [hcs (fun j => listed.getD j false) (fun _ => true) (fun c hc => hall _ c (hcl c hc) (hcl c hc))] at hr
      refine ⟨_, _, σ, ι, hQ, hr, ?_⟩
      refine ⟨ht.size, ht.defers, fun t => ?_⟩
      have := ht.at_ t
      rwa [stOf_low (M := fun _ => true) l.length fun j hj _ => hall _ j hj hj, hF] at this
    intro fuel
    induction fuel with
    | zero =>
      intro listed σ ι a w hsz _ hc hr ht
      have hready : Region.ready .any l.toArray listed = [] := by
        rw [List.eq_nil_iff_forall_not_mem]
        intro j hj
        obtain ⟨h1, h2⟩ := List.mem_filter.1 hj
        have h1' : j < l.length := by simpa using h1
        have hb : j < listed.size := by omega
        have h3 : listed.getD j false = false := by
          have := (Bool.and_eq_true _ _ ▸ h2).1
          simpa [Array.getD, hb] using this
        have : 0 < (List.range l.length).countP (fun j => !listed.getD j false) := List.countP_pos_iff.2 ⟨j, List.mem_range.2 h1', by simp [h3]⟩
        omega
      exact ⟨hready, done listed σ ι a w hsz hready hr ht⟩
    | succ fuel ih =>
      intro listed σ ι a w hsz hdown hc hr ht
      refine ⟨fun hready => done listed σ ι a w hsz hready hr ht, fun i hi => ?_⟩
      obtain ⟨h1, h2⟩ := List.mem_filter.1 hi
      have hil : i < l.length := by simpa using h1
      have hb : i < listed.size := by omega
      have ho : l[i]? = some l[i] := List.getElem?_eq_getElem hil
      have h2' := Bool.and_eq_true _ _ ▸ h2
      have hif : listed.getD i false = false := by
        have := h2'.1
        simpa [Array.getD, hb] using this
      have hafter : ∀ e ∈ l[i].after.toList, Region.binds .any e = true → listed.getD e.on false = true := by
        have h3 := h2'.2
        simp only [List.getElem?_toArray, ho, Option.map_some, Option.getD_some] at h3
        rw [← Array.all_toList] at h3
        intro e he hbe
        have := List.all_eq_true.1 h3 e he
        simpa [hbe] using this
      have hopsA : ∀ j o, l.toArray[j]? = some o ↔ l[j]? = some o := fun j o => by rw [List.getElem?_toArray]
      obtain ⟨c0, c1, c2, c3, c4, c5⟩ := drawOk_at hok ho
      -- ahead of this one
      have hL' : ∀ x, (listed.setIfInBounds i true).getD x false = (listed.getD x false || x == i) := fun x => by
        by_cases hx : x = i
        · subst hx; simp [Array.getD, hb]
        · have : ¬ i = x := fun e => hx e.symm
          simp [Array.getD_eq_getD_getElem?, Array.getElem?_setIfInBounds, this, hx]
      have hdown' : ∀ j o, l[j]? = some o → (listed.setIfInBounds i true).getD j false = true → ∀ e ∈ o.after.toList, Region.binds .any e = true → (listed.setIfInBounds i true).getD e.on false = true := by
        intro j o hjo hj e he hbe
        rw [hL'] at hj ⊢
        rcases (Bool.or_eq_true _ _).mp hj with hj | hj
        · rw [hdown j o hjo hj e he hbe]; rfl
        · have : j = i := by simpa using hj
          subst this
          rw [ho] at hjo; cases hjo
          rw [hafter e he hbe]; rfl
      have hbef' := before_listed (ops := l.toArray) (L := fun j => (listed.setIfInBounds i true).getD j false) (fun j o hjo => hdown' j o ((hopsA j o).1 hjo))
      have hbef := before_listed (ops := l.toArray) (L := fun j => listed.getD j false) (fun j o hjo => hdown j o ((hopsA j o).1 hjo))
      have hlow : ∀ x, x ≠ i → ((Region.before l.toArray).getD i 0).testBit x = true → listed.getD x false = true := by
        intro x hx hbit
        have := hbef' i x (by simp [hL']) hbit
        simp only [hL'] at this
        rcases (Bool.or_eq_true _ _).mp this with h | h
        · exact h
        · exact absurd (by simpa using h) hx
      -- a slot that it names: those that write it ahead of it, in the text, have come up; the others have not
      have hside : ∀ t, (t ∈ tmpsOf l.toArray l[i] ∨ l[i].dst = some t) → ∀ j, j < l.length → (l[j]?).bind (·.dst) = some t → j ≠ i → listed.getD j false = decide (j < i) := by
        intro t htm j hj hjd hne
        have hd : dstAt l.toArray j = some t := by simpa [dstAt] using hjd
        have hbit := c5 j t hj hne hd htm
        by_cases hlt : j < i
        · rw [Nat.max_eq_right (by omega), Nat.min_eq_left (by omega)] at hbit
          rw [hlow j hne hbit]; simp [hlt]
        · have hgt : i < j := by omega
          rw [Nat.max_eq_left (by omega), Nat.min_eq_right (by omega)] at hbit
          simp only [hlt, decide_false]
          cases hc : listed.getD j false with
          | false => rfl
          | true => have := hbef j i hc hbit; simp only [hif] at this; cases this
      have hget : ∀ t, (t ∈ tmpsOf l.toArray l[i] ∨ l[i].dst = some t) → get (stOf s l vs (fun j => listed.getD j false) l.length) t = get (stOf s l vs (fun _ => true) i) t := by
        intro t htm
        rw [stOf_high (i := i) l.length (by omega) fun j h3 h4 hjd => ?_]
        · exact stOf_low i fun j h3 hjd => by rw [hside t htm j (by omega) hjd (by omega)]; simp [h3]
        · by_cases hji : j = i
          · subst hji; exact hif
          · rw [hside t htm j h4 hjd hji]; simp; omega
      have hcount : (List.range l.length).countP (fun j => !(listed.setIfInBounds i true).getD j false) ≤ fuel := by
        have hlt : (List.range l.length).countP (fun j => !(listed.setIfInBounds i true).getD j false) < (List.range l.length).countP (fun j => !listed.getD j false) := by
          have hsplit : List.range l.length = List.range i ++ i :: (List.range' (i + 1) (l.length - (i + 1))) := by
            obtain ⟨m, hm⟩ : ∃ m, l.length = i + (m + 1) := ⟨l.length - (i + 1), by omega⟩
            rw [hm, show i + (m + 1) - (i + 1) = m by omega, List.range_eq_range', List.range_eq_range', ← List.range'_append_1, List.range'_succ]
            simp
          rw [hsplit, List.countP_append, List.countP_append, List.countP_cons, List.countP_cons]
          have e1 : (List.range i).countP (fun j => !(listed.setIfInBounds i true).getD j false) = (List.range i).countP (fun j => !listed.getD j false) := List.countP_congr fun x hx => by
            rw [hL']; have := List.mem_range.1 hx; simp [show x ≠ i by omega]
          have e2 : (List.range' (i + 1) (l.length - (i + 1))).countP (fun j => !(listed.setIfInBounds i true).getD j false) = (List.range' (i + 1) (l.length - (i + 1))).countP (fun j => !listed.getD j false) := List.countP_congr fun x hx => by
            rw [hL']; have := (List.mem_range'_1.1 hx).1; simp [show x ≠ i by omega]
          rw [e1, e2, hL']
          simp [hif]
        omega
      have finN : ∀ σ' ι' w' u, TR n σ' ι' (stOf s l vs (fun j => listed.getD j false) l.length) a → Rel E σ' ι' (H (fun j => (listed.setIfInBounds i true).getD j false)) w' → VR σ' ι' (vs i) u →
          wpAnyIn (wideR n.ro) 0 P .any l.toArray (fun e a' w' => ∃ s' h' σ' ι', Q e s' h' ∧ Rel E σ' ι' h' w' ∧ TR n σ' ι' s' a') fuel (listed.setIfInBounds i true) (a.put l[i].dst u) w' := by
        intro σ' ι' w' u hle hr'' hv
        refine ih _ σ' ι' _ w' (by simpa using hsz) hdown' hcount hr'' ?_
        have hp : TR n σ' ι' (putS (stOf s l vs (fun j => listed.getD j false) l.length) l[i].dst (vs i)) (a.put l[i].dst u) := hle.putS c2 hv
        refine ⟨hp.size, hp.defers, fun t => ?_⟩
        have h3 := hp.at_ t
        rw [get_putS] at h3
        by_cases hdt : l[i].dst = some t
        · rw [if_pos hdt] at h3
          have : get (stOf s l vs (fun j => (listed.setIfInBounds i true).getD j false) l.length) t = vs i := by
            rw [stOf_high (i := i + 1) l.length (by omega) fun j h4 h5 hjd => ?_]
            · simp only [stOf, hL', hif, BEq.rfl, Bool.or_true, if_true, get_putS, ho, Option.bind_some, if_pos hdt]
            · rw [hL', hside t (.inr hdt) j h5 hjd (by omega)]; simp; omega
          rw [this]; exact h3
        · rw [if_neg hdt] at h3
          have : get (stOf s l vs (fun j => (listed.setIfInBounds i true).getD j false) l.length) t = get (stOf s l vs (fun j => listed.getD j false) l.length) t :=
            stOf_low _ fun j h4 hjd => by
              rw [hL']
              have : j ≠ i := fun e => by subst e; rw [ho] at hjd; exact hdt (by simpa using hjd)
              simp [this]
          rw [this]; exact h3
      have fin := fun σ' ι' w' u (hle : ∀ (n : Md) (s : Slots) (a : Act), TR n σ ι s a → TR n σ' ι' s a) => finN σ' ι' w' u (hle _ _ _ ht)
      unfold wpOpIn
      simp only [List.getElem?_toArray, ho]
      have hopnd : ∀ x ∈ l[i].op.operands.toList, VR σ ι (evA (stOf s l vs (fun _ => true) i) x) (a.eval x) := by
        intro x hx
        refine evA_sound (List.all_eq_true.1 c1 x hx) fun t htx => ?_
        have htm : t ∈ tmpsOf l.toArray l[i] := List.mem_append_left _ (List.mem_filterMap.2 ⟨x, hx, by rw [htx]⟩)
        have := ht.at_ t
        rwa [hget t (.inl htm)] at this
      have hkn' := hkn i _ ho
      have hdn : ∀ j want d, l[i].guard = some (j, want) → dstAt l.toArray j = some d → d < n.n := fun j want d hg hd => by
        have hj : ∃ oj, l[j]? = some oj ∧ oj.dst = some d := by
          unfold dstAt at hd
          cases hjo : l[j]? with
          | none => simp [hjo] at hd
          | some oj => exact ⟨oj, rfl, by simpa [hjo] using hd⟩
        obtain ⟨oj, hjo, hjd⟩ := hj
        have := (drawOk_at hok hjo).2.2.1
        rw [hjd] at this
        simpa [dstOk] using this
      have hdt : ∀ j want d, l[i].guard = some (j, want) → dstAt l.toArray j = some d → d ∈ tmpsOf l.toArray l[i] := fun j want d hg hd => List.mem_append_right _ (by rw [hg]; simp [hd])
      have hwant : GoG l.toArray (stOf s l vs (fun _ => true) i) l[i] → Region.wanted l[i] (yielded l.toArray a.tmps) = true := by
        rintro (hg | ⟨j, want, d, hg, hd, hb'⟩)
        · simp [Region.wanted, hg]
        · have hv := ht.at_ d
          rw [hget d (.inl (hdt j want d hg hd)), hb'] at hv
          rw [wanted_of hg hd (by rw [ht.size]; exact hdn j want d hg hd) hv]
          simp
      have hskip : SkG l.toArray (stOf s l vs (fun _ => true) i) l[i] → Region.wanted l[i] (yielded l.toArray a.tmps) = false := by
        rintro ⟨j, want, d, hg, hd, hb'⟩
        have hv := ht.at_ d
        rcases hb' with hb' | hb'
        · rw [hget d (.inl (hdt j want d hg hd)), hb'] at hv
          rw [wanted_of hg hd (by rw [ht.size]; exact hdn j want d hg hd) hv]
          cases want <;> rfl
        · rw [hget d (.inl (hdt j want d hg hd)), hb'] at hv
          exact unwanted_of hg hd (by rw [ht.size]; exact hdn j want d hg hd) hv.tup0_inv
      -- nothing that has come up names what is new
      have hfresh : cs.contains i = true → ∀ k, k ≤ l.length → ∀ t, hasId (nm i) (get (stOf s l vs (fun j => listed.getD j false) k) t) = false := by
        intro hic
        have hmem : i ∈ cs := by simpa using hic
        refine st_fresh (hfr i hmem) fun k hk hLk => ?_
        have hne : k ≠ i := fun e => by simp only [e, hif] at hLk; cases hLk
        have hkk := hkn k _ (List.getElem?_eq_getElem hk)
        have hq : nQm l.toArray cs nm k (vs k) = true ∨ vs k = .tup [] := by
          unfold KnM at hkk
          rcases hkk with ⟨_, _, hq, _⟩ | ⟨_, _, hq, _⟩ | ⟨_, _, hq⟩
          · exact .inl hq
          · exact .inl hq
          · exact .inr hq
        rcases hq with hq | hq
        · have hq := List.all_eq_true.1 hq i hmem
          rw [show Nat.beq k i = false from Bool.eq_false_iff.2 (fun e => hne (Nat.eq_of_beq_eq_true e)), Bool.false_or] at hq
          rcases (Bool.or_eq_true _ _).mp hq with hq | hq
          · simpa using hq
          · have := hbef k i hLk hq
            simp only [hif] at this; cases this
        · rw [hq]; rfl
      have hLs : cs.contains i = false → H (fun j => (listed.setIfInBounds i true).getD j false) = H (fun j => listed.getD j false) := fun hne => hcs _ _ fun c hc => by
        have : c ≠ i := fun e => by
          have h2 : cs.contains i = true := by simpa [← e] using hc
          rw [h2] at hne; cases hne
        show (listed.setIfInBounds i true).getD c false = listed.getD c false
        rw [hL']; simp [this]
      have hLn : H (fun j => (listed.setIfInBounds i true).getD j false) = H (setB (fun j => listed.getD j false) i) := hcs _ _ fun c hc => by
        show (listed.setIfInBounds i true).getD c false = if c = i then true else listed.getD c false
        rw [hL']
        by_cases hci : c = i <;> simp [hci]
      unfold KnM at hkn'
      rcases hkn' with ⟨hg, hic, _, hSN⟩ | ⟨hg, hic, _, hO⟩ | ⟨hg, hic, hv0⟩
      · rw [if_pos (hwant hg)]
        refine op_R c0 ?_
        refine hSN _ hif E σ ι a w hr hopnd _ _ fun σ' ι' w' u h2 h3 h4 h5 => finN σ' ι' w' u (h3 n _ a (hfresh hic l.length (Nat.le_refl _)) ht) ?_ h5
        rw [hLn]; exact h4
      · rw [if_pos (hwant hg)]
        refine op_R c0 ?_
        exact hO _ E σ ι a w hr hopnd _ _ fun σ' w' u h3 h4 h5 => fin σ' ι w' u (fun _ _ _ t => t.mono h3) (by rw [hLs hic]; exact h4) h5
      · rw [if_neg (by rw [hskip hg]; simp)]
        refine ⟨fun _ _ => trivial, fin σ ι w undef (fun _ _ _ t => t) ?_ (by rw [hv0]; exact VR.tup0)⟩
        rw [hLs hic]; exact hr
  have hrep : ∀ j, (Array.replicate l.toArray.size false).getD j false = false := fun j => by
    simp only [Array.getD_eq_getD_getElem?, Array.getElem?_replicate]; split <;> rfl
  have h0 : (fun j => (Array.replicate l.toArray.size false).getD j false) = fun _ => false := funext hrep
  refine key l.toArray.size _ σ0 ι0 a _ (by simp) ?_ ?_ (by rw [h0]; exact hr') ?_
  · intro j o hj hl
    rw [hrep] at hl; cases hl
  · refine Nat.le_trans List.countP_le_length ?_
    simp
  · refine ⟨ht.size, ht.defers, fun t => ?_⟩
    have := ht.at_ t
    rw [stOf_high (i := 0) l.length (Nat.zero_le _) fun j _ _ _ => hrep j]
    exact this

/-- A walk through such a region, behind a name that nothing opens. -/
structure MW (P : Program) (ops : Array Oper) (H : (Nat → Bool) → Heap) (cs : List Nat) (nm : Nat → Nat) (K : Slots → Prop) (m : Nat) (rest : List Oper) (s : Slots) : Prop where
  out : ADm P ops H cs nm K m rest s
variable {m : Nat}
theorem mwnil (hk : K s) : MW P ops H cs nm K m [] s := ⟨⟨s, fun _ => rfl, hk⟩⟩
theorem mw_any {v : AV} (hg : o.guard = none) (ht : cs.contains m = false) (hv : ∀ f, Y P o s (H f) v) (hq : nQm ops cs nm m v = true) (hk : MW P ops H cs nm K (m + 1) rest (putS s o.dst v)) : MW P ops H cs nm K m (o :: rest) s :=
  ⟨.inr (.inl ⟨.inl hg, ht, v, hq, fun f => (hv f).out, hk.out⟩)⟩
theorem mw_new {v : AV} (hg : o.guard = none) (ht : cs.contains m = true) (hv : ∀ f : Nat → Bool, f m = false → TuN P (nm m) o s (H f) (H (setB f m)) v) (hq : nQm ops cs nm m v = true) (hk : MW P ops H cs nm K (m + 1) rest (putS s o.dst v)) : MW P ops H cs nm K m (o :: rest) s :=
  ⟨.inl ⟨.inl hg, ht, v, hq, hv, hk.out⟩⟩
/-- A new slice. -/
theorem tn_make {α : Type} {f : α → List AV} {d : α} {t e : TypeId} {x y : Operand} {sz by_ m : Nat} {k k' : IntKind} {z0 : List AV} {id : Nat} (ho : o.op = .makeSlice t x y) (ht : sliceE P t = some e) (h0 : zeroA P e = some z0) (hz : sizeQ P e sz = true) (hz0 : z0 = f d) (hzl : Nat.beq z0.length sz = true) (hsz : Nat.blt 0 sz = true) (hby : bytesQ P e by_ = true)
    (hx : evA s x = .int k m) (hy : evA s y = .int k' m) (hb : m * by_ ≤ 140737488355328) (hm : m ≤ 9223372036854775807) (h5 : Nat.ble 5 id = true) (hf : freshH id h = true) : TuN P id o s h ((id, .row e sz ((List.replicate m d).map f)) :: h) (.own id) := fun E σ ι a w hr hv K Q hK => by
  have hzl := Nat.eq_of_beq_eq_true hzl
  have hsz : 0 < sz := by simpa [Nat.blt_eq] using hsz
  have hX : VR σ ι (evA s x) (a.eval x) := hv x (by rw [ho]; simp [Op.operands])
  have hY : VR σ ι (evA s y) (a.eval y) := hv y (by rw [ho]; simp [Op.operands])
  rw [hx] at hX
  rw [hy] at hY
  obtain ⟨zi, z, hzi, hzz, hzL⟩ := zeroA_spec h0
  have hisz : zi.size = sz := by unfold sizeQ at hz; rw [hzi] at hz; exact Nat.eq_of_beq_eq_true hz
  have hiby : zi.bytes = by_ := by unfold bytesQ at hby; rw [hzi] at hby; exact Nat.eq_of_beq_eq_true hby
  have hzs : z.cells.size = sz := by rw [← Array.length_toList, ← (hzL σ).1, hzl]
  obtain ⟨w', h1, h2, h3⟩ := run_make_full (P := P) w 0 t e zi z sz (sliceE_spec ht) hzi hzz hisz k k' m (by rw [hiby, Nat.mul_comm]; omega) (by simp only [maxLen]; omega) (Nat.zero_le _)
  unfold Oper.wp
  have hrun : (execOp a.eval o).run P w = .ok (.value (.slice (some ⟨w.heap.size, 0, none⟩) m m)) w' := by
    simp only [execOp, ho, hX.int_inv.1, hY.int_inv.1, Sem.run_bind, Sem.run_pure, h1, Result.andThen_ok]
  rw [hrun]
  have hL : L2 (VR0 σ) ((List.replicate m d).map f).flatten (madeCells z.cells (m * sz)).toList := by
    have hlen : ((List.replicate m d).map f).flatten.length = m * sz := by
      rw [flatten_length (sz := sz)]
      · simp
      · intro c hc
        obtain ⟨q, hq, rfl⟩ := List.mem_map.1 hc
        rw [List.eq_of_mem_replicate hq, ← hz0]; exact hzl
    refine ⟨by rw [hlen, Array.length_toList, size_madeCells], fun j c u hc hu => ?_⟩
    have hj : j < m * sz := by rw [← hlen]; exact (List.getElem?_eq_some_iff.1 hc).1
    have hjs : j % sz < sz := Nat.mod_lt _ hsz
    have hjm : j / sz < m := Nat.div_lt_of_lt_mul (by rw [Nat.mul_comm]; exact hj)
    have hc2 : ((List.replicate m d).map f).flatten[j]? = some (z0[j % sz]'(by omega)) := by
      have := flatten_get (sz := sz) (xs := (List.replicate m d).map f) (i := j / sz) (j := j % sz) (c := z0) (x := z0[j % sz]'(by omega)) (fun c hc => by
        obtain ⟨q, hq, rfl⟩ := List.mem_map.1 hc
        rw [List.eq_of_mem_replicate hq, ← hz0]; exact hzl) (by simp [hjm, hz0]) (List.getElem?_eq_getElem _)
      rwa [Nat.mul_comm, Nat.div_add_mod] at this
    rw [hc2] at hc
    cases hc
    have hu2 : (z.cells.toList)[j % sz]? = some u := by
      rw [Array.getElem?_toList] at hu
      simp only [madeCells, Array.getElem?_map, Array.getElem?_range, hj, if_true, Option.map_some, Option.some.injEq, hzs] at hu
      rw [Array.getElem?_toList, ← hu]
      have : j % sz < z.cells.size := by omega
      simp [this]
    exact (hzL σ).2 _ _ u (List.getElem?_eq_getElem _) hu2
  have hnew := hr.turn (id := id) (u := .slice (some ⟨w.heap.size, 0, none⟩) m m) (h' := (id, .row e sz ((List.replicate m d).map f)) :: h) (c' := .row e sz ((List.replicate m d).map f)) (w' := w')
    (fun i c hi hc => by
      rw [hget_cons, if_neg (fun e => hi e.symm)] at hc
      exact ⟨hc, .inr (freshH_get hf i c hc).2⟩)
    (by rw [hget_cons, if_pos rfl])
    ⟨hsz, fun c hc => by
      obtain ⟨q, hq, rfl⟩ := List.mem_map.1 hc
      rw [List.eq_of_mem_replicate hq, ← hz0]; exact hzl, _, by rw [upd_eq, List.length_map, List.length_replicate]; exact h2, hL⟩
    h3.os h3.tape h3.output h3.size (fun k hk _ => h3.block k hk (by simp)) (fun g hv => by cases hv; exact .inr (Nat.le_refl _)) (.inl (Nat.ble_eq ▸ h5))
  refine hK σ _ _ _ (Sig.le.refl σ) (fun n s a hf t => t.updN (Nat.ble_eq ▸ h5) hf _) hnew ?_
  have h6 := VR.own (σ := σ) (ι := Ytffciebjpiljgaa.upd ι id (.slice (some ⟨w.heap.size, 0, none⟩) m m)) id (by rw [upd_eq]; rfl)
  rwa [upd_eq] at h6
theorem wdrawM {id : Nat} {l : List Oper} (H : (Nat → Bool) → Heap) (cs : List Nat) (nm : Nat → Nat) (hh : LeH h (H fun _ => false)) (hm : P.follows .mixedOrders = true) (hok : drawOk n l = true) (hcs : ∀ f g : Nat → Bool, (∀ c ∈ cs, f c = g c) → H f = H g) (hcl : (cs.all fun c => Nat.blt c l.length) = true) (hfr : (cs.all fun c => freshS (nm c) s) = true) (hk : MW P l.toArray H cs nm (fun s' => Q .normal s' (H fun _ => true)) 0 l s) : W P n (.region id l.toArray true) Q s h :=
  wle (LeS.refl s) hh ⟨awp_drawM hm hok hcs (fun c hc => by simpa [Nat.blt_eq] using List.all_eq_true.1 hcl c hc) (fun c hc => freshS_get (List.all_eq_true.1 hfr c hc)) hk.out⟩
end
end Go.Proofs.Ytffciebjpiljgaa
