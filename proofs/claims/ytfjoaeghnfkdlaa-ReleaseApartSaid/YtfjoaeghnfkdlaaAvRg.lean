/- Loops over a function: the loop, and the function that it stands in. No condition. -/
import Derived.Test.YtfjoaeghnfkdlaaAvRf
namespace Go.Proofs.Ytfjoaeghnfkdlaa
set_option linter.unusedSimpArgs false
set_option linter.unusedVariables false
set_option maxRecDepth 100000
set_option linter.unusedVariables false
set_option linter.unusedSimpArgs false
open Go.RowKit
def mark (D : Nat) : Deferred := { target := .collected D, args := #[] }
section
variable {P : Program} {k : Nat} {Q : List Deferred → Exit → Slots → Heap → Prop} {ds : List Deferred} {s : Slots} {h : Heap}
/-- A walk in which loops over functions leave their marks. -/
structure VW (P : Program) (k : Nat) (c : Code) (Q : List Deferred → Exit → Slots → Heap → Prop) (ds : List Deferred) (s : Slots) (h : Heap) : Prop where
  out : ∀ (E : Env) (σ : Sig) (ι : Nat → Value) (a : Act) (w : World), Rel E σ ι h w → TR { n := k, ds := ds } σ ι s a →
    c.wpIn (wideR none) 0 P (fun e a' w' => ∃ ds' s' h' σ' ι', Q ds' e s' h' ∧ Rel E σ' ι' h' w' ∧ TR { n := k, ds := ds' } σ' ι' s' a') a w
structure VThen (next : List Deferred → Slots → Heap → Prop) (Q : List Deferred → Exit → Slots → Heap → Prop) (ds : List Deferred) (e : Exit) (s : Slots) (h : Heap) : Prop where
  out : match e with | .normal => next ds s h | e => Q ds e s h
structure VIn (id : Nat) (Q : List Deferred → Exit → Slots → Heap → Prop) (ds : List Deferred) (e : Exit) (s : Slots) (h : Heap) : Prop where
  out : match e with | .exit id' => (bif Nat.beq id' id then Q ds .normal s h else Q ds (.exit id') s h) | e => Q ds e s h
theorem v_w {c : Code} (hw : W P { n := k, ds := ds } c (Q ds) s h) : VW P k c Q ds s h :=
  ⟨fun E σ ι a w hr ht => Go.wpIn_mono (hw.out E σ ι a w hr ht) (fun e a' w' ⟨s', h', σ', ι', q, r, t⟩ => ⟨ds, s', h', σ', ι', q, r, t⟩)⟩
theorem v_seq {x y : Code} (hx : VW P k x (VThen (fun ds s h => VW P k y Q ds s h) Q) ds s h) : VW P k (.seq x y) Q ds s h := ⟨fun E σ ι a w hr ht => by
  refine wpIn_seq (Go.wpIn_mono (hx.out E σ ι a w hr ht) ?_)
  rintro e a w ⟨ds', s', h', σ', ι', q, r, t⟩
  cases e with
  | normal => exact q.out.out E σ' ι' a w r t
  | _ => exact ⟨ds', s', h', σ', ι', q.out, r, t⟩⟩
theorem v_block {id : Nat} {c : Code} (hc : VW P k c (VIn id Q) ds s h) : VW P k (.block id c) Q ds s h := ⟨fun E σ ι a w hr ht => by
  refine wpIn_block (Go.wpIn_mono (hc.out E σ ι a w hr ht) ?_)
  rintro e a w ⟨ds', s', h', σ', ι', q, r, t⟩
  cases e with
  | exit id' =>
    have q := q.out
    simp only at q
    simp only [Exit.inBlock]
    by_cases hid : id' = id
    · rw [if_pos hid]; exact ⟨ds', s', h', σ', ι', by simpa [hid] using q, r, t⟩
    · rw [if_neg hid]
      have : Nat.beq id' id = false := Bool.eq_false_iff.2 fun e => hid (Nat.eq_of_beq_eq_true e)
      rw [this] at q
      exact ⟨ds', s', h', σ', ι', q, r, t⟩
  | _ => exact ⟨ds', s', h', σ', ι', q.out, r, t⟩⟩
theorem v_le {c : Code} {s' : Slots} {h' : Heap} (hs : LeS s s') (hh : LeH h h') (hc : VW P k c Q ds s' h') : VW P k c Q ds s h := ⟨fun E σ ι a w hr ht => hc.out E σ ι a w (hr.le hh) (ht.le hs)⟩
def renS (ρ : Nat → Nat) (s : Slots) : Slots := s.map fun x => (x.1, ren ρ x.2)
theorem get_renS (ρ : Nat → Nat) : ∀ (s : Slots) (t : Nat), get (renS ρ s) t = ren ρ (get s t)
  | [], t => by simp [renS, get, ren]
  | (i, v) :: r, t => by
    have ih := get_renS ρ r t
    rw [renS, List.map_cons, get_cons, get_cons]
    split
    · rfl
    · exact ih
def closedS (ids : List Nat) : Slots → Bool
  | [] => true
  | (_, v) :: r => closedA ids v && closedS ids r
theorem closedS_get {ids : List Nat} : ∀ {s : Slots}, closedS ids s = true → ∀ t, closedA ids (get s t) = true
  | [], _, t => by simp [get, closedA]
  | (i, v) :: r, h, t => by
    simp only [closedS, Bool.and_eq_true] at h
    rw [get_cons]; split
    · exact h.1
    · exact closedS_get h.2 t
/-- The blocks that are lent to the function that is gone through. -/
def lentH (l : Nat) (r : Loop) (σ0 : Sig) (hin0 : Heap) : Heap := (8, .sem (objC l (.loop r))) :: (9, .sem (knowC σ0)) :: hin0
def heldH (idK idL idD l D : Nat) (r : Loop) (σ0 : Sig) (h : Heap) : Heap := (idK, .sem (knowC σ0)) :: (idL, .sem (objC l (.loop r))) :: (idD, .sem (objC D (.deferred (some [])))) :: h
theorem closed_ids {ids : List Nat} : ∀ {h : Heap}, closedH ids h = true → ∀ i ∈ hids h, i ∈ ids
  | [], _, i, hi => by cases hi
  | (j, d) :: r, hcl, i, hi => by
    have hj : ids.any (Nat.beq j) = true ∧ closedH ids r = true := by
      cases d with
      | blk ty cs => simp only [closedH, Bool.and_eq_true] at hcl; exact ⟨hcl.1.1, hcl.2⟩
      | row e sz xs => simp only [closedH, Bool.and_eq_true] at hcl; exact hcl
      | sem c => simp only [closedH, Bool.and_eq_true] at hcl; exact hcl
    simp only [hids, List.map_cons, List.mem_cons] at hi
    rcases hi with rfl | hi
    · obtain ⟨k, hk, hb⟩ := List.any_eq_true.1 hj.1
      rw [Nat.eq_of_beq_eq_true hb]; exact hk
    · exact closed_ids hj.2 i hi
theorem v_range (ρ : Nat → Nat) {g : Operand} {ps : Array Tmp} {assign body : Code} {f : FuncId} {caps caps0 : List AV} {s0 : Slots} {hin0 : Heap} (idD idL idK : Nat) {R : Nat → Loop → AV → Heap → Prop}
    (hg : evA s g = .fn (.func f) [] caps) (hcg : cOk g = true) (hcaps : caps = renL ρ caps0)
    (hfD : freshAll idD s h = true) (hfL : ∀ D, freshAll idL s ((idD, .sem (objC D (.deferred (some [])))) :: h) = true) (hfK : ∀ l D r, freshAll idK s ((idL, .sem (objC l (.loop r))) :: (idD, .sem (objC D (.deferred (some [])))) :: h) = true)
    (hsub : ∀ l D r σ0, LeH (heldH idK idL idD l D r σ0 h) (renH ρ (lentH l r σ0 hin0))) (hlow : lowQ (8 :: 9 :: hids hin0) = true) (hinj : injQ ρ (8 :: 9 :: hids hin0) = true) (hrow : (rowsR ρ (8 :: 9 :: hids hin0)).all (Nat.ble 5) = true)
    (hlone : ∀ l D r σ0, loneL (rowsR ρ (8 :: 9 :: hids hin0)) (hdelL ((8 :: 9 :: hids hin0).map ρ) (heldH idK idL idD l D r σ0 h)) = true) (hs0 : LeS s (renS ρ s0)) (hcl : closedS ((hids hin0).filter (Nat.blt · 5)) s0 = true)
    (hit : ∀ (l D : Nat) (r : Loop) (σ0 : Sig) (pins : List (Nat × Value)), r.state = .ready → r.pending = none → r.params = ps → r.assign = assign → r.body = body → r.tmps.size = k → SlotsOk σ0 pins s0 r.tmps → (∀ p ∈ pins, p.1 < 5) →
      FnHp P pins f (.fn (.yield l) [] [] :: caps0) (lentH l r σ0 hin0) (R l r))
    (hk : ∀ (l D : Nat) (r : Loop) (σ0 : Sig) v h', R l r v h' → closedH (8 :: 9 :: hids hin0) h' = true ∧ ∃ r', hget h' 8 = some (.sem (objC l (.loop r'))) ∧ r'.state ≠ .busy ∧
      (r'.pending = none → Q (mark D :: ds) .normal (killL (rowsR ρ (8 :: 9 :: hids hin0)) s) ((idL, .sem (objC l (.loop { r' with state := .exhausted }))) :: (renH ρ h' ++ hdelL ((8 :: 9 :: hids hin0).map ρ) (heldH idK idL idD l D r σ0 h)))) ∧
      ∀ c, r'.pending = some c → VW P k c Q (mark D :: ds) (killL (rowsR ρ (8 :: 9 :: hids hin0)) s) ((idL, .sem (objC l (.loop { r' with state := .exhausted }))) :: (renH ρ h' ++ hdelL ((8 :: 9 :: hids hin0).map ρ) (heldH idK idL idD l D r σ0 h))))
    (h8 : ρ 8 = idL) : VW P k (.rangeFunc g ps assign body) Q ds s h := ⟨fun E σ ι a w hr ht => by
  have hv := evA_sound (σ := σ) (ι := ι) (a := a) (s := s) (x := g) hcg fun t _ => ht.at_ t
  rw [hg] at hv
  obtain ⟨us, cv, h1, h2, h3⟩ := hv.fn_inv
  rw [L2.nil_iff] at h2
  subst h2
  refine wpIn_rangeFunc ?_
  intro fn _
  obtain ⟨r, hrr⟩ : ∃ r : Loop, r = { state := .ready, pending := none, fn, tmps := a.tmps, params := ps, assign, body, defers := w.heap.size } := ⟨_, rfl⟩
  obtain ⟨W1, hW1⟩ : ∃ W1, W1 = (w.alloc (.deferred (some []))).alloc (.loop r) := ⟨_, rfl⟩
  have hfD' := hfD
  simp only [freshAll, Bool.and_eq_true, Nat.ble_eq] at hfD'
  have hfL' := hfL w.heap.size
  simp only [freshAll, Bool.and_eq_true, Nat.ble_eq] at hfL'
  have hfK' := hfK (w.heap.size + 1) w.heap.size r
  simp only [freshAll, Bool.and_eq_true, Nat.ble_eq] at hfK'
  have r1 := hr.objNew idD (.deferred (some [])) hfD'.2 hfD'.1.1
  have r2 := r1.objNew idL (.loop r) hfL'.2 hfL'.1.1
  rw [show (w.alloc (.deferred (some []))).heap.size = w.heap.size + 1 by simp, ← hW1] at r2
  have r3 := r2.knowNew idK hfK'.2 hfK'.1.1
  have t1 := ht.upd hfD'.1.1 hfD'.1.2 (.map (some w.heap.size))
  have t2 := t1.upd hfL'.1.1 hfL'.1.2 (.map (some (w.heap.size + 1)))
  have t3 := t2.upd hfK'.1.1 hfK'.1.2 .nilFunc
  obtain ⟨ι3, hι3⟩ : ∃ ι3, ι3 = upd (upd (upd ι idD (.map (some w.heap.size))) idL (.map (some (w.heap.size + 1)))) idK .nilFunc := ⟨_, rfl⟩
  rw [← hι3] at r3 t3
  obtain ⟨may, pin, hr1, back⟩ := r3.lend ρ (hin := lentH (w.heap.size + 1) r σ hin0) (hsub _ _ _ _) hlow hinj hrow (hlone _ _ _ _)
  obtain ⟨pins, hpins⟩ : ∃ pins, pins = ((hids hin0).filter (Nat.blt · 5)).map fun i => (i, ι3 (ρ i)) := ⟨_, rfl⟩
  have hp5 : ∀ p ∈ pins, p.1 < 5 := fun p hp => by
    rw [hpins] at hp
    obtain ⟨i, hi, rfl⟩ := List.mem_map.1 hp
    have := (List.mem_filter.1 hi).2
    simpa [Nat.blt_eq] using this
  have hpin : Pinned pins (fun i => ι3 (ρ i)) := fun p hp => ⟨hp5 p hp, by
    rw [hpins] at hp
    obtain ⟨i, hi, rfl⟩ := List.mem_map.1 hp
    rfl⟩
  have hslots : SlotsOk σ pins s0 r.tmps := fun σ' ι' hle hpi t => by
    have e1 := (t3.le hs0).at_ t
    rw [get_renS] at e1
    have e2 := (e1.unren _ rfl).mono hle
    have e3 : r.tmps = a.tmps := by rw [hrr]
    rw [e3]
    refine e2.agree (ids := (hids hin0).filter (Nat.blt · 5)) (fun i hi => ?_) (closedS_get hcl t)
    have := (hpi (i, ι3 (ρ i)) (by rw [hpins]; exact List.mem_map.2 ⟨i, hi, rfl⟩)).2
    exact this.symm
  obtain ⟨he, hit⟩ := hit (w.heap.size + 1) w.heap.size r σ pins (by rw [hrr]) (by rw [hrr]) (by rw [hrr]) (by rw [hrr]) (by rw [hrr]) (by rw [hrr]; exact ht.size) hslots hp5
  have hyv : VR σ (fun i => ι3 (ρ i)) (.fn (.yield (w.heap.size + 1)) [] []) (.func (.yield (w.heap.size + 1)) #[] #[]) := .base _ _ (.fn _ [] [] [] [] rfl (fun j c v hc => by simp at hc) rfl (fun j c v hc => by simp at hc))
  have hv3 := evA_sound (σ := σ) (ι := ι3) (a := a) (s := s) (x := g) hcg fun t _ => t3.at_ t
  rw [hg] at hv3
  obtain ⟨us3, cv3, k1, k2, k3⟩ := hv3.fn_inv
  rw [L2.nil_iff] at k2
  subst k2
  have ecv : cv3 = cv := by
    rw [h1] at k1
    injection k1 with _ _ q
    exact (List.toArray_inj q).symm
  subst ecv
  have hcv : L2 (VR σ (fun i => ι3 (ρ i))) caps0 cv3 := by
    refine ⟨by rw [← renL_length ρ caps0, ← hcaps]; exact k3.1, fun j c v hc hv => ?_⟩
    refine (k3.2 j (ren ρ c) v ?_ hv).unren c rfl
    rw [hcaps, renL_get, hc]; rfl
  have hcall := hit may pin σ _ W1 ([.func (.yield (w.heap.size + 1)) #[] #[]] ++ cv3) hr1 hpin (hcv.cons hyv)
  refine ⟨w.heap.size + 1, [mark w.heap.size], W1, { target := .fn (.func f) cv3.toArray, args := #[.func (.yield (w.heap.size + 1)) #[] #[]] }, W1, f,
    #[.func (.yield (w.heap.size + 1)) #[] #[]] ++ cv3.toArray, W1, ?_, ?_, ?_, ?_, fun hd => absurd hd (by simp [wideR, Fence.wide]), ?_⟩
  · rw [hW1, hrr]; exact run_enterLoop_outer _ _ _ _ _
  · simp only [resolve, rangeCall, h1]
    simp [go_sem]
  · intro f' _; trivial
  · simp [invoke, go_sem, he _]
  · have e : ([Value.func (.yield (w.heap.size + 1)) #[] #[]] ++ cv3).toArray = #[.func (.yield (w.heap.size + 1)) #[] #[]] ++ cv3.toArray := by apply Array.toList_inj.1; simp
    rw [e] at hcall
    refine (calls_R (ro := none) (m := 0 - 1) hcall).mono ?_
    rintro e w' ⟨u, v, h', σ', ι', rfl, g1, g2, g3⟩
    obtain ⟨c1, r', c2, c3, c4, c5⟩ := hk _ w.heap.size _ σ _ _ g1
    obtain ⟨ι4, b1, b2, b3, b4⟩ := back w' h' σ' ι' g3 c1
    have hget : hget (renH ρ h' ++ hdelL ((8 :: 9 :: hids hin0).map ρ) (heldH idK idL idD (w.heap.size + 1) w.heap.size r σ h)) idL = some (.sem (objC (w.heap.size + 1) (.loop r'))) := by
      rw [hget_append]
      have hmem : ∀ i ∈ hids h', i ∈ (8 :: 9 :: hids hin0) := closed_ids c1
      have hinj' : ∀ i ∈ (8 :: 9 :: hids hin0), ∀ j ∈ (8 :: 9 :: hids hin0), ρ i = ρ j → i = j := fun i hi j hj e => injQ_spec hinj hi hj e
      rw [← h8, hget_renH hmem hinj' 8 (by simp), c2]
      rfl
    obtain ⟨_, d2⟩ := b1.obj hget
    have b5 := b1.objTurn hget (.loop { r' with state := .exhausted })
    have t4 := b4 _ _ _ t3
    have t5 : TR { n := k, ds := mark w.heap.size :: ds } σ' ι4 (killL (rowsR ρ (8 :: 9 :: hids hin0)) s) { a with defers := [mark w.heap.size] ++ a.defers } :=
      ⟨t4.size, ⟨by show [mark w.heap.size] ++ a.defers = _; rw [t4.defers.1]; rfl, fun p hp => by cases hp⟩, t4.at_⟩
    refine ⟨r'.pending, _, run_endLoop d2 c3, ?_⟩
    have fin : ∀ pd, pd = r'.pending → (match pd with
        | none => (fun e a' w' => ∃ ds' s' h' σ' ι', Q ds' e s' h' ∧ Rel E σ' ι' h' w' ∧ TR { n := k, ds := ds' } σ' ι' s' a') .normal { a with defers := [mark w.heap.size] ++ a.defers } (w'.putObj (w.heap.size + 1) (.loop { r' with state := .exhausted }))
        | some c => c.wpIn (wideR none) 0 P (fun e a' w' => ∃ ds' s' h' σ' ι', Q ds' e s' h' ∧ Rel E σ' ι' h' w' ∧ TR { n := k, ds := ds' } σ' ι' s' a') { a with defers := [mark w.heap.size] ++ a.defers } (w'.putObj (w.heap.size + 1) (.loop { r' with state := .exhausted }))) := fun pd hpd => by
      cases pd with
      | none => exact ⟨_, _, _, _, _, c4 hpd.symm, b5, t5⟩
      | some c => exact (c5 c hpd.symm).out E σ' ι4 _ _ b5 t5
    exact fin _ rfl⟩
/-- How the text of a function with such loops leaves. -/
def RetV (P : Program) (rs : List ResultVar) (R : AV → Heap → Prop) (ds : List Deferred) : Exit → Slots → Heap → Prop
  | .ret, s, h => ∃ v s' h' h0, ∃ l : List (Nat × Nat), (∀ n, Turns n s h s' h') ∧ ds = l.map (fun p => mark p.2) ∧ (l.map (·.1)).Nodup ∧ (∀ p ∈ l, hget h' p.1 = some (.sem (objC p.2 (.deferred (some []))))) ∧ LeH h' h0 ∧ (∀ p ∈ l, hget h0 p.1 = none) ∧ resA P s' h0 rs = some v ∧ R v h0
  | .normal, s, h => ∃ v s' h' h0, ∃ l : List (Nat × Nat), (∀ n, Turns n s h s' h') ∧ ds = l.map (fun p => mark p.2) ∧ (l.map (·.1)).Nodup ∧ (∀ p ∈ l, hget h' p.1 = some (.sem (objC p.2 (.deferred (some []))))) ∧ LeH h' h0 ∧ (∀ p ∈ l, hget h0 p.1 = none) ∧ resA P s' h0 rs = some v ∧ R v h0
  | _, _, _ => False
theorem leaves_marks {fn : Func} {E : Env} {σ : Sig} {ι : Nat → Value} {n : Md} {s : Slots} {a : Act} {h0 : Heap} {v : AV} {R : AV → Heap → Prop} (ht : TR n σ ι s a) (hres : resA P s h0 fn.results.toList = some v) (hR : R v h0) :
    ∀ (l : List (Nat × Nat)) (h : Heap) (w : World), Rel E σ ι h w → (l.map (·.1)).Nodup → (∀ p ∈ l, hget h p.1 = some (.sem (objC p.2 (.deferred (some []))))) → LeH h h0 → (∀ p ∈ l, hget h0 p.1 = none) →
      LeavesInM (wideR none) 0 P fn a.tmps (fun e w' => ∃ u r h' σ' ι', e = .returned u ∧ R r h' ∧ VR σ' ι' r u ∧ Rel E σ' ι' h' w') (l.map fun p => mark p.2) .returning w
  | [], h, w, hr, _, _, hl, _ => by
    obtain ⟨u, h3, h4⟩ := resA_run (P := P) (hr.le hl) ht hres
    exact ⟨u, h3, u, v, h0, σ, ι, rfl, hR, h4, hr.le hl⟩
  | p :: l, h, w, hr, hn, hm, hl, h0n => by
    have hp := hm p List.mem_cons_self
    obtain ⟨_, e2⟩ := hr.obj hp
    have r2 := hr.objTurn hp (.deferred none)
    rw [List.map_cons, List.nodup_cons] at hn
    refine ⟨by simp, .inl ⟨p.2, _, rfl, run_takeDeferred e2, ?_⟩⟩
    refine leaves_marks ht hres hR l _ _ r2 hn.2 (fun q hq => ?_) (fun i c hc => ?_) (fun q hq => h0n q (List.mem_cons_of_mem _ hq))
    · rw [hget_cons, if_neg (fun e => hn.1 (by rw [e]; exact List.mem_map_of_mem hq))]
      exact hm q (List.mem_cons_of_mem _ hq)
    · rw [hget_cons]
      split
      · rename_i e; subst e
        rw [h0n p List.mem_cons_self] at hc; cases hc
      · exact hl i c hc
theorem fn_of_V {fn : Func} {c : Code} {E : Env} {args : List AV} {vs : List Value} {σ : Sig} {ι : Nat → Value} {w : World} {f : FuncId} {R : AV → Heap → Prop} (hf : P.funcs[f]? = some fn) (hb : fn.body = some c) (hl : args.length ≤ fn.ntmps)
    (hwp : VW P fn.ntmps c (RetV P fn.results.toList R) [] (slots0 args 0) h) (hr : Rel E σ ι h w) (hv : L2 (VR σ ι) args vs) :
    Calls P f vs.toArray w (fun e w' => ∃ u r h' σ' ι', e = .returned u ∧ R r h' ∧ VR σ' ι' r u ∧ Rel E σ' ι' h' w') := by
  have t0 := start_TR hl hv
  have h0 := hwp.out E σ ι _ w hr t0
  have h1 : CallsIn (wideR none) 0 P f vs.toArray w (fun e w' => ∃ u r h' σ' ι', e = .returned u ∧ R r h' ∧ VR σ' ι' r u ∧ Rel E σ' ι' h' w') := by
    refine callsIn_of_wp_marks hf hb trivial (Go.wpIn_mono h0 ?_) rfl
    rintro e a w' ⟨ds', s', h', σ', ι', q, r, t⟩
    have fin : (∃ v s'' h'' h0, ∃ l : List (Nat × Nat), (∀ n, Turns n s' h' s'' h'') ∧ ds' = l.map (fun p => mark p.2) ∧ (l.map (·.1)).Nodup ∧ (∀ p ∈ l, hget h'' p.1 = some (.sem (objC p.2 (.deferred (some []))))) ∧ LeH h'' h0 ∧ (∀ p ∈ l, hget h0 p.1 = none) ∧ resA P s'' h0 fn.results.toList = some v ∧ R v h0) →
        LeavesInM (wideR none) 0 P fn a.tmps (fun e w' => ∃ u r h' σ' ι', e = .returned u ∧ R r h' ∧ VR σ' ι' r u ∧ Rel E σ' ι' h' w') a.defers .returning w' := fun ⟨v, s'', h'', h0, l, q1, q2, q3, q4, q5, q6, q7, q8⟩ => by
      obtain ⟨σ2, ι2, r2, t2⟩ := q1 _ E σ' ι' a w' r t
      rw [t.defers.1]
      show LeavesInM _ _ _ _ _ _ ds' _ _
      rw [q2]
      exact leaves_marks t2 q7 q8 l h'' w' r2 q3 q4 q5 q6
    cases e with
    | ret => exact fin q
    | normal => exact fin q
    | _ => exact q.elim
  exact callsIn_wide.1 h1
theorem fnhv {f : FuncId} {fn : Func} {c : Code} {args : List AV} {hin : Heap} {R : AV → Heap → Prop} (hf : P.funcs[f]? = some fn) (he : Entered P f) (hb : fn.body = some c) (hl : Nat.ble args.length fn.ntmps = true)
    (hwp : VW P fn.ntmps c (RetV P fn.results.toList R) [] (slots0 args 0) hin) : FnH P f args hin R :=
  ⟨he, fun may pin σ ι w vs hr hv => fn_of_V hf hb (Nat.ble_eq ▸ hl) hwp hr hv⟩
theorem fnv {f : FuncId} {fn : Func} {c : Code} {args : List AV} {r : AV} (hf : P.funcs[f]? = some fn) (he : Entered P f) (hb : fn.body = some c) (hl : Nat.ble args.length fn.ntmps = true) (hp : pureA r = true)
    (hwp : VW P fn.ntmps c (RetV P fn.results.toList (fun v _ => v = r)) [] (slots0 args 0) []) : Fn P f args r := by
  refine ⟨he, fun σ ι w vs hsub hv => (fn_of_V hf hb (Nat.ble_eq ▸ hl) hwp (Rel.start σ ι w hsub) hv).mono ?_⟩
  rintro e w' ⟨u, r', h', σ', ι', rfl, rfl, h2, h3⟩
  refine ⟨u, σ', rfl, h2.pure hp, ?_⟩
  exact ⟨h3.os, h3.tape, h3.output, h3.size, h3.old, h3.sigOld, h3.sub, fun i c hc => (by cases hc), fun i c hc => (by cases hc), fun i j c d hc => (by cases hc), fun p hp => (by cases hp), fun p hp => (by cases hp), fun p hp => (by cases hp)⟩
end
end Go.Proofs.Ytfjoaeghnfkdlaa
