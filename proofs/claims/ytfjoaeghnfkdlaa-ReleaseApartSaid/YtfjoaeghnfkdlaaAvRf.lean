/- Loops over a function: the loop's record and the rounds, over abstract values. No condition. -/
import Derived.Test.YtfjoaeghnfkdlaaAvJn
namespace Go.Proofs.Ytfjoaeghnfkdlaa
set_option linter.unusedSimpArgs false
set_option linter.unusedVariables false
set_option maxRecDepth 100000
set_option linter.unusedVariables false
set_option linter.unusedSimpArgs false
open Go.RowKit
section
variable {P : Program} {n : Md} {Q : Exit → Slots → Heap → Prop} {s : Slots} {h : Heap} {ops : Array Oper} {rest : List Oper} {o : Oper} {K : Slots → Prop}
/-- This block holds that object. -/
def objC (b : Nat) (ob : Obj) : SemC where
  rel := fun _ H v => v = .map (some b) ∧ H[b]? = some ob
  keep := fun σ σ' H H' v ⟨h1, h2⟩ hs hw => ⟨h1, by rw [hw b (by rw [h1]; rfl)]; exact h2⟩
  lt := fun σ H v g ⟨h1, h2⟩ hg => by
    rw [h1] at hg; simp only [footOf, Option.some.injEq] at hg; subst hg
    exact (Array.getElem?_eq_some_iff.1 h2).1
theorem Rel.obj {E : Env} {σ : Sig} {ι : Nat → Value} {w : World} {id b : Nat} {ob : Obj} (hr : Rel E σ ι h w) (hg : hget h id = some (.sem (objC b ob))) : ι id = .map (some b) ∧ w.heap[b]? = some ob := hr.ch id _ hg
theorem Rel.objNew {E : Env} {σ : Sig} {ι : Nat → Value} {w : World} (hr : Rel E σ ι h w) (id : Nat) (ob : Obj) (hf : freshH id h = true) (h5 : 5 ≤ id) :
    Rel E σ (upd ι id (.map (some w.heap.size))) ((id, .sem (objC w.heap.size ob)) :: h) (w.alloc ob) :=
  hr.turn (id := id) (u := .map (some w.heap.size)) (h' := (id, .sem (objC w.heap.size ob)) :: h) (c' := .sem (objC w.heap.size ob)) (w' := w.alloc ob)
    (fun i c hi hc => by
      rw [hget_cons, if_neg (fun e => hi e.symm)] at hc
      exact ⟨hc, .inr (freshH_get hf i c hc).2⟩)
    (by rw [hget_cons, if_pos rfl])
    (by show _ ∧ _; rw [upd_eq]; exact ⟨rfl, heap_alloc_new w _⟩)
    rfl rfl rfl (by simp) (fun k hk _ => Below.heap_alloc _ _ _ hk) (fun g hv => by cases hv; exact .inr (Nat.le_refl _)) (.inl h5)
theorem Rel.objTurn {E : Env} {σ : Sig} {ι : Nat → Value} {w : World} (hr : Rel E σ ι h w) {id b : Nat} {ob : Obj} (hg : hget h id = some (.sem (objC b ob))) (ob' : Obj) :
    Rel E σ ι ((id, .sem (objC b ob')) :: h) (w.putObj b ob') := by
  obtain ⟨h1, h2⟩ := hr.obj hg
  have hnew := hr.turn (id := id) (u := ι id) (h' := (id, .sem (objC b ob')) :: h) (c' := .sem (objC b ob')) (w' := w.putObj b ob')
    (fun i c hi hc => by rw [hget_cons, if_neg (fun e => hi e.symm)] at hc; exact ⟨hc, .inl rfl⟩) (by rw [hget_cons, if_pos rfl])
    (by show _ ∧ _; rw [upd_eq]; exact ⟨h1, World.putObj_heap_same (Array.getElem?_eq_some_iff.1 h2).1⟩)
    rfl rfl rfl (by simp) (fun k hk hne => World.putObj_heap_other fun e => hne _ hg (by rw [h1, e]; rfl)) (fun g hv => .inl ⟨_, hg, hv⟩) (.inr rfl)
  have hsame : upd ι id (ι id) = ι := by funext i; unfold upd; split <;> simp_all
  rwa [hsame] at hnew
/-- Contracts of functions that are called while these variables stand at places that are known. -/
def Pinned (pins : List (Nat × Value)) (ι : Nat → Value) : Prop := ∀ p ∈ pins, p.1 < 5 ∧ ι p.1 = p.2
def FnHp (P : Program) (pins : List (Nat × Value)) (f : FuncId) (args : List AV) (hin : Heap) (R : AV → Heap → Prop) : Prop :=
  Entered P f ∧ ∀ (may : List (Nat × Nat)) (pin : List (Nat × Value)) (σ : Sig) (ι : Nat → Value) (w : World) (vs : List Value), Rel ⟨w, σ, may, pin, []⟩ σ ι hin w → Pinned pins ι → L2 (VR σ ι) args vs →
    Calls P f vs.toArray w (fun e w' => ∃ u r h' σ' ι', e = .returned u ∧ R r h' ∧ VR σ' ι' r u ∧ Rel ⟨w, σ, may, pin, []⟩ σ' ι' h' w')
theorem wp_bodyP {fn : Func} {c : Code} {E : Env} {pins : List (Nat × Value)} {args : List AV} {vs : List Value} {σ : Sig} {ι : Nat → Value} {w : World} {f : FuncId} {Qf : AV → Heap → Prop} (hf : P.funcs[f]? = some fn) (hb : fn.body = some c) (hl : args.length ≤ fn.ntmps)
    (hwp : AWp P { n := fn.ntmps, pins := pins } c (RetQ P fn.results.toList Qf) (slots0 args 0) h) (hr : Rel E σ ι h w) (hp : Pinned pins ι) (hv : L2 (VR σ ι) args vs) :
    Calls P f vs.toArray w (fun e w' => ∃ u r h' σ' ι', e = .returned u ∧ Qf r h' ∧ VR σ' ι' r u ∧ Rel E σ' ι' h' w') := by
  have t0 := start_TR hl hv
  have h0 := hwp E σ ι _ w hr ⟨t0.size, ⟨rfl, hp⟩, t0.at_⟩
  change c.wpIn Fence.wide 0 P _ _ _ at h0
  refine calls_of_wp hf hb (Code.wp_mono ?_ (wpIn_wide.1 h0))
  rintro e a w' ⟨s', h', σ', ι', q, r, t⟩
  have fin : (∃ v s'' h'', (∀ n, Turns n s' h' s'' h'') ∧ resA P s'' h'' fn.results.toList = some v ∧ Qf v h'') → a.defers = [] ∧ ∃ v, (results fn a.tmps).run P w' = .ok v w' ∧ ∃ u r h' σ' ι', Ending.returned v = .returned u ∧ Qf r h' ∧ VR σ' ι' r u ∧ Rel E σ' ι' h' w' := fun ⟨v, s'', h'', hl, h1, h2⟩ => by
    obtain ⟨σ2, ι2, r2, t2⟩ := hl _ E σ' ι' a w' r t
    obtain ⟨u, h3, h4⟩ := resA_run (P := P) r2 t2 h1
    exact ⟨t.defers.1, u, h3, u, v, h'', σ2, ι2, rfl, h2, h4, r2⟩
  cases e with
  | ret => exact fin q
  | normal => exact fin q
  | _ => exact q.elim
theorem fnhbp {pins : List (Nat × Value)} {f : FuncId} {fn : Func} {c : Code} {args : List AV} {hin : Heap} {R : AV → Heap → Prop} (hf : P.funcs[f]? = some fn) (he : Entered P f) (hb : fn.body = some c) (hl : Nat.ble args.length fn.ntmps = true)
    (hwp : W P { n := fn.ntmps, pins := pins } c (RetQ P fn.results.toList R) (slots0 args 0) hin) : FnHp P pins f args hin R :=
  ⟨he, fun may pin σ ι w vs hr hp hv => wp_bodyP hf hb (Nat.ble_eq ▸ hl) hwp.out hr hp hv⟩
/-- What a call of yield does: a round. -/
def YF (P : Program) (l : Nat) (pins : List (Nat × Value)) (args : List AV) (hin : Heap) (R : Bool → Heap → Prop) : Prop :=
  ∀ (may : List (Nat × Nat)) (pin : List (Nat × Value)) (σ : Sig) (ι : Nat → Value) (w : World) (vs : List Value), Rel ⟨w, σ, may, pin, []⟩ σ ι hin w → Pinned pins ι → L2 (VR σ ι) args vs →
    YieldAt (wideR none) 0 P l vs.toArray w (fun e w' => ∃ r h' σ' ι', e = .returned (.bool r) ∧ R r h' ∧ Rel ⟨w, σ, may, pin, []⟩ σ' ι' h' w')
theorem ycall (ρ : Nat → Nat) {l : Nat} {pins : List (Nat × Value)} {args : List AV} {hin : Heap} {R : Bool → Heap → Prop} (hY : YF P l pins args hin R) (hpin : ∀ p ∈ pins, (ρ p.1, p.2) ∈ n.pins) (hpin5 : ∀ p ∈ pins, p.1 < 5) {y : Operand} {as : Array Operand} {ts : Array TypeId} (ho : o.op = .call { callee := .value y, args := as, argTypes := ts })
    (hy : evA s y = .fn (.yield l) [] []) (has : as.toList.map (evA s) = renL ρ args) (hg : o.guard = none) (hsub : LeH h (renH ρ hin)) (hlow : lowQ (hids hin) = true) (hinj : injQ ρ (hids hin) = true)
    (hrow : (rowsR ρ (hids hin)).all (Nat.ble 5) = true) (hlone : loneL (rowsR ρ (hids hin)) (hdelL ((hids hin).map ρ) h) = true) (hco : constsOk o = true) (hdo : dstOk n o.dst = true)
    (hk : ∀ r h', R r h' → closedH (hids hin) h' = true ∧ O P n ops Q rest (putS (killL (rowsR ρ (hids hin)) s) o.dst (.bool r)) (renH ρ h' ++ hdelL ((hids hin).map ρ) h)) : O P n ops Q (o :: rest) s h := ⟨fun E σ ι a w hr ht hnd => by
  have hnd := (Bool.and_eq_true _ _).mp (by simpa only [noDefer, List.all_cons] using hnd)
  have hv := evA_sound (σ := σ) (ι := ι) (a := a) (List.all_eq_true.1 hco y (by rw [ho]; simp [Op.operands, Call.operands])) fun t _ => ht.at_ t
  rw [hy] at hv
  obtain ⟨us, vs0, h1, h2, h3⟩ := hv.fn_inv
  rw [L2.nil_iff] at h2 h3
  subst h2; subst h3
  obtain ⟨vs, hvs⟩ : ∃ vs, vs = as.toList.map a.eval := ⟨_, rfl⟩
  have hargs : L2 (VR σ (fun i => ι (ρ i))) args vs := by
    have hl : args.length = as.toList.length := by rw [← renL_length ρ args, ← has, List.length_map]
    refine ⟨by rw [hvs, List.length_map]; exact hl, fun j c v hc hv => ?_⟩
    have h4 : (renL ρ args)[j]? = some (ren ρ c) := by rw [renL_get, hc]; rfl
    rw [← has, List.getElem?_map] at h4
    rw [hvs, List.getElem?_map] at hv
    cases hq : as.toList[j]? with
    | none => rw [hq] at hv; cases hv
    | some q =>
      rw [hq] at h4 hv
      simp only [Option.map_some, Option.some.injEq] at h4 hv
      have h5 := evA_sound (σ := σ) (ι := ι) (a := a) (s := s) (x := q) (List.all_eq_true.1 hco q (by rw [ho]; simp only [Op.operands, Call.operands]; simpa using .inr (by simpa using List.mem_of_getElem? hq))) fun t _ => ht.at_ t
      rw [h4, hv] at h5
      exact h5.unren c rfl
  obtain ⟨may, pin, hr1, back⟩ := hr.lend ρ hsub hlow hinj hrow hlone
  obtain ⟨fn, tmps, as_, body, hy1, hy2⟩ := hY may pin σ _ w vs hr1 (fun p hp => ⟨hpin5 p hp, (ht.defers.2 _ (hpin p hp)).2⟩) hargs
  unfold wpListIn
  rw [if_pos (by simp [Region.wanted, hg])]
  refine ⟨fun _ _ => trivial, ?_⟩
  rw [Oper.semAt_eq _ _ _ (fun c e => by rw [ho] at e; cases e)]
  have hrun : (execOp a.eval o).run P w = .ok (.round l fn tmps as_ body) w := by
    have e : as.map a.eval = vs.toArray := by rw [hvs]; apply Array.toList_inj.1; simp
    simp only [execOp, ho, resolve, h1, Deferred.ofValue, Sem.run_bind, Sem.run_pure, Result.andThen_ok, invoke]
    simpa [e] using hy1
  rw [hrun, Oper.uponIn_round]
  refine ⟨fun hd => absurd hd (by simp [wideR, Fence.wide]), ?_⟩
  have hy3 : RoundIn (wideR n.ro) (0 - 1) P l fn tmps as_ body w (fun e w' => ∃ r h' σ' ι', e = .returned (.bool r) ∧ R r h' ∧ Rel ⟨w, σ, may, pin, []⟩ σ' ι' h' w') := hy2
  refine hy3.mono ?_
  rintro e w' ⟨r, h', σ', ι', rfl, h4, h5⟩
  obtain ⟨c1, c2⟩ := hk r h' h4
  obtain ⟨ι2, k1, k2, k3, k4⟩ := back w' h' σ' ι' h5 c1
  exact c2.out E σ' ι2 _ w' k1 ((k4 n s a ht).putS hdo (.base _ _ (.bool _))) hnd.2⟩
/-- So much is known of memory from now on. -/
def knowC (σ0 : Sig) : SemC where
  rel := fun σ _ v => v = .nilFunc ∧ Sig.le σ0 σ
  keep := fun σ σ' H H' v ⟨h1, h2⟩ hs _ => ⟨h1, fun a v ha => hs a v (h2 a v ha)⟩
  lt := fun σ H v g ⟨h1, h2⟩ hg => by rw [h1] at hg; cases hg
theorem Rel.knowNew {E : Env} {σ : Sig} {ι : Nat → Value} {w : World} (hr : Rel E σ ι h w) (id : Nat) (hf : freshH id h = true) (h5 : 5 ≤ id) :
    Rel E σ (upd ι id .nilFunc) ((id, .sem (knowC σ)) :: h) w :=
  hr.turn (id := id) (u := .nilFunc) (h' := (id, .sem (knowC σ)) :: h) (c' := .sem (knowC σ)) (w' := w)
    (fun i c hi hc => by
      rw [hget_cons, if_neg (fun e => hi e.symm)] at hc
      exact ⟨hc, .inr (freshH_get hf i c hc).2⟩)
    (by rw [hget_cons, if_pos rfl]) (by show _ ∧ _; rw [upd_eq]; exact ⟨rfl, Sig.le.refl σ⟩)
    rfl rfl rfl (Nat.le_refl _) (fun _ _ _ => rfl) (fun g hv => by cases hv) (.inl h5)
/-- The slots of the frame that the loop stands in, as the rounds have them. -/
def SlotsOk (σ0 : Sig) (pins : List (Nat × Value)) (s0 : Slots) (tmps : Array Value) : Prop :=
  ∀ (σ : Sig) (ι : Nat → Value), Sig.le σ0 σ → Pinned pins ι → ∀ t, VR σ ι (get s0 t) (tmps.getD t undef)
def RdB (idL l : Nat) (r : Loop) (R : Bool → Heap → Prop) : Exit → Slots → Heap → Prop
  | .normal, s, h => hget h idL = some (.sem (objC l (.loop { r with state := .busy }))) ∧ R true ((idL, .sem (objC l (.loop { r with state := .ready, pending := none }))) :: h)
  | .exit id, s, h => hget h idL = some (.sem (objC l (.loop { r with state := .busy }))) ∧ R false ((idL, .sem (objC l (.loop { r with state := .done, pending := some (.exit id) }))) :: h)
  | .ret, s, h => hget h idL = some (.sem (objC l (.loop { r with state := .busy }))) ∧ R false ((idL, .sem (objC l (.loop { r with state := .done, pending := some .ret }))) :: h)
  | _, s, h => False
def RdA (P : Program) (md : Md) (idL l : Nat) (r : Loop) (R : Bool → Heap → Prop) : Exit → Slots → Heap → Prop
  | .normal, s, h => hget h idL = some (.sem (objC l (.loop r))) ∧ W P md r.body (RdB idL l r R) s ((idL, .sem (objC l (.loop { r with state := .busy }))) :: h)
  | _, s, h => False
/-- One round, by its body's text. -/
theorem yf_body {pins : List (Nat × Value)} {hin : Heap} {idL idK l k t0 : Nat} {r : Loop} {σ0 : Sig} {s0 : Slots} {arg : AV} {R : Bool → Heap → Prop} (hL : hget hin idL = some (.sem (objC l (.loop r)))) (hK : hget hin idK = some (.sem (knowC σ0)))
    (hready : r.state = .ready) (hps : r.params = #[t0]) (hk : r.tmps.size = k) (ht0 : t0 < k) (hs : SlotsOk σ0 pins s0 r.tmps)
    (hbody : W P { n := k, ro := some l, pins := pins } r.assign (RdA P { n := k, ro := some l, pins := pins } idL l r R) ((t0, arg) :: s0) hin) : YF P l pins [arg] hin R := by
  intro may pin σ ι w vs hr hp hv
  obtain ⟨u, vs', rfl, hu, hv⟩ := L2.cons_inv hv
  rw [L2.nil_iff] at hv
  subst hv
  obtain ⟨e1, e2⟩ := hr.obj hL
  have hkn : ι idK = .nilFunc ∧ Sig.le σ0 σ := hr.ch idK _ hK
  refine ⟨r.fn, _, r.assign, r.body, run_yield e2 (by simp [hps]), ?_⟩
  refine roundIn_of_wpIn (F := wideR none) (n := 0) trivial ?_
  have hs0 := hs σ ι hkn.2 hp
  have hfold : (r.params.zip [u].toArray).foldl (fun tmps (t, a) => tmps.setIfInBounds t a) r.tmps = r.tmps.setIfInBounds t0 u := by
    rw [hps]; simp
  have ht : TR { n := k, ro := some l, pins := pins } σ ι ((t0, arg) :: s0) { tmps := (r.params.zip [u].toArray).foldl (fun tmps (t, a) => tmps.setIfInBounds t a) r.tmps, defers := [] } := by
    rw [hfold]
    refine ⟨by simp [hk], ⟨rfl, hp⟩, fun t => ?_⟩
    rw [get_cons]
    by_cases e : t0 = t
    · subst e
      rw [if_pos rfl]
      have : (r.tmps.setIfInBounds t0 u).getD t0 undef = u := by simp [Array.getD, hk, ht0]
      rw [this]; exact hu
    · rw [if_neg e]
      have : (r.tmps.setIfInBounds t0 u).getD t undef = r.tmps.getD t undef := by
        simp only [Array.getD_eq_getD_getElem?, Array.getElem?_setIfInBounds, if_neg e]
      rw [this]; exact hs0 t
  refine Go.wpIn_mono (hbody.out ⟨w, σ, may, pin, []⟩ σ ι _ w hr ht) ?_
  rintro e a w1 ⟨s', h', σ', ι', q, r1, t1⟩
  cases e with
  | normal =>
    obtain ⟨q1, q2⟩ := q
    obtain ⟨e3, e4⟩ := r1.obj q1
    refine ⟨_, run_beginRound e4 hready, ?_⟩
    refine Go.wpIn_mono (q2.out _ σ' ι' a _ (r1.objTurn q1 (.loop { r with state := .busy })) t1) ?_
    rintro e2 a2 w2 ⟨s2, h2, σ2, ι2, q3, r3, t3⟩
    cases e2 with
    | normal =>
      obtain ⟨g1, g2⟩ := q3
      obtain ⟨_, e6⟩ := r3.obj g1
      exact ⟨_, _, run_endRound none e6, true, _, σ2, ι2, rfl, g2, r3.objTurn g1 _⟩
    | ret =>
      obtain ⟨g1, g2⟩ := q3
      obtain ⟨_, e6⟩ := r3.obj g1
      exact ⟨_, _, run_endRound (some .ret) e6, false, _, σ2, ι2, rfl, g2, r3.objTurn g1 _⟩
    | exit id =>
      obtain ⟨g1, g2⟩ := q3
      obtain ⟨_, e6⟩ := r3.obj g1
      exact ⟨_, _, run_endRound (some (.exit id)) e6, false, _, σ2, ι2, rfl, g2, r3.objTurn g1 _⟩
    | _ => exact q3.elim
  | _ => exact q.elim
end
end Go.Proofs.Ytfjoaeghnfkdlaa
