/- Functions: what a call of one yields. No condition. -/
import Derived.Test.YtfjoaeghnfkdlaaAvCall
namespace Go.Proofs.Ytfjoaeghnfkdlaa
set_option linter.unusedSimpArgs false
set_option linter.unusedVariables false
set_option maxRecDepth 100000
set_option linter.unusedVariables false
set_option linter.unusedSimpArgs false
open Go.RowKit
section
variable {P : Program} {n : Md} {Q : Exit → Slots → Heap → Prop} {s : Slots} {h : Heap} {ops : Array Oper} {rest : List Oper} {o : Oper} {K : Slots → Prop}
def Entered (P : Program) (f : FuncId) : Prop := ∀ as w, (callFunc f as).run P w = .ok (.enter f as) w
def enteredQ (P : Program) (f : FuncId) : Bool := match P.funcs[f]? with | some fn => !(fn.name == "runtime.NumGoroutine") && fn.body.isSome | none => false
theorem entered_of {f : FuncId} (h : enteredQ P f = true) : Entered P f := by
  unfold enteredQ at h
  split at h
  · rename_i fn hf
    simp only [Bool.and_eq_true, Bool.not_eq_true'] at h
    intro as w
    have hb : fn.body.isNone = false := by cases hq : fn.body <;> simp_all
    have h1 : ¬ fn.name = "runtime.NumGoroutine" := by simpa using h.1
    have h2 : ¬ fn.body = none := fun e => by simp [e] at hb
    simp [callFunc, hf, h1, h2]
  · cases h
/-- A call of f with these yields this, and turns nothing that was there. -/
def Fn (P : Program) (f : FuncId) (args : List AV) (r : AV) : Prop :=
  Entered P f ∧ ∀ (σ : Sig) (ι : Nat → Value) (w : World) (vs : List Value), (∀ a v, σ a = some v → w.cell? a = some v) → L2 (VR σ ι) args vs →
    Calls P f vs.toArray w (fun e w' => ∃ u σ', e = .returned u ∧ VR0 σ' r u ∧ Rel ⟨w, σ, [], [], []⟩ σ' ι [] w')
theorem Rel.start (σ : Sig) (ι : Nat → Value) (w : World) (hsub : ∀ a v, σ a = some v → w.cell? a = some v) : Rel ⟨w, σ, [], [], []⟩ σ ι [] w :=
  ⟨rfl, rfl, rfl, Nat.le_refl _, fun _ _ _ => rfl, fun _ _ => rfl, hsub, fun i c hc => (by cases hc), fun i c hc => (by cases hc), fun i j c d hc => (by cases hc), fun p hp => (by cases hp), fun p hp => (by cases hp), fun p hp => (by cases hp)⟩
def callA (s : Slots) (o : Oper) : Option (FuncId × List AV) := match o.op with
  | .call { callee := .value x, args := as, argTypes := _ } => match evA s x with
    | .fn (.func f) first cap => some (f, first ++ as.toList.map (evA s) ++ cap)
    | _ => none
  | _ => none
theorem VR.fn_inv {σ : Sig} {ι : Nat → Value} {f : Go.Fn} {xs ys : List AV} {v : Value} (hv : VR σ ι (.fn f xs ys) v) : ∃ us vs : List Value, v = .func f us.toArray vs.toArray ∧ L2 (VR σ ι) xs us ∧ L2 (VR σ ι) ys vs := by
  cases hv with
  | base _ _ h0 => cases h0 with | fn _ _ _ us vs h1 h2 h3 h4 => exact ⟨us, vs, rfl, ⟨h1, fun j x y a b => .base _ _ (h2 j x y a b)⟩, ⟨h3, fun j x y a b => .base _ _ (h4 j x y a b)⟩⟩
  | fn _ _ _ us vs h1 h2 h3 h4 => exact ⟨us, vs, rfl, ⟨h1, h2⟩, ⟨h3, h4⟩⟩
/-- What a call comes to. -/
theorem callA_spec {f : FuncId} {args : List AV} (hc : callA s o = some (f, args)) (he : Entered P f) {σ : Sig} {ι : Nat → Value} {a : Act} {w : World} (hx : ∀ x ∈ o.op.operands.toList, VR σ ι (evA s x) (a.eval x)) :
    ∃ vs : List Value, (execOp a.eval o).run P w = .ok (.enter f vs.toArray) w ∧ L2 (VR σ ι) args vs := by
  unfold callA at hc
  split at hc
  · rename_i x as tys ho
    split at hc
    · rename_i f' first cap hz
      simp only [Option.some.injEq, Prod.mk.injEq] at hc
      obtain ⟨rfl, rfl⟩ := hc
      have hv := hx x (by rw [ho]; simp [Op.operands, Call.operands])
      rw [hz] at hv
      obtain ⟨us, vs, h1, h2, h3⟩ := hv.fn_inv
      refine ⟨us ++ as.toList.map a.eval ++ vs, ?_, (h2.append ⟨by simp, fun j c u hc hu => ?_⟩).append h3⟩
      · have e : (us.toArray ++ as.map a.eval ++ vs.toArray) = (us ++ as.toList.map a.eval ++ vs).toArray := by
          apply Array.toList_inj.1; simp
        simp only [execOp, ho, resolve, h1, Deferred.ofValue, Sem.run_bind, Sem.run_pure, Result.andThen_ok, invoke, e]
        exact he _ w
      · rw [List.getElem?_map] at hc hu
        cases hq : as.toList[j]? with
        | none => rw [hq] at hc; cases hc
        | some q =>
          rw [hq] at hc hu; cases hc; cases hu
          exact hx q (by rw [ho]; simp only [Op.operands, Call.operands]; simpa using .inr (by simpa using List.mem_of_getElem? hq))
    · cases hc
  · cases hc
theorem Rel.back {E : Env} {σ σ' : Sig} {ι : Nat → Value} {w w' : World} (hr : Rel E σ ι h w) (h1 : Rel ⟨w, σ, [], [], []⟩ σ' ι [] w') : Sig.le σ σ' ∧ Rel E σ' ι h w' := by
  have hle : Sig.le σ σ' := fun a v ha => by rw [h1.sigOld a (hr.sig_lt ha)]; exact ha
  have hkeep : ∀ g, g < w.heap.size → w'.heap[g]? = w.heap[g]? := fun g hg => h1.old g hg (by simp)
  refine ⟨hle, ⟨h1.os.trans hr.os, h1.tape.trans hr.tape, h1.output.trans hr.output, Nat.le_trans hr.size h1.size, fun b hb hm => (hkeep b (Nat.lt_of_lt_of_le hb hr.size)).trans (hr.old b hb hm),
    fun a ha => (h1.sigOld a (Nat.lt_of_lt_of_le ha hr.size)).trans (hr.sigOld a ha), h1.sub, fun i c hc => (hr.ch i c hc).keep hle fun g hg => hkeep g (hr.foot_lt hc hg), fun i c hc g hg => ?_, hr.dj, hr.pin, hr.low, fun p hp => ⟨(hr.xo p hp).1, (hkeep p.1 (Array.getElem?_eq_some_iff.1 (hr.xo p hp).2.1).1).trans (hr.xo p hp).2.1, (hr.xo p hp).2.2⟩⟩⟩
  obtain ⟨h2, h3⟩ := hr.foot i c hc g hg
  exact ⟨h2, fun o => by rw [h1.sigOld _ (hr.foot_lt hc hg)]; exact h3 o⟩
/-- A call of a function that turns nothing. -/
theorem ok_call {f : FuncId} {args : List AV} {r : AV} (hf : Fn P f args r) (hc : callA s o = some (f, args)) : OkO P o s h r := by
  intro E σ ι a w hr hx K Q hK
  obtain ⟨vs, h1, h2⟩ := callA_spec (P := P) (w := w) hc hf.1 hx
  unfold Oper.wp
  rw [h1, Oper.upon_enter]
  refine (hf.2 σ ι w vs hr.sub h2).mono ?_
  rintro e w' ⟨u, σ', rfl, h3, h4⟩
  obtain ⟨h5, h6⟩ := hr.back h4
  exact hK σ' w' u h5 h6 (.base _ _ h3)
def slots0 : List AV → Nat → Slots
  | [], _ => []
  | v :: r, k => (k, v) :: slots0 r (k + 1)
theorem get_slots0 : ∀ (args : List AV) (k t : Nat), get (slots0 args k) t = if k ≤ t then (args[t - k]?).getD .undef else .undef
  | [], k, t => by simp [slots0, get]
  | v :: r, k, t => by
    rw [slots0, get_cons, get_slots0]
    by_cases h1 : k = t
    · subst h1; simp
    · by_cases h2 : k ≤ t
      · obtain ⟨m, rfl⟩ : ∃ m, t = k + 1 + m := ⟨t - k - 1, by omega⟩
        rw [if_neg h1, if_pos (by omega), if_pos h2, show k + 1 + m - (k + 1) = m by omega, show k + 1 + m - k = m + 1 by omega, List.getElem?_cons_succ]
      · rw [if_neg h1, if_neg (by omega), if_neg h2]
/-- What a result that lies in memory is. -/
def cellV (P : Program) (t : TypeId) (cs : List AV) : Option AV :=
  match P.underlying t, P.info? t with
  | some d, some i => bif agQ d then (bif Nat.beq cs.length i.size then some (.agg cs) else none) else match cs with | v :: _ => seen v fun v => some v | [] => none
  | _, _ => none
theorem cellV_spec {t : TypeId} {cs : List AV} {v : AV} (hc : cellV P t cs = some v) : ∃ side : Prop, cellsA P t cs = some (side, v) ∧ side := by
  unfold cellV at hc
  split at hc
  · rename_i d i hd hi
    unfold cellsA
    rw [hd, hi]
    cases ha : agQ d with
    | true =>
      rw [ha] at hc
      simp only [cond_true] at hc ⊢
      cases hb : Nat.beq cs.length i.size with
      | true => rw [hb] at hc; simp only [cond_true, Option.some.injEq] at hc ⊢; exact ⟨True, by simp only [ha, cond_true, hc], trivial⟩
      | false => rw [hb] at hc; cases hc
    | false =>
      rw [ha] at hc
      simp only [cond_false] at hc ⊢
      cases cs with
      | nil => cases hc
      | cons c cs => simp only [seen_eq, Option.some.injEq] at hc; subst hc; exact ⟨_, by simp only [ha, cond_false, seen_eq, nth]; rfl, by simp⟩
  · cases hc
def resV (P : Program) (s : Slots) (h : Heap) : ResultVar → Option AV
  | .tmp t => seen (get s t) fun v => some v
  | .cell a t => match get s a with
    | .ref cs => cellV P t cs
    | .ptr id off => match hget h id with
      | some (.blk _ cs) => cellV P t (cs.drop off)
      | _ => none
    | _ => none
def resA (P : Program) (s : Slots) (h : Heap) : List ResultVar → Option AV
  | [] => some (.tup [])
  | [x] => resV P s h x
  | [x, y] => match resV P s h x, resV P s h y with | some v, some v' => some (.tup [v, v']) | _, _ => none
  | [x, y, z] => match resV P s h x, resV P s h y, resV P s h z with | some v, some v', some v'' => some (.tup [v, v', v'']) | _, _, _ => none
  | _ => none
def resM (a : Act) : ResultVar → Sem Value
  | .tmp t => pure (a.tmps.getD t undef)
  | .cell b t => do loadVar t (← asAddr (a.tmps.getD b undef))
theorem results_eq (fn : Func) (a : Act) : results fn a.tmps = (do let vs ← fn.results.mapM (resM a); pure (if h : vs.size = 1 then vs[0] else .tuple vs)) := rfl
theorem resV_run {E : Env} {σ : Sig} {ι : Nat → Value} {a : Act} {w : World} {m : Md} (hr : Rel E σ ι h w) (ht : TR m σ ι s a) {x : ResultVar} {v : AV} (hv : resV P s h x = some v) :
    ∃ u, (resM a x).run P w = .ok u w ∧ VR σ ι v u := by
  cases x with
  | tmp t => simp only [resV, seen_eq, Option.some.injEq] at hv; subst hv; exact ⟨_, by simp [resM], ht.at_ t⟩
  | cell b t =>
    have hb := ht.at_ b
    simp only [resV] at hv
    split at hv
    · rename_i cs hg
      rw [hg] at hb
      obtain ⟨g, off, e, hc⟩ := VR.ref_inv hr hb
      obtain ⟨side, h1, h2⟩ := cellV_spec hv
      obtain ⟨u, h3, h4⟩ := run_load_cells (P := P) hc h1 h2
      exact ⟨u, by simp only [resM, e, asAddr, Sem.run_bind, Sem.run_pure, Result.andThen_ok, h3], h4⟩
    · rename_i id off hg
      rw [hg] at hb
      obtain ⟨g, hf, e⟩ := hb.ptr_inv
      split at hv
      · rename_i ty cs hh
        have hc := (hr.cells hh hf).drop off
        rw [Nat.zero_add] at hc
        obtain ⟨side, h1, h2⟩ := cellV_spec hv
        obtain ⟨u, h3, h4⟩ := run_load_cells (P := P) hc h1 h2
        exact ⟨u, by simp only [resM, e, asAddr, Sem.run_bind, Sem.run_pure, Result.andThen_ok, h3], h4⟩
      · cases hv
    · cases hv
theorem resA_run {E : Env} {fn : Func} {σ : Sig} {ι : Nat → Value} {a : Act} {w : World} {m : Md} (hr : Rel E σ ι h w) (ht : TR m σ ι s a) {v : AV} (hv : resA P s h fn.results.toList = some v) : ∃ u, (results fn a.tmps).run P w = .ok u w ∧ VR σ ι v u := by
  have e : ∀ l, fn.results.toList = l → fn.results = l.toArray := fun l h => by rw [← Array.toArray_toList (xs := fn.results), h]
  unfold resA at hv
  split at hv
  · rename_i h1; cases hv
    exact ⟨_, by simp [results, e _ h1], .tup [] [] rfl (fun j c v h => by simp at h)⟩
  · rename_i x h1
    obtain ⟨u, h2, h3⟩ := resV_run hr ht hv
    refine ⟨u, ?_, h3⟩
    simp [results_eq, e _ h1, h2]
  · rename_i x y h1
    split at hv
    · rename_i v1 v2 hx hy; cases hv
      obtain ⟨u1, h2, h3⟩ := resV_run hr ht hx
      obtain ⟨u2, h4, h5⟩ := resV_run hr ht hy
      refine ⟨.tuple #[u1, u2], ?_, .tup _ [_, _] rfl ((((L2.nil _).cons h5).cons h3).2)⟩
      simp [results_eq, e _ h1, h2, h4]
    · cases hv
  · rename_i x y z h1
    split at hv
    · rename_i v1 v2 v3 hx hy hz; cases hv
      obtain ⟨u1, h2, h3⟩ := resV_run hr ht hx
      obtain ⟨u2, h4, h5⟩ := resV_run hr ht hy
      obtain ⟨u3, h6, h7⟩ := resV_run hr ht hz
      refine ⟨.tuple #[u1, u2, u3], ?_, .tup _ [_, _, _] rfl (((((L2.nil _).cons h7).cons h5).cons h3).2)⟩
      simp [results_eq, e _ h1, h2, h4, h6]
    · cases hv
  · cases hv
/-- How a function's text leaves. -/
def RetQ (P : Program) (rs : List ResultVar) (Q : AV → Heap → Prop) : Exit → Slots → Heap → Prop
  | .ret, s, h => ∃ v s' h', (∀ n, Turns n s h s' h') ∧ resA P s' h' rs = some v ∧ Q v h'
  | .normal, s, h => ∃ v s' h', (∀ n, Turns n s h s' h') ∧ resA P s' h' rs = some v ∧ Q v h'
  | _, _, _ => False
theorem start_TR {fn : Func} {σ : Sig} {ι : Nat → Value} {args : List AV} {vs : List Value} (hl : args.length ≤ fn.ntmps) (h : L2 (VR σ ι) args vs) :
    TR { n := fn.ntmps } σ ι (slots0 args 0) { tmps := vs.toArray ++ Array.replicate (fn.ntmps - vs.toArray.size) undef, defers := [] } := by
  have hv := h.1
  refine ⟨by simp; omega, ⟨rfl, fun p hp => by cases hp⟩, fun t => ?_⟩
  rw [get_slots0, if_pos (Nat.zero_le _), Nat.sub_zero]
  cases hx : args[t]? with
  | none => exact .base _ _ (.undef _)
  | some x =>
    obtain ⟨u, hu, hR⟩ := h.get hx
    have : (vs.toArray ++ Array.replicate (fn.ntmps - vs.toArray.size) undef).getD t undef = u := by
      have ht : t < vs.length := (List.getElem?_eq_some_iff.1 hu).1
      rw [Array.getD_eq_getD_getElem?, Array.getElem?_append_left (by simpa using ht)]
      simp [hu]
    rw [this]; exact hR
theorem wp_body {fn : Func} {c : Code} {E : Env} {args : List AV} {vs : List Value} {σ : Sig} {ι : Nat → Value} {w : World} {f : FuncId} {Qf : AV → Heap → Prop} (hf : P.funcs[f]? = some fn) (hb : fn.body = some c) (hl : args.length ≤ fn.ntmps)
    (hwp : AWp P { n := fn.ntmps } c (RetQ P fn.results.toList Qf) (slots0 args 0) h) (hr : Rel E σ ι h w) (hv : L2 (VR σ ι) args vs) :
    Calls P f vs.toArray w (fun e w' => ∃ u r h' σ' ι', e = .returned u ∧ Qf r h' ∧ VR σ' ι' r u ∧ Rel E σ' ι' h' w') := by
  have h0 := hwp E σ ι _ w hr (start_TR hl hv)
  change c.wpIn Fence.wide 0 P _ _ _ at h0
  refine calls_of_wp hf hb (Code.wp_mono ?_ (wpIn_wide.1 h0))
  rintro e a w' ⟨s', h', σ', ι', q, r, t⟩
  have fin : (∃ v s'' h'', (∀ n, Turns n s' h' s'' h'') ∧ resA P s'' h'' fn.results.toList = some v ∧ Qf v h'') → a.defers = [] ∧ ∃ v, (results fn a.tmps).run P w' = .ok v w' ∧ ∃ u r h' σ' ι', Ending.returned v = .returned u ∧ Qf r h' ∧ VR σ' ι' r u ∧ Rel E σ' ι' h' w' := fun ⟨v, s'', h'', hl, h1, h2⟩ => by
    obtain ⟨σ2, ι2, r2, t2⟩ := hl _ E σ' ι' a w' r t
    obtain ⟨u, h3, h4⟩ := resA_run (P := P) r2 t2 h1
    exact ⟨t.defers.1, u, h3, u, v, h'', σ2, ι2, rfl, h2, h4, r2⟩
  cases e with
  | ret => exact fin q
  | normal => exact fin q
  | _ => exact q.elim
/-- A function that turns nothing, by its text. -/
theorem fn_of_body {f : FuncId} {fn : Func} {c : Code} {args : List AV} {r : AV} (hf : P.funcs[f]? = some fn) (he : Entered P f) (hb : fn.body = some c) (hl : Nat.ble args.length fn.ntmps = true) (hp : pureA r = true)
    (hwp : AWp P { n := fn.ntmps } c (RetQ P fn.results.toList (fun v _ => v = r)) (slots0 args 0) []) : Fn P f args r := by
  refine ⟨he, fun σ ι w vs hsub hv => (wp_body hf hb (Nat.ble_eq ▸ hl) hwp (Rel.start σ ι w hsub) hv).mono ?_⟩
  rintro e w' ⟨u, r', h', σ', ι', rfl, rfl, h2, h3⟩
  refine ⟨u, σ', rfl, h2.pure hp, ?_⟩
  exact ⟨h3.os, h3.tape, h3.output, h3.size, h3.old, h3.sigOld, h3.sub, fun i c hc => (by cases hc), fun i c hc => (by cases hc), fun i j c d hc => (by cases hc), fun p hp => (by cases hp), fun p hp => (by cases hp), fun p hp => (by cases hp)⟩
end
end Go.Proofs.Ytfjoaeghnfkdlaa
