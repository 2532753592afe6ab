/- Functions with four results. No condition. -/
import Derived.Test.YtffciebjpiljgaaAvTac
namespace Go.Proofs.Ytffciebjpiljgaa
set_option linter.unusedSimpArgs false
set_option linter.unusedVariables false
set_option maxRecDepth 100000
set_option linter.unusedVariables false
set_option linter.unusedSimpArgs false
open Go.RowKit
section
variable {P : Program} {n : Md} {s : Slots} {h : Heap}
def resA4 (P : Program) (s : Slots) (h : Heap) : List ResultVar → Option AV
  | [x, y, z, q] => match resV P s h x, resV P s h y, resV P s h z, resV P s h q with | some v1, some v2, some v3, some v4 => some (.tup [v1, v2, v3, v4]) | _, _, _, _ => none
  | _ => none
theorem resA4_run {E : Env} {fn : Func} {σ : Sig} {ι : Nat → Value} {a : Act} {w : World} {m : Md} (hr : Rel E σ ι h w) (ht : TR m σ ι s a) {v : AV} (hv : resA4 P s h fn.results.toList = some v) : ∃ u, (results fn a.tmps).run P w = .ok u w ∧ VR σ ι v u := by
  have e : ∀ l, fn.results.toList = l → fn.results = l.toArray := fun l h => by rw [← Array.toArray_toList (xs := fn.results), h]
  unfold resA4 at hv
  split at hv
  · rename_i x y z q h1
    split at hv
    · rename_i v1 v2 v3 v4 hx hy hz hq; cases hv
      obtain ⟨u1, h2, h3⟩ := resV_run hr ht hx
      obtain ⟨u2, h4, h5⟩ := resV_run hr ht hy
      obtain ⟨u3, h6, h7⟩ := resV_run hr ht hz
      obtain ⟨u4, h8, h9⟩ := resV_run hr ht hq
      refine ⟨.tuple #[u1, u2, u3, u4], ?_, .tup _ [_, _, _, _] rfl ((((((L2.nil _).cons h9).cons h7).cons h5).cons h3).2)⟩
      simp [results_eq, e _ h1, h2, h4, h6, h8]
    · cases hv
  · cases hv
def RetQ4 (P : Program) (rs : List ResultVar) (Q : AV → Heap → Prop) : Exit → Slots → Heap → Prop
  | .ret, s, h => ∃ v s' h', (∀ n, Turns n s h s' h') ∧ resA4 P s' h' rs = some v ∧ Q v h'
  | _, _, _ => False
theorem wp_body4 {fn : Func} {c : Code} {E : Env} {args : List AV} {vs : List Value} {σ : Sig} {ι : Nat → Value} {w : World} {f : FuncId} {Qf : AV → Heap → Prop} (hf : P.funcs[f]? = some fn) (hb : fn.body = some c) (hl : args.length ≤ fn.ntmps)
    (hwp : AWp P { n := fn.ntmps } c (RetQ4 P fn.results.toList Qf) (slots0 args 0) h) (hr : Rel E σ ι h w) (hv : L2 (VR σ ι) args vs) :
    Calls P f vs.toArray w (fun e w' => ∃ u r h' σ' ι', e = .returned u ∧ Qf r h' ∧ VR σ' ι' r u ∧ Rel E σ' ι' h' w') := by
  have h0 := hwp E σ ι _ w hr (start_TR hl hv)
  change c.wpIn Fence.wide 0 P _ _ _ at h0
  refine calls_of_wp hf hb (Code.wp_mono ?_ (wpIn_wide.1 h0))
  rintro e a w' ⟨s', h', σ', ι', q, r, t⟩
  have fin : (∃ v s'' h'', (∀ n, Turns n s' h' s'' h'') ∧ resA4 P s'' h'' fn.results.toList = some v ∧ Qf v h'') → a.defers = [] ∧ ∃ v, (results fn a.tmps).run P w' = .ok v w' ∧ ∃ u r h' σ' ι', Ending.returned v = .returned u ∧ Qf r h' ∧ VR σ' ι' r u ∧ Rel E σ' ι' h' w' := fun ⟨v, s'', h'', hl, h1, h2⟩ => by
    obtain ⟨σ2, ι2, r2, t2⟩ := hl _ E σ' ι' a w' r t
    obtain ⟨u, h3, h4⟩ := resA4_run (P := P) r2 t2 h1
    exact ⟨t.defers.1, u, h3, u, v, h'', σ2, ι2, rfl, h2, h4, r2⟩
  cases e with
  | ret => exact fin q
  | _ => exact q.elim
theorem fnb4 {f : FuncId} {fn : Func} {c : Code} {args : List AV} {r : AV} (hf : P.funcs[f]? = some fn) (he : Entered P f) (hb : fn.body = some c) (hl : Nat.ble args.length fn.ntmps = true) (hp : pureA r = true)
    (hwp : W P { n := fn.ntmps } c (RetQ4 P fn.results.toList (fun v _ => v = r)) (slots0 args 0) []) : Fn P f args r := by
  refine ⟨he, fun σ ι w vs hsub hv => (wp_body4 hf hb (Nat.ble_eq ▸ hl) hwp.out (Rel.start σ ι w hsub) hv).mono ?_⟩
  rintro e w' ⟨u, r', h', σ', ι', rfl, rfl, h2, h3⟩
  refine ⟨u, σ', rfl, h2.pure hp, ?_⟩
  exact ⟨h3.os, h3.tape, h3.output, h3.size, h3.old, h3.sigOld, h3.sub, fun i c hc => (by cases hc), fun i c hc => (by cases hc), fun i j c d hc => (by cases hc), fun p hp => (by cases hp), fun p hp => (by cases hp), fun p hp => (by cases hp)⟩
theorem retq4 {rs : List ResultVar} {Qf : AV → Heap → Prop} {v : AV} (hr : resA4 P s h rs = some v) (hq : Qf v h) : RetQ4 P rs Qf .ret s h := ⟨v, s, h, fun _ => Turns.refl s h, hr, hq⟩
theorem retT4 {rs : List ResultVar} {Qf : AV → Heap → Prop} {s' : Slots} {h' : Heap} (ht : ∀ n, Turns n s h s' h') (hk : RetQ4 P rs Qf .ret s' h') : RetQ4 P rs Qf .ret s h :=
  let ⟨v, s2, h2, h3, h4, h5⟩ := hk; ⟨v, s2, h2, fun n => (ht n).trans (h3 n), h4, h5⟩
end
end Go.Proofs.Ytffciebjpiljgaa
