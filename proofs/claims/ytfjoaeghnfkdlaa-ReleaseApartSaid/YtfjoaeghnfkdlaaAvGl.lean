/- Functions that lean on what is known of memory from the beginning (a package's table). No condition. -/
import Derived.Test.YtfjoaeghnfkdlaaAvRg
import Derived.Test.YtfjoaeghnfkdlaaAvTop
namespace Go.Proofs.Ytfjoaeghnfkdlaa
set_option linter.unusedSimpArgs false
set_option linter.unusedVariables false
set_option maxRecDepth 100000
set_option linter.unusedVariables false
set_option linter.unusedSimpArgs false
open Go.RowKit
structure Know where
  T : Sig → Prop
  mono : ∀ σ σ', T σ → Sig.le σ σ' → T σ'
def thatC (kn : Know) : SemC where
  rel := fun σ _ v => v = .nilFunc ∧ kn.T σ
  keep := fun σ σ' H H' v ⟨h1, h2⟩ hs _ => ⟨h1, kn.mono σ σ' h2 hs⟩
  lt := fun σ H v g ⟨h1, h2⟩ hg => by rw [h1] at hg; cases hg
section
variable {P : Program} {n : Md} {Q : Exit → Slots → Heap → Prop} {s : Slots} {h : Heap} {ops : Array Oper} {rest : List Oper} {o : Oper} {K : Slots → Prop} {kn : Know}
/-- A call of f with these yields this, and turns nothing that was there, if so much is known. -/
def FnT (P : Program) (kn : Know) (f : FuncId) (args : List AV) (r : AV) : Prop :=
  Entered P f ∧ ∀ (σ : Sig) (ι : Nat → Value) (w : World) (vs : List Value), kn.T σ → (∀ a v, σ a = some v → w.cell? a = some v) → L2 (VR σ ι) args vs →
    Calls P f vs.toArray w (fun e w' => ∃ u σ', e = .returned u ∧ VR0 σ' r u ∧ Rel ⟨w, σ, [], [], []⟩ σ' ι [] w')
theorem Fn.toT {f : FuncId} {args : List AV} {r : AV} (hf : Fn P f args r) : FnT P kn f args r := ⟨hf.1, fun σ ι w vs _ h1 h2 => hf.2 σ ι w vs h1 h2⟩
theorem ok_callT {f : FuncId} {args : List AV} {r : AV} {id : Nat} (hf : FnT P kn f args r) (hc : callA s o = some (f, args)) (hg : hget h id = some (.sem (thatC kn))) : OkO P o s h r := by
  intro E σ ι a w hr hx K Q hK
  obtain ⟨vs, h1, h2⟩ := callA_spec (P := P) (w := w) hc hf.1 hx
  unfold Oper.wp
  rw [h1, Oper.upon_enter]
  have hk : ι id = .nilFunc ∧ kn.T σ := hr.ch id _ hg
  refine (hf.2 σ ι w vs hk.2 hr.sub h2).mono ?_
  rintro e w' ⟨u, σ', rfl, h3, h4⟩
  obtain ⟨h5, h6⟩ := hr.back h4
  exact hK σ' w' u h5 h6 (.base _ _ h3)
theorem Rel.that {E : Env} {σ : Sig} {ι : Nat → Value} {w : World} (hr : Rel E σ ι h w) (hk : kn.T σ) (id : Nat) (hf : freshH id h = true) (h5 : 5 ≤ id) : Rel E σ (upd ι id .nilFunc) ((id, .sem (thatC kn)) :: h) w :=
  hr.turn (id := id) (u := .nilFunc) (h' := (id, .sem (thatC kn)) :: h) (c' := .sem (thatC kn)) (w' := w)
    (fun i c hi hc => by
      rw [hget_cons, if_neg (fun e => hi e.symm)] at hc
      exact ⟨hc, .inr (freshH_get hf i c hc).2⟩)
    (by rw [hget_cons, if_pos rfl]) (by show _ ∧ _; rw [upd_eq]; exact ⟨rfl, hk⟩)
    rfl rfl rfl (Nat.le_refl _) (fun _ _ _ => rfl) (fun g hv => by cases hv) (.inl h5)
def pureAll : List AV → Bool
  | [] => true
  | x :: xs => pureA x && pureAll xs
theorem pureAll_get : ∀ {cs : List AV}, pureAll cs = true → ∀ (j : Nat) (c : AV), cs[j]? = some c → pureA c = true
  | [], _, j, c, h => by simp at h
  | x :: xs, hp, 0, c, h => by simp at h; subst h; simp only [pureAll, Bool.and_eq_true] at hp; exact hp.1
  | x :: xs, hp, j + 1, c, h => by simp only [pureAll, Bool.and_eq_true] at hp; exact pureAll_get hp.2 j c (by simpa using h)
theorem l2_pureAll {σ : Sig} {ι ι' : Nat → Value} {args : List AV} {vs : List Value} (hp : pureAll args = true) (h : L2 (VR σ ι) args vs) : L2 (VR σ ι') args vs :=
  ⟨h.1, fun j c v hc hv => .base _ _ ((h.2 j c v hc hv).pure (pureAll_get hp j c hc))⟩
theorem fnt {f : FuncId} {fn : Func} {c : Code} {args : List AV} {r : AV} (hf : P.funcs[f]? = some fn) (he : Entered P f) (hb : fn.body = some c) (hl : Nat.ble args.length fn.ntmps = true) (hp : pureA r = true) (hpa : pureAll args = true)
    (hwp : VW P fn.ntmps c (RetV P fn.results.toList (fun v _ => v = r)) [] (slots0 args 0) [(9, .sem (thatC kn))]) : FnT P kn f args r := by
  refine ⟨he, fun σ ι w vs hk hsub hv => ?_⟩
  have r0 := (Rel.start σ ι w hsub).that hk 9 rfl (by omega)
  refine (fn_of_V hf hb (Nat.ble_eq ▸ hl) hwp r0 (l2_pureAll hpa hv)).mono ?_
  rintro e w' ⟨u, r', h', σ', ι', rfl, rfl, h2, h3⟩
  refine ⟨u, σ', rfl, h2.pure hp, ?_⟩
  exact ⟨h3.os, h3.tape, h3.output, h3.size, h3.old, h3.sigOld, h3.sub, fun i c hc => (by cases hc), fun i c hc => (by cases hc), fun i j c d hc => (by cases hc), fun p hp => (by cases hp), fun p hp => (by cases hp), fun p hp => (by cases hp)⟩
theorem topT {f : FuncId} {args : List AV} {vs : List Value} {W : World} (hf : FnT P kn f args (.bool true)) (hk : kn.T (sg W)) (hv : L2 (VR0 (sg W)) args vs) :
    Calls P f vs.toArray W fun e W' => e = .returned (.bool true) ∧ Below W.heap.size W W' := by
  refine (hf.2 (sg W) (fun _ => undef) W vs hk (fun _ _ h => h) (hv.mono fun _ _ h => .base _ _ h)).mono ?_
  rintro e w' ⟨u, σ', rfl, h1, h2⟩
  exact ⟨by rw [VR.bool_inv (ι := fun _ => undef) (.base _ _ h1)], ⟨h2.os, h2.tape, h2.output, h2.size, fun k hk => h2.old k hk (by simp)⟩⟩
end
end Go.Proofs.Ytfjoaeghnfkdlaa
