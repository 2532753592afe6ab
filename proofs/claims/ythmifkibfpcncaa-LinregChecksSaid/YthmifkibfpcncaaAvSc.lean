/- A scope through which one goes without a goto, and a label. No condition. -/
import Derived.Test.YthmifkibfpcncaaAvTac
import Derived.Scope
namespace Go.Proofs.Ythmifkibfpcncaa
set_option linter.unusedSimpArgs false
set_option linter.unusedVariables false
set_option maxRecDepth 100000
set_option linter.unusedVariables false
set_option linter.unusedSimpArgs false
open Go.RowKit
section
variable {P : Program} {b : Go.Frame} {a : Act} {k : List Item} {cs : List Go.Frame} {w : World} {Q : Exit → Act → World → Prop}
theorem stepR_scope' {c : Code} : step P (lone (b.atR a (.code (.scope c) :: k)) cs w) = .next (lone (b.atR a (.code c :: .inScope c :: k)) cs w) :=
  step_lone_go (by simp [stepG, stepG.exec, Frame.atR])
theorem stepR_inScope' {c : Code} : step P (lone (b.atR a (.inScope c :: k)) cs w) = .next (lone (b.atR a k) cs w) :=
  step_lone_go (by simp [stepG, stepG.exec, Frame.atR])
theorem wpIn_scope {F : Fence} {n : Nat} {c : Code} (h : c.wpIn F n P (Exit.noGoto Q) a w) : (Code.scope c).wpIn F n P Q a w := by
  intro b k cs hro hb hr
  have h0 : (lone (b.atR a (.code (.scope c) :: k)) cs w).fenced P F := fenced_calm hb hr rfl
  obtain ⟨e, a₁, w₁, hq, harr⟩ := h b (.inScope c :: k) cs hro hb hr
  cases e with
  | normal => exact ⟨.normal, a₁, w₁, hq, .head h0 stepR_scope' (StepsIn.trans harr (.one (fenced_calm hb hr rfl) stepR_inScope'))⟩
  | exit id =>
    have hx : exitTo id (.inScope c :: k) = exitTo id k := by simp [exitTo]
    exact ⟨.exit id, a₁, w₁, hq, fun k' hk => .head h0 stepR_scope' (harr.1 k' (by rw [hx]; exact hk)),
      fun hr' hk => let ⟨k₁, h1, h2⟩ := harr.2 hr' (by rw [hx]; exact hk); ⟨k₁, h1, .head h0 stepR_scope' h2⟩⟩
  | goto l => exact hq.elim
  | ret => exact ⟨_, a₁, w₁, hq, .of_steps (.one h0 stepR_scope') harr⟩
  | panic ch => exact ⟨_, a₁, w₁, hq, .of_steps (.one h0 stepR_scope') harr⟩
  | outgrown => exact ⟨_, a₁, w₁, hq, .of_steps (.one h0 stepR_scope') harr⟩
end
section
variable {P : Program} {n : Md} {Q : Exit → Slots → Heap → Prop} {s : Slots} {h : Heap}
structure BSc (Q : Exit → Slots → Heap → Prop) (e : Exit) (s : Slots) (h : Heap) : Prop where
  no : ∀ l, e ≠ .goto l
  out : Q e s h
theorem wscope {c : Code} (hc : W P n c (BSc Q) s h) : W P n (.scope c) Q s h := ⟨fun E σ ι a w hr ht => by
  refine wpIn_scope (Go.wpIn_mono (hc.out E σ ι a w hr ht) ?_)
  rintro e a w ⟨s', h', σ', ι', q, r, t⟩
  cases e with
  | goto l => exact (q.no l rfl).elim
  | _ => exact ⟨s', h', σ', ι', q.out, r, t⟩⟩
theorem wlabel {l : Nat} (hq : Q .normal s h) : W P n (.label l) Q s h := ⟨fun E σ ι a w hr ht => Go.wpIn_label ⟨s, h, σ, ι, hq, hr, ht⟩⟩
theorem rSc (hq : Q .ret s h) : BSc Q .ret s h := ⟨fun l e => (by cases e), hq⟩
theorem nSc (hq : Q .normal s h) : BSc Q .normal s h := ⟨fun l e => (by cases e), hq⟩
end
end Go.Proofs.Ythmifkibfpcncaa
