/- Contracts of the other kind, as contracts of this kind. No condition. -/
import Derived.Test.YtffciebjpiljgaaAvTop
import Derived.Test.YtffciebjpiljgaaOwn
namespace Go.Proofs.Ytffciebjpiljgaa
set_option linter.unusedSimpArgs false
set_option linter.unusedVariables false
set_option maxRecDepth 100000
open Go.RowKit
theorem fn_of_calls {P : Program} {f : FuncId} {args : List AV} {r : AV} (he : Entered P f) (hp : ∀ (σ : Sig) (ι : Nat → Value) (w : World) (vs : List Value), L2 (VR σ ι) args vs → ∃ u, (∀ σ', VR0 σ' r u) ∧ Calls P f vs.toArray w fun e w' => e = .returned u ∧ Below w.heap.size w w') : Fn P f args r :=
  ⟨he, fun σ ι w vs hsub hv => by
    obtain ⟨u, h1, h2⟩ := hp σ ι w vs hv
    refine h2.mono fun e w' ⟨h3, h4⟩ => ⟨u, σ, h3, h1 σ, ?_⟩
    have hcell : ∀ a v, σ a = some v → w'.cell? a = some v := fun a v ha => by
      have hb := World.block_lt_of_cell? w a (hsub a v ha)
      rw [h4.cell hb]; exact hsub a v ha
    exact ⟨h4.os, h4.tape, h4.output, h4.size, fun b hb _ => h4.block b hb, fun _ _ => rfl, hcell, fun i c hc => (by cases hc), fun i c hc => (by cases hc), fun i j c d hc => (by cases hc), fun p hp => (by cases hp), fun p hp => (by cases hp), fun p hp => (by cases hp)⟩⟩
end Go.Proofs.Ytffciebjpiljgaa
