/- A literal says no more than the list that it stands for. No condition. -/
import Derived.Test.YtnijdaidmpjccaaDoorPlain
namespace Go.Proofs.YtnijdaidmpjccaaDoor
set_option linter.unusedSimpArgs false
set_option linter.unusedVariables false
set_option maxRecDepth 100000
set_option linter.unusedSimpArgs false
set_option linter.unusedVariables false
set_option maxRecDepth 100000
open Go.RowKit
def LeV0 (x y : AV) : Prop := ∀ σ v, VR0 σ x v → VR0 σ y v
theorem LeV0.refl (x : AV) : LeV0 x x := fun _ _ h => h
theorem LeV0.nils (sz : Nat) : LeV0 .nils (.lst sz []) := fun σ v h => by
  cases h; exact .empty sz none 0 (by simp)
theorem LeV0.lst {sz : Nat} {xs ys : List (List AV)} (hl : xs.map (·.length) = ys.map (·.length)) (h : L2 LeV0 xs.flatten ys.flatten) : LeV0 (.lst sz xs) (.lst sz ys) := fun σ v h0 => by
  have hlen : xs.length = ys.length := by have := congrArg List.length hl; simpa using this
  cases h0 with
  | empty _ A cap hc =>
    have : ys = [] := List.eq_nil_of_length_eq_zero (by rw [← hlen]; rfl)
    subst this
    exact .empty sz A cap hc
  | lst _ _ b off cap g h1 h2 h3 h4 h5 =>
    rw [hlen] at h1 ⊢
    have hx : ∀ (j : Nat) (c : AV), ys.flatten[j]? = some c → ∃ c', xs.flatten[j]? = some c' ∧ LeV0 c' c := fun j c hc => by
      have hj : j < xs.flatten.length := by rw [h.1]; exact (List.getElem?_eq_some_iff.1 hc).1
      exact ⟨_, List.getElem?_eq_getElem hj, h.2 j _ c (List.getElem?_eq_getElem hj) hc⟩
    refine .lst sz ys b off cap g h1 h2 (fun c hc => ?_) (fun j c hc => ?_) (fun j c hc => ?_)
    · obtain ⟨i, hi, rfl⟩ := List.getElem_of_mem hc
      have e : (xs.map (·.length))[i]? = (ys.map (·.length))[i]? := by rw [hl]
      have hi' : i < xs.length := by omega
      simp [hi, hi'] at e
      rw [← e]; exact h3 _ (List.getElem_mem hi')
    · obtain ⟨c', e1, _⟩ := hx j c hc
      exact h4 j c' e1
    · obtain ⟨c', e1, e2⟩ := hx j c hc
      exact e2 _ _ (h5 j c' e1)
/-- A value that lies in memory that nobody turns. -/
def flatLst : AV → Bool
  | .lst _ _ | .nils => true
  | _ => false
theorem LeV.of0 {x y : AV} (hx : flatLst x = true) (h : LeV0 x y) : LeV x y := fun σ ι v hv => by
  cases hv with
  | base _ _ h0 => exact .base _ _ (h σ v h0)
  | own => cases hx
  | ptr => cases hx
  | eptr => cases hx
  | agg => cases hx
  | tup => cases hx
  | fn => cases hx
/-- A literal's parts. -/
theorem lel {xs ys : List AV} (x : L2 LeV0 xs ys := by repeat' (first | exact L2.nil _ | refine L2.cons ?_ ?_ | exact LeV0.refl _ | exact LeV0.nils _ | refine LeV0.lst rfl ?_)) : L2 LeV0 xs ys := x
theorem lelst {sz : Nat} {xs ys : List (List AV)} (hl : xs.map (·.length) = ys.map (·.length) := by rfl) (h : L2 LeV0 xs.flatten ys.flatten := by (simp only [List.flatten, List.map, List.cons_append, List.nil_append]; repeat' (first | exact L2.nil _ | refine L2.cons ?_ ?_ | exact LeV0.refl _ | exact LeV0.nils _ | refine LeV0.lst rfl ?_))) : LeV (.lst sz xs) (.lst sz ys) := LeV.of0 rfl (LeV0.lst hl h)
end Go.Proofs.YtnijdaidmpjccaaDoor
