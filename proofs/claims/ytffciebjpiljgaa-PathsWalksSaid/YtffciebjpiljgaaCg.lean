/- With weights that are no less nothing weighs less. No condition. -/
import Derived.Test.YtffciebjpiljgaaCs3
namespace Go.Proofs.Ytffciebjpiljgaa
set_option linter.unusedSimpArgs false
set_option linter.unusedVariables false
set_option maxRecDepth 100000
set_option linter.unusedSimpArgs false
set_option linter.unusedVariables false
set_option maxRecDepth 100000
open Go.RowKit
/-- No less; and there is one where there is the other one. -/
def leV (a b : Int) : Prop := (a < 0 ↔ b < 0) ∧ a ≤ b
def leW (x y : Way) : Prop := leV x.thr y.thr ∧ leV x.fin y.fin
theorem leV.refl (a : Int) : leV a a := ⟨Iff.rfl, Int.le_refl a⟩
theorem leW.refl (x : Way) : leW x x := ⟨leV.refl _, leV.refl _⟩
theorem insG {a b : Int} (h : a ≤ b) : insI a ≤ insI b := by unfold insI; omega
theorem addG {a a' b b' : Int} (h : a ≤ a') (h' : b ≤ b') : addI a b ≤ addI a' b' := by unfold addI insI; omega
theorem mulG {a b b' : Int} (h : b ≤ b') : mulI a b ≤ mulI a b' := by
  have := Int.mul_le_mul (Int.le_refl (insI a)) (insG h) (insB b).1 (insB a).1
  unfold mulI; omega
theorem more_leV {a a' b b' : Int} (h : leV a a') (h' : leV b b') : leV (moreI a b) (moreI a' b') := by
  obtain ⟨h1, h2⟩ := h
  obtain ⟨h3, h4⟩ := h'
  unfold moreI
  by_cases e : a < 0 ∨ b < 0
  · have e2 : a' < 0 ∨ b' < 0 := by rcases e with e | e; exact .inl (h1.1 e); exact .inr (h3.1 e)
    rw [if_pos e, if_pos e2]; exact leV.refl _
  · have e2 : ¬ (a' < 0 ∨ b' < 0) := fun q => e (by rcases q with q | q; exact .inl (h1.2 q); exact .inr (h3.2 q))
    rw [if_neg e, if_neg e2]
    have q1 := addB a b
    have q2 := addB a' b'
    exact ⟨by omega, addG h2 h4⟩
theorem oft_leV (n : Int) {x x' : Int} (h : leV x x') : leV (oftI n x) (oftI n x') := by
  obtain ⟨h1, h2⟩ := h
  unfold oftI
  by_cases e : x < 0
  · rw [if_pos e, if_pos (h1.1 e)]; exact leV.refl _
  · rw [if_neg e, if_neg (fun q => e (h1.2 q))]
    have q1 := mulB n x
    have q2 := mulB n x'
    exact ⟨by omega, mulG h2⟩
/-- A choice that grows with both. -/
structure BtG (bt bt' : Int → Int → Int) : Prop where
  mono : ∀ a a' b b', a ≤ a' → b ≤ b' → bt a b ≤ bt' a' b'
  pos : ∀ a b, 0 ≤ a → 0 ≤ b → 0 ≤ bt a b ∧ 0 ≤ bt' a b
theorem btg_max : BtG max max := ⟨fun a a' b b' h h' => by omega, fun a b h h' => by omega⟩
theorem btg_min : BtG min min := ⟨fun a a' b b' h h' => by omega, fun a b h h' => by omega⟩
theorem btg_mm : BtG min max := ⟨fun a a' b b' h h' => by omega, fun a b h h' => by omega⟩
section
variable {bt bt' : Int → Int → Int} {p : List Instr} {w w' : List Int}
theorem best_leV (hb : BtG bt bt') {a a' b b' : Int} (h : leV a a') (h' : leV b b') : leV (bestI bt a b) (bestI bt' a' b') := by
  obtain ⟨h1, h2⟩ := h
  obtain ⟨h3, h4⟩ := h'
  unfold bestI
  by_cases e : a < 0
  · rw [if_pos e, if_pos (h1.1 e)]; exact ⟨h3, h4⟩
  have e' : ¬ a' < 0 := fun q => e (h1.2 q)
  rw [if_neg e, if_neg e']
  by_cases f : b < 0
  · rw [if_pos f, if_pos (h3.1 f)]; exact ⟨h1, h2⟩
  have f' : ¬ b' < 0 := fun q => f (h3.2 q)
  rw [if_neg f, if_neg f']
  have q1 := hb.pos a b (by omega) (by omega)
  have q2 := hb.pos a' b' (by omega) (by omega)
  exact ⟨by omega, hb.mono _ _ _ _ h2 h4⟩
theorem edge_leW (hb : BtG bt bt') {v v' : Int} (hv : leV v v') {at_ at2 : List Way} (ha : ∀ j : Nat, leW (at_.getD j default) (at2.getD j default)) : ∀ (l : List Int) (o o' : Way), leW o o' → leW (l.foldl (edge bt v at_) o) (l.foldl (edge bt' v' at2) o')
  | [], o, o', h => h
  | x :: l, o, o', h => by
    rw [List.foldl_cons, List.foldl_cons]
    exact edge_leW hb hv ha l _ _ ⟨best_leV hb h.1 (more_leV hv (ha _).1), best_leV hb h.2 (more_leV hv (ha _).2)⟩
theorem wAt_leV (hw : ∀ j : Nat, w.getD j default ≤ w'.getD j default) (pc : Nat) : leV (wAt w pc) (wAt w' pc) := by
  have q1 := wAt_ok w pc
  have q2 := wAt_ok w' pc
  exact ⟨by omega, insG (hw pc)⟩
theorem nodeW_leW (hb : BtG bt bt') (hw : ∀ j : Nat, w.getD j default ≤ w'.getD j default) {at_ at2 : List Way} (ha : ∀ j : Nat, leW (at_.getD j default) (at2.getD j default)) (pc : Nat) : leW (nodeW bt p w at_ pc) (nodeW bt' p w' at2 pc) := by
  unfold nodeW
  split
  · exact ⟨leV.refl _, wAt_leV hw pc⟩
  · split
    · exact ⟨wAt_leV hw pc, leV.refl _⟩
    · exact edge_leW hb (wAt_leV hw pc) ha _ _ _ (leW.refl _)
theorem rndW_leW (hb : BtG bt bt') {one one' on on' : Way} (h1 : leW one one') (h2 : leW on on') (t : Int) : leW (rndW bt one on t) (rndW bt' one' on' t) :=
  ⟨more_leV (oft_leV _ h1.1) h2.1, best_leV hb (best_leV hb h1.2 (more_leV (oft_leV _ h1.1) h1.2)) (more_leV (oft_leV _ h1.1) h2.2)⟩
theorem valW_leW (hb : BtG bt bt') (hw : ∀ j : Nat, w.getD j default ≤ w'.getD j default) (L : List Span) {rec rec' : Span → Way} (hr : ∀ s, leW (rec s) (rec' s)) (part : Span) {at_ at2 : List Way} (ha : ∀ j : Nat, leW (at_.getD j default) (at2.getD j default)) (pc : Nat) :
    leW (valW bt p w L rec part at_ pc) (valW bt' p w' L rec' part at2 pc) := by
  unfold valW
  cases outL L pc part with
  | none => exact nodeW_leW hb hw ha pc
  | some s =>
    dsimp only
    split
    · exact rndW_leW hb (hr s) (ha _) _
    · exact leW.refl _
theorem atTo_leW (hb : BtG bt bt') (hw : ∀ j : Nat, w.getD j default ≤ w'.getD j default) (L : List Span) {rec rec' : Span → Way} (hr : ∀ s, leW (rec s) (rec' s)) (part : Span) : ∀ k (j : Nat), leW ((atTo bt p w L rec part k).getD j default) ((atTo bt' p w' L rec' part k).getD j default)
  | 0, j => leW.refl _
  | k + 1, j => by
    have ih := atTo_leW hb hw L hr part k
    rw [atTo, atTo, getD_setG, getD_setG, atTo_len, atTo_len]
    split
    · exact valW_leW hb hw L hr part ih _
    · exact ih j
theorem partW_leW (hb : BtG bt bt') (hw : ∀ j : Nat, w.getD j default ≤ w'.getD j default) (L : List Span) : ∀ f part, leW (partW bt p w L f part) (partW bt' p w' L f part)
  | 0, _ => leW.refl _
  | f + 1, part => by
    rw [partW, partW]
    exact atTo_leW hb hw L (partW_leW hb hw L f) part _ _
theorem cost_grows (hb : BtG bt bt') (hl : w.length = w'.length) (hw : ∀ j : Nat, w.getD j default ≤ w'.getD j default) : (costF bt p w).1 ≤ (costF bt' p w').1 ∧ (costF bt p w).2 = (costF bt' p w').2 := by
  unfold costF
  rw [hl]
  split
  · exact ⟨Int.le_refl _, rfl⟩
  · split
    · exact ⟨Int.le_refl _, rfl⟩
    · exact ⟨(partW_leW hb hw _ _ _).2.2, rfl⟩
end
end Go.Proofs.Ytffciebjpiljgaa
