/- A row of the call's own is frozen where a slot or a block's cell names it. No condition. -/
import Derived.Test.YtffciebjpiljgaaAvLend
namespace Go.Proofs.Ytffciebjpiljgaa
set_option linter.unusedSimpArgs false
set_option linter.unusedVariables false
set_option maxRecDepth 100000
set_option linter.unusedSimpArgs false
set_option linter.unusedVariables false
set_option maxRecDepth 100000
open Go.RowKit
section
variable {n : Md} {s : Slots} {h : Heap}
/-- A row of the call's own that is turned no more. -/
theorem frz_core {E : Env} {σ : Sig} {ι : Nat → Value} {w : World} {id sz : Nat} {e : TypeId} {xs : List (List AV)} (hr : Rel E σ ι h w) (hg : hget h id = some (.row e sz xs)) (h10 : 10 ≤ id) : ∃ σ', Sig.le σ σ' ∧ Rel E σ' ι (hdel id h) w ∧ VR σ' ι (.lst sz xs) (ι id) := by
  obtain ⟨hsz0, hsz, vs, hown, hL⟩ := hr.ch id _ hg
  rcases hown.2 with ⟨h1, h2⟩ | ⟨g, cap, cur, h1, _, h2, h3, h4, h5, h6⟩
  · have hnil : xs = [] := List.eq_nil_of_length_eq_zero h2
    subst hnil
    refine ⟨σ, Sig.le.refl σ, hr.le fun i c hc => ?_, ?_⟩
    · rw [hget_hdel] at hc
      split at hc
      · cases hc
      · exact hc
    · rw [h1]; exact .base _ _ (.empty _ _ _ (by simp))
  · obtain ⟨h7, h8⟩ := hr.letGo hg (g := g) (by rw [h1]; rfl) h10 (xs.length * sz)
    refine ⟨_, h7, h8, ?_⟩
    rw [h1]
    have hfl := flatten_length hsz
    refine .base _ _ (.lst _ _ _ 0 _ (fun j => (vs[j]?).getD undef) h3 h4 hsz (fun j c hc => ?_) fun j c hc => ?_)
    · obtain ⟨u, hu, _⟩ := hL.get hc
      have hj : j < xs.length * sz := by rw [← hfl]; exact (List.getElem?_eq_some_iff.1 hc).1
      unfold sigRow
      rw [if_pos ⟨rfl, rfl, by simpa using hj⟩]
      rw [hu]
      rw [← h6, List.getElem?_take] at hu
      rw [if_pos hj] at hu
      simp only [World.cell?, h2, Option.isSome_none, Bool.false_eq_true, if_false, Nat.zero_add, Option.getD_some]
      rw [← Array.getElem?_toList]; exact hu
    · obtain ⟨u, hu, hR⟩ := hL.get hc
      rw [hu]; exact hR.mono h7
/-- .. that two slots name. -/
theorem turn_freeze2 {t t2 id sz : Nat} {e : TypeId} {xs : List (List AV)} (hs : get s t = .own id) (hs2 : get s t2 = .own id) (hg : hget h id = some (.row e sz xs)) (h10 : Nat.ble 10 id = true) : Turns n s h ((t, .lst sz xs) :: (t2, .lst sz xs) :: s) (hdel id h) := by
  intro E σ ι a w hr ht
  obtain ⟨σ', h1, h2, h3⟩ := frz_core hr hg (Nat.ble_eq ▸ h10)
  refine ⟨σ', ι, h2, ⟨ht.size, ht.defers, fun u => ?_⟩⟩
  have e1 := ht.at_ t
  have e2 := ht.at_ t2
  rw [hs] at e1
  rw [hs2] at e2
  rw [get_cons]
  split
  · rename_i e; subst e
    rw [e1.own_inv]; exact h3
  · rw [get_cons]
    split
    · rename_i e; subst e
      rw [e2.own_inv]; exact h3
    · exact (ht.at_ u).mono h1
/-- .. that a cell of a block names. -/
theorem turn_frzJ {b id sz : Nat} {ty e : TypeId} {cs : List AV} {xs : List (List AV)} (j : Nat) (hg : hget h b = some (.blk ty cs)) (hj : cs[j]? = some (.own id)) (hi : hget h id = some (.row e sz xs)) (h10 : Nat.ble 10 id = true) : Turns n s h s ((b, .blk ty (cs.set j (.lst sz xs))) :: hdel id h) := by
  intro E σ ι a w hr ht
  have hbi : b ≠ id := fun e => by rw [e, hi] at hg; cases hg
  obtain ⟨σ', q1, r1, q3⟩ := frz_core hr hi (Nat.ble_eq ▸ h10)
  have hgb : hget (hdel id h) b = some (.blk ty cs) := by rw [hget_hdel, if_neg (by first | exact hbi | exact fun e => hbi e.symm)]; exact hg
  obtain ⟨g, cur, e1, e2, e3⟩ := r1.ch b _ hgb
  have hsame : Ytffciebjpiljgaa.upd ι b (ι b) = ι := by funext i; unfold Ytffciebjpiljgaa.upd; split <;> simp_all
  have hnew := r1.turn (id := b) (u := ι b) (h' := (b, .blk ty (cs.set j (.lst sz xs))) :: hdel id h) (c' := .blk ty (cs.set j (.lst sz xs))) (w' := w)
    (fun i c hi hc => by rw [hget_cons, if_neg (fun e => hi e.symm)] at hc; exact ⟨hc, .inl rfl⟩) (by rw [hget_cons, if_pos rfl])
    (by rw [hsame]; exact ⟨g, cur, e1, e2, by rw [List.length_set]; exact e3.1, fun k x y hx hy => by
      rw [List.getElem?_set] at hx
      by_cases hjk : j = k
      · subst hjk
        have h5 := e3.2 j (.own id) y hj hy
        have hjl := (List.getElem?_eq_some_iff.1 hj).1
        rw [if_pos rfl, if_pos hjl] at hx
        cases hx
        rw [h5.own_inv]; exact q3
      · rw [if_neg hjk] at hx
        exact e3.2 k x y hx hy⟩)
    rfl rfl rfl (Nat.le_refl _) (fun _ _ _ => rfl) (fun g hv => .inl ⟨_, hgb, hv⟩) (.inr rfl)
  rw [hsame] at hnew
  exact ⟨σ', ι, hnew, ⟨ht.size, ht.defers, fun u => (ht.at_ u).mono q1⟩⟩
end
end Go.Proofs.Ytffciebjpiljgaa
