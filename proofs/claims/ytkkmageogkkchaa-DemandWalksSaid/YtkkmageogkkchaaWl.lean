/- Walks: from each place a walk ends, so what is left is never nothing. The document's walk of any choices, and all walks (plain). No condition. -/
import Derived.Test.YtkkmageogkkchaaWn
namespace Go.Proofs.Ytkkmageogkkchaa
set_option linter.unusedSimpArgs false
set_option linter.unusedVariables false
set_option maxRecDepth 100000
set_option linter.unusedSimpArgs false
set_option linter.unusedVariables false
set_option maxRecDepth 100000
open Go.RowKit
section
variable {p : List Instr} {α : Type} (R : SR α) (wt : Nat → α)
/-- Out of the whole one comes by Done alone. -/
theorem sumG_thr (f : Nat → GW α) : ∀ (l : List Int), (∀ x ∈ l, (f x.toNat).thr = R.zero) → (sumG R f l).thr = R.zero
  | [], _ => rfl
  | x :: l, h => by
    have ih := sumG_thr f l (fun y hy => h y (List.mem_cons_of_mem _ hy))
    rw [sumG] at ih
    rw [sumG, List.foldr_cons, SR.plus]
    simp only
    rw [ih, h x List.mem_cons_self, R.add_zero]
theorem whole_zero (hf : FineP p) (hn : ∀ i, 0 ≤ (p.getD i default).n) : ∀ (m pc : Nat), p.length - pc ≤ m → pc < p.length → (VG R wt p (wholeS p) pc).thr = R.zero
  | 0, pc, h, h' => by omega
  | m + 1, pc, h, h' => by
    have h1 : (wholeS p).frm ≤ pc := by simp only [wholeS]; omega
    have h2 : (pc : Int) ≤ (wholeS p).to := by simp only [wholeS]; omega
    rw [VG_eq R wt (P := wholeS p) hf hn (.inr rfl) h1 h2]
    cases ho : outL (loopsL p) pc (wholeS p) with
    | none =>
      simp only
      unfold nodeG
      split
      · rfl
      · split
        · rename_i h21 h16
          have hb := back_loop h' h16
          have hs := loop_sound hf hn hb
          have hq := outL_none.1 ho _ hb (by
            rw [inQ, decide_eq_true_eq]
            refine ⟨fun e => ?_, by simp only [wholeS]; exact hn _, by simp only [wholeS]; omega⟩
            rw [wholeS, Span.mk.injEq] at e
            simp only at hs; omega)
          simp only at hq hs
          omega
        · rename_i h21 h16
          rw [SR.scale]
          simp only
          rw [sumG_thr R _ _ fun x hx => ?_, R.mul_zero]
          obtain ⟨j, rfl, q1, q2, q3⟩ := next_up hf hn h' h16 hx
          rw [Int.toNat_natCast]
          exact whole_zero hf hn m j (by omega) q2
    | some s =>
      obtain ⟨s1, ⟨s2, s3, s4⟩, s5⟩ := outL_some.1 ho
      have hso := loop_sound hf hn s1
      simp only
      split
      · rw [SR.close]
        simp only
        rw [whole_zero hf hn m _ (by omega) (by omega), R.mul_zero, R.mul_zero]
      · rfl
/-- What is alive. -/
structure Liv (R : SR α) (L : α → Prop) : Prop where
  nz : ¬ L R.zero
  one : L R.one
  add : ∀ a b, L a → L (R.add a b)
  mul : ∀ a b, L a → L b → L (R.mul a b)
variable {R wt} {L : α → Prop}
theorem Liv.add' (hL : Liv R L) (a b : α) (h : L b) : L (R.add a b) := R.add_comm a b ▸ hL.add b a h
theorem Liv.pow (hL : Liv R L) {x : α} (h : L x) : ∀ n, L (R.pow x n)
  | 0 => hL.one
  | n + 1 => hL.mul _ _ h (Liv.pow hL h n)
def livG (L : α → Prop) (v : GW α) : Prop := L v.thr ∨ L v.fin
theorem liv_rds (hL : Liv R L) {one on : GW α} (h1 : livG L one) (h2 : L on.fin) : ∀ r, L (R.rds one on r)
  | 0 => h2
  | r + 1 => by
    rw [SR.rds]
    rcases h1 with h | h
    · exact hL.add' _ _ (hL.mul _ _ h (liv_rds hL (.inl h) h2 r))
    · exact hL.add _ _ h
theorem liv_rdsF (hL : Liv R L) {one on : GW α} (h1 : L one.fin) (r : Nat) : L (R.rds one on (r + 1)) := hL.add _ _ h1
theorem liv_close (hL : Liv R L) {v one on : GW α} (hv : livG L v) (h1 : livG L one) (h2 : livG L on) (r : Nat) : livG L (R.close v one on r) := by
  rw [SR.close]
  rcases hv with hv | hv
  · rcases h2 with h2 | h2
    · rcases h1 with h1 | h1
      · exact .inl (hL.mul _ _ hv (hL.mul _ _ (hL.pow h1 r) h2))
      · cases r with
        | zero => exact .inl (hL.mul _ _ hv (hL.mul _ _ hL.one h2))
        | succ r => exact .inr (hL.add' _ _ (hL.mul _ _ hv (liv_rdsF hL h1 r)))
    · exact .inr (hL.add' _ _ (hL.mul _ _ hv (liv_rds hL h1 h2 r)))
  · exact .inr (hL.add _ _ hv)
theorem liv_scale (hL : Liv R L) {a : α} {v : GW α} (ha : L a) (hv : livG L v) : livG L (R.scale a v) := by
  rcases hv with hv | hv
  · exact .inl (hL.mul _ _ ha hv)
  · exact .inr (hL.mul _ _ ha hv)
theorem liv_sum (hL : Liv R L) (f : Nat → GW α) : ∀ (l : List Int) (x : Int), x ∈ l → livG L (f x.toNat) → livG L (sumG R f l)
  | [], x, hx, _ => by simp at hx
  | y :: l, x, hx, h => by
    have e : sumG R f (y :: l) = R.plus (f y.toNat) (sumG R f l) := rfl
    rw [e, SR.plus]
    rcases List.mem_cons.1 hx with rfl | hx
    · rcases h with h | h
      · exact .inl (hL.add _ _ h)
      · exact .inr (hL.add _ _ h)
    · rcases liv_sum hL f l x hx h with h | h
      · exact .inl (hL.add' _ _ h)
      · exact .inr (hL.add' _ _ h)
/-- What is behind a loop lies in no other one of its part, but at its beginning. -/
theorem behind (hf : FineP p) (hn : ∀ i, 0 ≤ (p.getD i default).n) {P s : Span} {j : Nat} (hP : isPart p P) (ho : outL (loopsL p) j P = some s) : ¬ deep p P (s.to + 1).toNat := fun ⟨x, d1, d2⟩ => by
  obtain ⟨s1, ⟨s2, s3, s4⟩, s5⟩ := outL_some.1 ho
  obtain ⟨d3, ⟨d4, d5, d6⟩, _⟩ := outL_some.1 d1
  have h1 := loop_sound hf hn s1
  have h2 := loop_sound hf hn d3
  have h3 := loop_nest hf s1 d3 (by omega)
  have := s5 x d3 d4 (by omega) (by omega)
  omega
theorem liv_V (hL : Liv R L) (hw : ∀ pc, L (wt pc)) (hf : FineP p) (hn : ∀ i, 0 ≤ (p.getD i default).n) : ∀ (m : Nat) (P : Span) (pc : Nat), mG p P pc < m → isPart p P → P.frm ≤ pc → (pc : Int) ≤ P.to → ¬ deep p P pc → livG L (VG R wt p P pc)
  | 0, _, _, h, _, _, _, _ => by omega
  | m + 1, P, pc, h, hP, h1, h2, hd => by
    have hs := part_sound hf hn hP
    rw [VG_eq R wt hf hn hP h1 h2]
    cases ho : outL (loopsL p) pc P with
    | none =>
      simp only
      unfold nodeG
      split
      · exact .inr (hw pc)
      · split
        · exact .inl (hw pc)
        · rename_i h21 h16
          have hne : (nextL p pc) ≠ [] := fun e => h21 ((next_nil p pc).1 (by rw [e]; rfl))
          obtain ⟨x, hx⟩ : ∃ x, x ∈ nextL p pc := List.exists_mem_of_ne_nil _ hne
          obtain ⟨j, rfl, q1, q2, q3⟩ := next_up hf hn (by omega) h16 hx
          obtain ⟨q4, q5⟩ := next_in hf hn hP h1 h2 ho h16 q1 q2 q3
          have := mG_next (p := p) (P := P) q1 (by omega)
          refine liv_scale hL (hw pc) (liv_sum hL _ _ _ hx ?_)
          rw [Int.toNat_natCast]
          exact liv_V hL hw hf hn m P j (by omega) hP (by omega) q4 q5
    | some s =>
      obtain ⟨s1, ⟨s2, s3, s4⟩, s5⟩ := outL_some.1 ho
      simp only
      split
      · rename_i hsp
        have hso := loop_sound hf hn s1
        have hin := in_part hf hn hP s1 s2
        have m1 := mG_in (pc := pc) hf hn hP s1 s2
        have m2 := mG_next (p := p) (P := P) (i := pc) (j := (s.to + 1).toNat) (by omega) (by omega)
        have e1 := liv_V hL hw hf hn m s pc (by omega) (.inl s1) s3 s4 (fun ⟨x, d1, d2⟩ => by
          obtain ⟨d3, ⟨d4, d5, d6⟩, _⟩ := outL_some.1 d1
          have := in_part hf hn (.inl s1) d3 d4
          omega)
        exact liv_close hL e1 e1 (liv_V hL hw hf hn m P (s.to + 1).toNat (by omega) hP (by omega) (by omega) (behind hf hn hP ho)) _
      · rename_i hsp
        exact absurd ⟨s, ho, hsp⟩ hd
variable {c : Span → Nat}
theorem liv_up (hL : Liv R L) (hw : ∀ pc, L (wt pc)) (hf : FineP p) (hn : ∀ i, 0 ≤ (p.getD i default).n) {j : Nat} : ∀ (n : Nat) (P : Span), (seg p P j).length = n → isPart p P → P.frm ≤ j → (j : Int) ≤ P.to →
    livG L (R.up (VG R wt p) c P (seg p P j) (VG R wt p ((seg p P j).headD P) j))
  | n, P, hl, hP, h1, h2 => by
    have hs := part_sound hf hn hP
    cases ho : outL (loopsL p) j P with
    | none =>
      rw [seg_none ho]
      exact liv_V hL hw hf hn _ P j (Nat.lt_succ_self _) hP h1 h2 fun ⟨s, d1, _⟩ => by rw [ho] at d1; cases d1
    | some s =>
      have e := seg_some hf ho
      obtain ⟨s1, ⟨s2, s3, s4⟩, s5⟩ := outL_some.1 ho
      have hso := loop_sound hf hn s1
      have hin := in_part hf hn hP s1 s2
      cases n with
      | zero => rw [e] at hl; simp at hl
      | succ n =>
      have ih := liv_up hL hw hf hn n s (by rw [e] at hl; simpa using hl) (.inl s1) s3 s4
      rw [e, SR.up_app, SR.headD_app]
      simp only [List.headD_cons]
      rw [SR.up, SR.up]
      refine liv_close hL ih ?_ ?_ _
      · refine liv_V hL hw hf hn _ s s.frm.toNat (Nat.lt_succ_self _) (.inl s1) (by omega) (by omega) fun ⟨x, d1, d2⟩ => ?_
        obtain ⟨d3, ⟨d4, d5, d6⟩, _⟩ := outL_some.1 d1
        have := in_part hf hn (.inl s1) d3 d4
        omega
      · exact liv_V hL hw hf hn _ P (s.to + 1).toNat (Nat.lt_succ_self _) hP (by omega) (by omega) (behind hf hn hP ho)
theorem phi_thr (hf : FineP p) (hn : ∀ i, 0 ≤ (p.getD i default).n) {j : Nat} (hj : j < p.length) : (R.up (VG R wt p) c (wholeS p) (chain p j) (VG R wt p ((chain p j).headD (wholeS p)) j)).thr = R.zero := by
  cases ho : outL (loopsL p) j (wholeS p) with
  | none => rw [chain, seg_none ho]; exact whole_zero R wt hf hn _ j (Nat.le_refl _) hj
  | some s =>
    have e := seg_some hf ho
    obtain ⟨s1, ⟨s2, s3, s4⟩, s5⟩ := outL_some.1 ho
    have hso := loop_sound hf hn s1
    have hin := in_part hf hn (.inr rfl) s1 s2
    simp only [wholeS] at hin
    rw [chain, e, SR.up_app, SR.up, SR.up, SR.close]
    simp only [List.headD_nil]
    rw [whole_zero R wt hf hn _ _ (Nat.le_refl _) (by omega), R.mul_zero, R.mul_zero]
/-- What is left is alive. -/
theorem phi_liv (hL : Liv R L) (hw : ∀ pc, L (wt pc)) (hf : FineP p) (hn : ∀ i, 0 ≤ (p.getD i default).n) {j : Nat} (hj : j < p.length) : L (phi R p (VG R wt p) c j) := by
  rcases liv_up (c := c) hL hw hf hn _ (wholeS p) rfl (.inr rfl) (by simp only [wholeS]; omega) (by simp only [wholeS]; omega) (j := j) with h | h
  · rw [← chain, phi_thr hf hn hj] at h
    exact absurd h hL.nz
  · exact h
end
theorem liv_max : Liv maxR (fun a => ∃ n, a = some n) := ⟨fun ⟨n, h⟩ => (nomatch h), ⟨0, rfl⟩, fun a b ⟨n, h⟩ => by subst h; cases b <;> exact ⟨_, rfl⟩, fun a b ⟨n, h⟩ ⟨m, h'⟩ => by subst h; subst h'; exact ⟨_, rfl⟩⟩
theorem liv_min : Liv minR (fun a => ∃ n, a = some n) := ⟨fun ⟨n, h⟩ => (nomatch h), ⟨0, rfl⟩, fun a b ⟨n, h⟩ => by subst h; cases b <;> exact ⟨_, rfl⟩, fun a b ⟨n, h⟩ ⟨m, h'⟩ => by subst h; subst h'; exact ⟨_, rfl⟩⟩
theorem liv_cnt : Liv cntR (fun a => 1 ≤ a) := ⟨by simp [cntR], by simp [cntR], fun a b h => by simp only [cntR]; omega, fun a b h h' => by simp only [cntR]; exact Nat.le_trans h (Nat.le_mul_of_pos_right a h')⟩
end Go.Proofs.Ytkkmageogkkchaa
