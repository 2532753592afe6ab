/- A program that may be has a walk, so what the dearest one takes is told. No condition. -/
import Derived.Test.YtkkmageogkkchaaCs3
namespace Go.Proofs.Ytkkmageogkkchaa
set_option linter.unusedSimpArgs false
set_option linter.unusedVariables false
set_option maxRecDepth 100000
set_option linter.unusedSimpArgs false
set_option linter.unusedVariables false
set_option maxRecDepth 100000
open Go.RowKit
def liveW (x : Way) : Prop := 0 ≤ x.thr ∨ 0 ≤ x.fin
theorem more_live {v : Int} {x : Way} (hv : 0 ≤ v) : (0 ≤ x.thr → 0 ≤ moreI v x.thr) ∧ (0 ≤ x.fin → 0 ≤ moreI v x.fin) := by
  refine ⟨fun h => ?_, fun h => ?_⟩
  · rw [more_pos hv h]; exact (addB _ _).1
  · rw [more_pos hv h]; exact (addB _ _).1
section
variable {bt : Int → Int → Int} (hbt : ∀ a b, 0 ≤ a → 0 ≤ b → 0 ≤ bt a b)
include hbt
theorem best_live {a b : Int} (h : 0 ≤ a ∨ 0 ≤ b) : 0 ≤ bestI bt a b := by
  unfold bestI
  split
  · omega
  · split
    · omega
    · exact hbt _ _ (by omega) (by omega)
theorem fold_live (v : Int) (at_ : List Way) : ∀ (l : List Int) (o : Way), (0 ≤ o.thr → 0 ≤ (l.foldl (edge bt v at_) o).thr) ∧ (0 ≤ o.fin → 0 ≤ (l.foldl (edge bt v at_) o).fin)
  | [], o => ⟨id, id⟩
  | t :: l, o => by
    rw [List.foldl_cons]
    have h := fold_live v at_ l (edge bt v at_ o t)
    exact ⟨fun e => h.1 (best_live hbt (.inl e)), fun e => h.2 (best_live hbt (.inl e))⟩
theorem edge_live {v : Int} (hv : 0 ≤ v) (at_ : List Way) {x : Int} : ∀ (l : List Int) (o : Way), x ∈ l → liveW (at_.getD x.toNat default) → liveW (l.foldl (edge bt v at_) o)
  | t :: l, o, hx, hl => by
    rw [List.foldl_cons]
    rcases List.mem_cons.1 hx with rfl | hx
    · have h := fold_live hbt v at_ l (edge bt v at_ o x)
      have h2 := more_live (x := at_.getD x.toNat default) hv
      rcases hl with hl | hl
      · exact .inl (h.1 (best_live hbt (.inr (h2.1 hl))))
      · exact .inr (h.2 (best_live hbt (.inr (h2.2 hl))))
    · exact edge_live hv at_ l _ hx hl
end
section
variable {p : List Instr}
theorem oft_pos {n x : Int} (h : 0 ≤ x) : 0 ≤ oftI n x := by rw [oftI, if_neg (by omega)]; exact (mulB _ _).1
theorem next_in (hf : FineP p) (hn : ∀ i, 0 ≤ (p.getD i default).n) {part : Span} (hp : isPart p part) {pc : Nat} (h1 : part.frm ≤ pc) (h2 : (pc : Int) ≤ part.to) (ho : outL (loopsL p) pc part = none) (h16 : (p.getD pc default).op ≠ 16) {j : Nat} (hj : pc < j) (hjl : j < p.length) (hm : mayB p pc j = true) :
    (j : Int) ≤ part.to ∧ ¬ deep p part j := by
  have hs := part_sound hf hn hp
  have hno := outL_none.1 ho
  refine ⟨?_, fun ⟨s, d1, d2⟩ => ?_⟩
  · rcases hp with hp | rfl
    · rcases Int.lt_or_le part.to j with q | q
      · have := (edge_loop hf hn (by omega) hm hp).2 ⟨h1, h2⟩ (by omega)
        have h3 := loop_sound hf hn hp
        rw [← this, Int.toNat_natCast] at h3
        exact absurd h3.2.2.2.1 h16
      · exact q
    · simp only; omega
  · obtain ⟨s3, ⟨s4, s5, s6⟩, _⟩ := outL_some.1 d1
    have := (edge_loop hf hn (by omega) hm s3).1 ⟨s5, s6⟩ (hno s s3 s4)
    exact d2 this.symm
theorem loop_next (hf : FineP p) (hn : ∀ i, 0 ≤ (p.getD i default).n) {part s : Span} (hp : isPart p part) {pc : Nat} (ho : outL (loopsL p) pc part = some s) (hsp : s.frm = pc) {t : Nat} (ht : (t : Int) = s.to + 1) : (t : Int) ≤ part.to ∧ pc < t ∧ ¬ deep p part t := by
  obtain ⟨s1, ⟨s2, s3, s4⟩, s5⟩ := outL_some.1 ho
  have hso := loop_sound hf hn s1
  have hin := in_part hf hn hp s1 s2
  refine ⟨by omega, by omega, fun ⟨s', d1, d2⟩ => ?_⟩
  obtain ⟨d3, ⟨d4, d5, d6⟩, _⟩ := outL_some.1 d1
  have d9 := loop_nest hf s1 d3 (by omega)
  have := s5 s' d3 d4 (by omega) (by omega)
  omega
theorem next_some (hf : FineP p) (hn : ∀ i, 0 ≤ (p.getD i default).n) {i : Nat} (hi : i < p.length) (h21 : (p.getD i default).op ≠ 21) : ∃ x, x ∈ nextL p i := by
  cases hq : nextL p i with
  | nil => exact absurd ((next_nil p i).1 (by rw [hq]; rfl)) h21
  | cons x l => exact ⟨x, List.mem_cons_self⟩
theorem part_live {bt : Int → Int → Int} (hbt : ∀ a b, 0 ≤ a → 0 ≤ b → 0 ≤ bt a b) (hf : FineP p) (hn : ∀ i, 0 ≤ (p.getD i default).n) (w : List Int) : ∀ (f : Nat) (part : Span), isPart p part → sizeS part ≤ f → liveW (partW bt p w (loopsL p) f part)
  | 0, part, hp, hs => by
    have := part_sound hf hn hp
    unfold sizeS at hs; omega
  | f + 1, part, hp, hs => by
    have hso := part_sound hf hn hp
    have hsz : (sizeS part : Int) = part.to + 1 - part.frm := by unfold sizeS; omega
    rw [partW]
    have key : ∀ (m : Nat) (pc : Nat), part.frm ≤ pc → (pc : Int) + m = part.to → ¬ deep p part pc → liveW ((atTo bt p w (loopsL p) (partW bt p w (loopsL p) f) part (sizeS part)).getD pc default) := by
      intro m
      induction m using Nat.strongRecOn with
      | ind m ih =>
      intro pc h1 h2 hd
      have h3 : (pc : Int) ≤ part.to := by omega
      rw [back_eq hf hn hp h1 h3]
      have nxt : ∀ j : Nat, pc < j → (j : Int) ≤ part.to → ¬ deep p part j → liveW ((atTo bt p w (loopsL p) (partW bt p w (loopsL p) f) part (sizeS part)).getD j default) := fun j q1 q2 q3 =>
        ih (part.to - j).toNat (by omega) j (by omega) (by omega) q3
      generalize atTo bt p w (loopsL p) (partW bt p w (loopsL p) f) part (sizeS part) = G at *
      have hv := wAt_ok w pc
      rw [valW]
      cases ho : outL (loopsL p) pc part with
      | none =>
        simp only
        unfold nodeW
        split
        · exact .inr hv.1
        · split
          · exact .inl hv.1
          · rename_i h21 h16
            obtain ⟨x, hx⟩ := next_some hf hn (by omega) h21
            obtain ⟨j, rfl, q1, q2, q3⟩ := next_up hf hn (by omega) h16 hx
            obtain ⟨q4, q5⟩ := next_in hf hn hp h1 h3 ho h16 q1 q2 q3
            exact edge_live hbt hv.1 G _ _ hx (by rw [Int.toNat_natCast]; exact nxt j q1 q4 q5)
      | some s =>
        have hsp : s.frm = pc := by
          rcases Int.lt_trichotomy s.frm pc with q | q | q
          · exact absurd ⟨s, ho, by omega⟩ hd
          · exact q
          · exact absurd ⟨s, ho, by omega⟩ hd
        simp only
        rw [if_pos hsp]
        obtain ⟨t, ht⟩ : ∃ t : Nat, (t : Int) = s.to + 1 := by
          have := loop_sound hf hn (outL_some.1 ho).1
          exact ⟨(s.to + 1).toNat, by omega⟩
        obtain ⟨q1, q2, q3⟩ := loop_next hf hn hp ho hsp ht
        obtain ⟨s1, ⟨s2, s3, s4⟩, s5⟩ := outL_some.1 ho
        have hin := in_part hf hn hp s1 s2
        have h4 := part_live hbt hf hn w f s (.inl s1) (by unfold sizeS at *; omega)
        have h5 := nxt t q2 q1 q3
        rw [show (s.to + 1).toNat = t by omega]
        generalize partW bt p w (loopsL p) f s = one at *
        generalize G.getD t default = on at *
        unfold rndW liveW
        simp only
        rcases h4 with h4 | h4
        · have ha := oft_pos (n := (p.getD s.to.toNat default).c + 1) h4
          have hm := more_live (x := on) ha
          rcases h5 with h5 | h5
          · exact .inl (hm.1 h5)
          · exact .inr (best_live hbt (.inr (hm.2 h5)))
        · exact .inr (best_live hbt (.inl (best_live hbt (.inl h4))))
    have hd0 : ¬ deep p part part.frm.toNat := fun ⟨s, d1, d2⟩ => by
      obtain ⟨d3, ⟨d4, d5, d6⟩, _⟩ := outL_some.1 d1
      have := in_part hf hn hp d3 d4
      omega
    exact key (part.to - part.frm).toNat part.frm.toNat (by omega) (by omega) hd0
/-- Nothing comes through the whole. -/
theorem whole_thr {bt : Int → Int → Int} (hbt : ∀ a b, okI a → okI b → okI (bt a b)) (hf : FineP p) (hn : ∀ i, 0 ≤ (p.getD i default).n) (w : List Int) (f : Nat) : (partW bt p w (loopsL p) f ⟨0, (p.length : Int) - 1⟩).thr = -1 := by
  cases f with
  | zero => rfl
  | succ f =>
  have hp : isPart p ⟨0, (p.length : Int) - 1⟩ := .inr rfl
  have hso := part_sound hf hn hp
  simp only at hso
  rw [partW]
  have key : ∀ (m : Nat) (pc : Nat), (pc : Int) + m = p.length → ((atTo bt p w (loopsL p) (partW bt p w (loopsL p) f) ⟨0, (p.length : Int) - 1⟩ (sizeS ⟨0, (p.length : Int) - 1⟩)).getD pc default).thr = -1 := by
    intro m
    induction m using Nat.strongRecOn with
    | ind m ih =>
    intro pc h2
    by_cases h3 : (pc : Int) ≤ (p.length : Int) - 1
    case neg => rw [back_no (by simp only; omega) (by simp only; omega) _ (by unfold sizeS; simp only; omega)]
    rw [back_eq hf hn hp (by simp only; omega) (by simp only; omega)]
    have nxt : ∀ j : Nat, pc < j → j ≤ p.length → ((atTo bt p w (loopsL p) (partW bt p w (loopsL p) f) ⟨0, (p.length : Int) - 1⟩ (sizeS ⟨0, (p.length : Int) - 1⟩)).getD j default).thr = -1 := fun j q1 q2 => ih (p.length - j) (by omega) j (by omega)
    generalize atTo bt p w (loopsL p) (partW bt p w (loopsL p) f) ⟨0, (p.length : Int) - 1⟩ (sizeS ⟨0, (p.length : Int) - 1⟩) = G at *
    rw [valW]
    cases ho : outL (loopsL p) pc ⟨0, (p.length : Int) - 1⟩ with
    | none =>
      simp only
      unfold nodeW
      split
      · rfl
      · split
        · rename_i h16
          exfalso
          have hm : (⟨(p.getD pc default).n, pc⟩ : Span) ∈ loopsL p := by
            rw [loopsL, loopsTo, List.mem_map]
            exact ⟨pc, List.mem_filter.2 ⟨List.mem_range.2 (by omega), decide_eq_true h16⟩, rfl⟩
          have h4 := loop_sound hf hn hm
          simp only at h4
          refine outL_none.1 ho _ hm ?_ ⟨by simp only; omega, by simp only; omega⟩
          rw [inQ, decide_eq_true_eq]
          refine ⟨fun e => ?_, by simp only; omega, by simp only; omega⟩
          have := congrArg Span.to e
          simp only at this
          omega
        · rename_i h21 h16
          have : ∀ (l : List Int) (o : Way), o.thr = -1 → (∀ x ∈ l, (G.getD x.toNat default).thr = -1) → (l.foldl (edge bt (wAt w pc) G) o).thr = -1 := by
            intro l
            induction l with
            | nil => intro o h _; exact h
            | cons t l ihl =>
              intro o h hx
              rw [List.foldl_cons]
              refine ihl _ ?_ fun x hm => hx x (List.mem_cons_of_mem _ hm)
              rw [edge]
              simp only
              rw [hx t List.mem_cons_self, h, more_neg (.inr (by decide))]
              rfl
          refine this _ _ rfl fun x hx => ?_
          obtain ⟨j, rfl, q1, q2, _⟩ := next_up hf hn (by omega) h16 hx
          rw [Int.toNat_natCast]
          exact nxt j q1 (by omega)
    | some s =>
      simp only
      split
      · have h4 := loop_sound hf hn (outL_some.1 ho).1
        rw [rndW]
        simp only
        rw [nxt (s.to + 1).toNat (by omega) (by omega), more_neg (.inr (by decide))]
      · rfl
  have := key p.length 0 (by omega)
  exact this
theorem mostI_pos (hf : fineB p = true) (hn : ∀ i, 0 ≤ (p.getD i default).n) (w : List Int) : 0 ≤ mostI p w := by
  have hfp := fine_inv hf
  have h1 := part_live (bt := max) (fun a b h1 h2 => by omega) hfp hn w p.length ⟨0, (p.length : Int) - 1⟩ (.inr rfl) (by unfold sizeS; simp only; omega)
  have h2 := whole_thr max_ok hfp hn w p.length
  rcases h1 with h1 | h1
  · rw [h2] at h1; omega
  · exact h1
end
end Go.Proofs.Ytkkmageogkkchaa
