/- A program that may be has a walk, so what the dearest one takes is told. No condition. -/
import Derived.Test.YtffciebjpiljgaaG21
namespace Go.Proofs.Ytffciebjpiljgaa
set_option linter.unusedSimpArgs false
set_option linter.unusedVariables false
set_option maxRecDepth 100000
set_option linter.unusedSimpArgs false
set_option linter.unusedVariables false
set_option maxRecDepth 100000
open Go.RowKit
def liveW (x : Way) : Prop := 0 ≤ x.thr ∨ 0 ≤ x.fin
section
variable {bt : Int → Int → Int} (hbt : ∀ a b, 0 ≤ a → 0 ≤ b → 0 ≤ bt a b)
include hbt
end
section
variable {p : List Instr}
theorem next_in (hf : FineP p) (hn : ∀ i, 0 ≤ (p.getD i default).n) {part : Span} (hp : isPart p part) {pc : Nat} (h1 : part.frm ≤ pc) (h2 : (pc : Int) ≤ part.to) (ho : outL (loopsL p) pc part = none) (h16 : (p.getD pc default).op ≠ 16) {j : Nat} (hj : pc < j) (hjl : j < p.length) (hm : mayB p pc j = true) :
    (j : Int) ≤ part.to ∧ ¬ deep p part j := by
  have hs := part_sound hf hn hp
  have hno := outL_none.1 ho
  refine ⟨?_, fun ⟨s, d1, d2⟩ => ?_⟩
  · rcases hp with hp | rfl
    · rcases Int.lt_or_le part.to j with q | q
      · have := (edge_loop hf hn (by omega) hm hp).2 ⟨h1, h2⟩ (by omega)
        have h3 := loop_sound hf hn hp
        rw [← this, Int.toNat_natCast] at h3
        exact absurd h3.2.2.2.1 h16
      · exact q
    · simp only; omega
  · obtain ⟨s3, ⟨s4, s5, s6⟩, _⟩ := outL_some.1 d1
    have := (edge_loop hf hn (by omega) hm s3).1 ⟨s5, s6⟩ (hno s s3 s4)
    exact d2 this.symm
end
end Go.Proofs.Ytffciebjpiljgaa
namespace Go.Proofs.Ytffciebjpiljgaa
set_option linter.unusedSimpArgs false
set_option linter.unusedVariables false
set_option maxRecDepth 100000
set_option linter.unusedSimpArgs false
set_option linter.unusedVariables false
set_option maxRecDepth 100000
open Go.RowKit
structure SR (α : Type) where
  zero : α
  one : α
  add : α → α → α
  mul : α → α → α
  add_zero : ∀ a, add a zero = a
  add_comm : ∀ a b, add a b = add b a
  add_assoc : ∀ a b c, add (add a b) c = add a (add b c)
  mul_one : ∀ a, mul a one = a
  mul_zero : ∀ a, mul a zero = zero
  mul_comm : ∀ a b, mul a b = mul b a
  mul_assoc : ∀ a b c, mul (mul a b) c = mul a (mul b c)
  mul_add : ∀ a b c, mul a (add b c) = add (mul a b) (mul a c)
structure GW (α : Type) where
  thr : α
  fin : α
namespace SR
section
variable {α : Type} (R : SR α)
theorem zero_add (a : α) : R.add R.zero a = a := by rw [R.add_comm, R.add_zero]
theorem zero_mul (a : α) : R.mul R.zero a = R.zero := by rw [R.mul_comm, R.mul_zero]
theorem one_mul (a : α) : R.mul R.one a = a := by rw [R.mul_comm, R.mul_one]
theorem add_mul (a b c : α) : R.mul (R.add a b) c = R.add (R.mul a c) (R.mul b c) := by rw [R.mul_comm, R.mul_add, R.mul_comm c a, R.mul_comm c b]
theorem add_left (a b c : α) : R.add a (R.add b c) = R.add b (R.add a c) := by rw [← R.add_assoc, R.add_comm a b, R.add_assoc]
def pow (x : α) : Nat → α
  | 0 => R.one
  | n + 1 => R.mul x (pow x n)
/-- What comes of so many rounds more, and of what is behind them. -/
def rds (one on : GW α) : Nat → α
  | 0 => on.fin
  | r + 1 => R.add one.fin (R.mul one.thr (rds one on r))
def close (v one on : GW α) (r : Nat) : GW α := ⟨R.mul v.thr (R.mul (R.pow one.thr r) on.thr), R.add v.fin (R.mul v.thr (R.rds one on r))⟩
def scale (a : α) (v : GW α) : GW α := ⟨R.mul a v.thr, R.mul a v.fin⟩
def plus (v u : GW α) : GW α := ⟨R.add v.thr u.thr, R.add v.fin u.fin⟩
def nil : GW α := ⟨R.zero, R.zero⟩
theorem close_scale (a : α) (v one on : GW α) (r : Nat) : R.close (R.scale a v) one on r = R.scale a (R.close v one on r) := by
  simp only [close, scale, R.mul_assoc, R.mul_add]
theorem close_plus (v u one on : GW α) (r : Nat) : R.close (R.plus v u) one on r = R.plus (R.close v one on r) (R.close u one on r) := by
  simp only [close, plus, R.add_mul, R.add_assoc, R.add_left]
theorem close_nil (one on : GW α) (r : Nat) : R.close R.nil one on r = R.nil := by
  simp only [close, nil, R.zero_mul, R.add_zero]
theorem close_back (w : α) (one on : GW α) (r : Nat) : R.close ⟨w, R.zero⟩ one on (r + 1) = R.scale w (R.close one one on r) := by
  simp only [close, scale, pow, rds, R.zero_add, R.mul_assoc]
theorem close_last (w : α) (one on : GW α) : R.close ⟨w, R.zero⟩ one on 0 = R.scale w on := by
  simp only [close, scale, pow, rds, R.zero_add, R.one_mul]
theorem close_done (w : α) (one on : GW α) (r : Nat) : R.close ⟨R.zero, w⟩ one on r = ⟨R.zero, w⟩ := by
  simp only [close, R.zero_mul, R.add_zero]
/-- Out of loops, the innermost one first, within a part. -/
def up (V : Span → Nat → GW α) (c : Span → Nat) (W : Span) : List Span → GW α → GW α
  | [], v => v
  | l :: ls, v => up V c W ls (R.close v (V l l.frm.toNat) (V (ls.headD W) (l.to + 1).toNat) (c l))
theorem headD_app {β : Type} (a b : List β) (d : β) : (a ++ b).headD d = a.headD (b.headD d) := by cases a <;> rfl
theorem up_app (V : Span → Nat → GW α) (c : Span → Nat) (W : Span) : ∀ (a b : List Span) (v : GW α), R.up V c W (a ++ b) v = R.up V c W b (R.up V c (b.headD W) a v)
  | [], b, v => rfl
  | l :: a, b, v => by rw [List.cons_append, up, up, headD_app]; exact up_app V c W a b _
theorem up_scale (V : Span → Nat → GW α) (c : Span → Nat) (W : Span) (a : α) : ∀ (l : List Span) (v : GW α), R.up V c W l (R.scale a v) = R.scale a (R.up V c W l v)
  | [], v => rfl
  | s :: l, v => by rw [up, up, close_scale]; exact up_scale V c W a l _
theorem up_plus (V : Span → Nat → GW α) (c : Span → Nat) (W : Span) : ∀ (l : List Span) (v u : GW α), R.up V c W l (R.plus v u) = R.plus (R.up V c W l v) (R.up V c W l u)
  | [], v, u => rfl
  | s :: l, v, u => by rw [up, up, up, close_plus]; exact up_plus V c W l _ _
theorem up_nil (V : Span → Nat → GW α) (c : Span → Nat) (W : Span) : ∀ (l : List Span), R.up V c W l R.nil = R.nil
  | [] => rfl
  | s :: l => by rw [up, close_nil]; exact up_nil V c W l
theorem up_done (V : Span → Nat → GW α) (c : Span → Nat) (W : Span) (w : α) : ∀ (l : List Span), R.up V c W l ⟨R.zero, w⟩ = ⟨R.zero, w⟩
  | [] => rfl
  | s :: l => by rw [up, close_done]; exact up_done V c W w l
theorem up_congr (V : Span → Nat → GW α) {c c' : Span → Nat} (W : Span) : ∀ (l : List Span) (v : GW α), (∀ s ∈ l, c s = c' s) → R.up V c W l v = R.up V c' W l v
  | [], v, _ => rfl
  | s :: l, v, h => by rw [up, up, h s List.mem_cons_self]; exact up_congr V W l _ fun x hx => h x (List.mem_cons_of_mem _ hx)
end
end SR
/-! Loops that hold a place. -/
theorem span_eq : ∀ {a b : List Span}, a.Pairwise (fun x y => x.to < y.to) → b.Pairwise (fun x y => x.to < y.to) → (∀ x, x ∈ a ↔ x ∈ b) → a = b
  | [], [], _, _, _ => rfl
  | [], y :: b, _, _, h => absurd ((h y).2 List.mem_cons_self) (by simp)
  | x :: a, [], _, _, h => absurd ((h x).1 List.mem_cons_self) (by simp)
  | x :: a, y :: b, ha, hb, h => by
    rw [List.pairwise_cons] at ha hb
    have e : x = y := by
      rcases List.mem_cons.1 ((h x).1 List.mem_cons_self) with h1 | h1
      · exact h1
      · rcases List.mem_cons.1 ((h y).2 List.mem_cons_self) with h2 | h2
        · exact h2.symm
        · have := hb.1 x h1; have := ha.1 y h2; omega
    subst e
    congr 1
    refine span_eq ha.2 hb.2 fun z => ⟨fun hz => ?_, fun hz => ?_⟩
    · rcases List.mem_cons.1 ((h z).1 (List.mem_cons_of_mem _ hz)) with h1 | h1
      · subst h1; have := ha.1 z hz; omega
      · exact h1
    · rcases List.mem_cons.1 ((h z).2 (List.mem_cons_of_mem _ hz)) with h1 | h1
      · subst h1; have := hb.1 z hz; omega
      · exact h1
/-- The loops within a part that hold a place, the innermost one first. -/
def seg (p : List Instr) (P : Span) (j : Nat) : List Span := (loopsL p).filter fun s => inQ P s && hasB s j
/-- The loops that hold a part, itself among them. -/
def abv (p : List Instr) (P : Span) : List Span := (loopsL p).filter fun s => decide (s.frm ≤ P.frm ∧ P.to ≤ s.to)
def wholeS (p : List Instr) : Span := ⟨0, (p.length : Int) - 1⟩
def chain (p : List Instr) (j : Nat) : List Span := seg p (wholeS p) j
section
variable {p : List Instr}
theorem mem_seg {P s : Span} {j : Nat} : s ∈ seg p P j ↔ s ∈ loopsL p ∧ inQ P s = true ∧ s.frm ≤ j ∧ (j : Int) ≤ s.to := by
  rw [seg, List.mem_filter, Bool.and_eq_true, hasB, decide_eq_true_eq]
theorem mem_abv {P s : Span} : s ∈ abv p P ↔ s ∈ loopsL p ∧ s.frm ≤ P.frm ∧ P.to ≤ s.to := by
  rw [abv, List.mem_filter, decide_eq_true_eq]
theorem mem_chain (hf : FineP p) (hn : ∀ i, 0 ≤ (p.getD i default).n) {s : Span} {j : Nat} : s ∈ chain p j ↔ s ∈ loopsL p ∧ s.frm ≤ j ∧ (j : Int) ≤ s.to := by
  rw [chain, mem_seg]
  refine ⟨fun h => ⟨h.1, h.2.2⟩, fun h => ⟨h.1, ?_, h.2⟩⟩
  have := loop_sound hf hn h.1
  rw [inQ, decide_eq_true_eq, wholeS]
  refine ⟨fun e => ?_, by simp only; omega, by simp only; omega⟩
  rw [e] at this; simp only at this; omega
theorem seg_none {P : Span} {j : Nat} (h : outL (loopsL p) j P = none) : seg p P j = [] := by
  rw [List.eq_nil_iff_forall_not_mem]
  intro s hs
  obtain ⟨h1, h2, h3⟩ := mem_seg.1 hs
  exact outL_none.1 h s h1 h2 h3
theorem seg_some (hf : FineP p) {P s : Span} {j : Nat} (h : outL (loopsL p) j P = some s) : seg p P j = seg p s j ++ [s] := by
  obtain ⟨s1, ⟨s2, s3, s4⟩, s5⟩ := outL_some.1 h
  have hin := loops_inc (p := p)
  refine span_eq (hin.filter _) (List.pairwise_append.2 ⟨hin.filter _, List.pairwise_singleton _ _, fun x hx y hy => ?_⟩) fun x => ?_
  · obtain ⟨x1, x2, x3⟩ := mem_seg.1 hx
    rw [List.mem_singleton] at hy
    subst hy
    rw [inQ, decide_eq_true_eq] at x2
    rcases Int.lt_or_eq_of_le x2.2.2 with q | q
    · exact q
    · exact absurd (loop_same x1 s1 q) x2.1
  · rw [List.mem_append, List.mem_singleton, mem_seg, mem_seg]
    rw [inQ, decide_eq_true_eq] at s2
    constructor
    · rintro ⟨x1, x2, x3, x4⟩
      by_cases e : x = s
      · exact .inr e
      refine .inl ⟨x1, ?_, x3, x4⟩
      have x5 := s5 x x1 x2 x3 x4
      rw [inQ, decide_eq_true_eq]
      have x6 : x.to < s.to := by
        rcases Int.lt_or_eq_of_le x5 with q | q
        · exact q
        · exact absurd (loop_same x1 s1 q) e
      have x7 := loop_nest hf x1 s1 x6
      exact ⟨e, by omega, x5⟩
    · rintro (⟨x1, x2, x3, x4⟩ | rfl)
      · rw [inQ, decide_eq_true_eq] at x2
        refine ⟨x1, ?_, x3, x4⟩
        rw [inQ, decide_eq_true_eq]
        refine ⟨fun e => ?_, by omega, by omega⟩
        subst e
        exact x2.1 (Span.ext_ ⟨by omega, by omega⟩)
      · exact ⟨s1, by rw [inQ, decide_eq_true_eq]; exact s2, s3, s4⟩
/-- The chain of a place in a part. -/
theorem chain_part (hf : FineP p) (hn : ∀ i, 0 ≤ (p.getD i default).n) {P : Span} (hP : isPart p P) {j : Nat} (h1 : P.frm ≤ j) (h2 : (j : Int) ≤ P.to) : chain p j = seg p P j ++ abv p P := by
  have hin := loops_inc (p := p)
  have hs := part_sound hf hn hP
  refine span_eq (hin.filter _) (List.pairwise_append.2 ⟨hin.filter _, hin.filter _, fun x hx y hy => ?_⟩) fun x => ?_
  · obtain ⟨x1, x2, x3⟩ := mem_seg.1 hx
    obtain ⟨y1, y2, y3⟩ := mem_abv.1 hy
    have := in_part hf hn hP x1 x2
    omega
  · rw [List.mem_append, mem_chain hf hn, mem_seg, mem_abv]
    constructor
    · rintro ⟨x1, x3, x4⟩
      have xs := loop_sound hf hn x1
      rcases hP with hP | rfl
      · rcases Int.lt_or_le x.to P.to with q | q
        · have := loop_nest hf x1 hP q
          refine .inl ⟨x1, ?_, x3, x4⟩
          rw [inQ, decide_eq_true_eq]
          exact ⟨fun e => by subst e; omega, by omega, by omega⟩
        · rcases Int.lt_or_eq_of_le q with q | q
          · have := loop_nest hf hP x1 q
            exact .inr ⟨x1, by omega, by omega⟩
          · obtain rfl := loop_same hP x1 q
            exact .inr ⟨x1, by omega, by omega⟩
      · refine .inl ⟨x1, ?_, x3, x4⟩
        rw [inQ, decide_eq_true_eq]
        refine ⟨fun e => ?_, by simp only; omega, by simp only; omega⟩
        rw [e] at xs; simp only at xs; omega
    · rintro (⟨x1, x2, x3, x4⟩ | ⟨x1, x2, x3⟩)
      · exact ⟨x1, x3, x4⟩
      · exact ⟨x1, by omega, by omega⟩
theorem abv_head (hf : FineP p) (hn : ∀ i, 0 ≤ (p.getD i default).n) {P : Span} (hP : isPart p P) : (abv p P).headD (wholeS p) = P := by
  have hin := (loops_inc (p := p)).filter (fun s => decide (s.frm ≤ P.frm ∧ P.to ≤ s.to))
  have hmem : ∀ x, x ∈ abv p P ↔ x ∈ loopsL p ∧ x.frm ≤ P.frm ∧ P.to ≤ x.to := fun x => mem_abv
  rw [← abv] at hin
  cases e : abv p P with
  | nil =>
    rcases hP with hP | rfl
    · have := (hmem P).2 ⟨hP, Int.le_refl _, Int.le_refl _⟩
      rw [e] at this; simp at this
    · rfl
  | cons x l =>
    rw [e] at hin hmem
    obtain ⟨x1, x2, x3⟩ := (hmem x).1 List.mem_cons_self
    rcases hP with hP | rfl
    · rcases List.mem_cons.1 ((hmem P).2 ⟨hP, Int.le_refl _, Int.le_refl _⟩) with q | q
      · exact q.symm
      · have := (List.pairwise_cons.1 hin).1 P q; omega
    · have := loop_sound hf hn x1
      simp only at x3; omega
end
/-! What is left to go. -/
def turnsC (p : List Instr) (s : Span) : Nat := (p.getD s.to.toNat default).c.toNat
section
variable {p : List Instr} {α : Type} (R : SR α)
def sumG (f : Nat → GW α) (l : List Int) : GW α := l.foldr (fun x o => R.plus (f x.toNat) o) R.nil
def sumF (f : Nat → α) (l : List Int) : α := l.foldr (fun x o => R.add (f x.toNat) o) R.zero
def nodeG (p : List Instr) (wt : Nat → α) (f : Nat → GW α) (pc : Nat) : GW α :=
  if (p.getD pc default).op = 21 then ⟨R.zero, wt pc⟩ else if (p.getD pc default).op = 16 then ⟨wt pc, R.zero⟩ else R.scale (wt pc) (sumG R f (nextL p pc))
structure IsV (p : List Instr) (wt : Nat → α) (V : Span → Nat → GW α) : Prop where
  node : ∀ P (pc : Nat), isPart p P → P.frm ≤ pc → (pc : Int) ≤ P.to → outL (loopsL p) pc P = none → V P pc = nodeG R p wt (V P) pc
  loop : ∀ P (pc : Nat) s, isPart p P → P.frm ≤ pc → (pc : Int) ≤ P.to → outL (loopsL p) pc P = some s → s.frm = pc → V P pc = R.close (V s pc) (V s pc) (V P (s.to + 1).toNat) (turnsC p s)
def phi (p : List Instr) (V : Span → Nat → GW α) (c : Span → Nat) (j : Nat) : α := (R.up V c (wholeS p) (chain p j) (V ((chain p j).headD (wholeS p)) j)).fin
variable {wt : Nat → α} {V : Span → Nat → GW α} {c : Span → Nat}
theorem enter (hf : FineP p) (hV : IsV R p wt V) {j : Nat} : ∀ (n : Nat) (P : Span), (seg p P j).length = n → isPart p P → P.frm ≤ j → (j : Int) ≤ P.to → (∀ s ∈ seg p P j, s.frm = j ∧ c s = turnsC p s) →
    R.up V c P (seg p P j) (V ((seg p P j).headD P) j) = V P j
  | n, P, hl, hP, h1, h2, h => by
    cases ho : outL (loopsL p) j P with
    | none => rw [seg_none ho]; rfl
    | some s =>
      have e := seg_some hf ho
      obtain ⟨s1, ⟨s2, s3, s4⟩, s5⟩ := outL_some.1 ho
      have hs := h s (by rw [e]; simp)
      cases n with
      | zero => rw [e] at hl; simp at hl
      | succ n =>
      have ih := enter hf hV n s (by rw [e] at hl; simpa using hl) (.inl s1) s3 s4 (fun x hx => h x (by rw [e]; simp [hx]))
      rw [hV.loop P j s hP h1 h2 ho hs.1, e, SR.up_app, SR.headD_app]
      simp only [List.headD_cons]
      rw [ih, SR.up, SR.up, hs.2, hs.1, Int.toNat_natCast]
      rfl
theorem phi_part (hf : FineP p) (hn : ∀ i, 0 ≤ (p.getD i default).n) (hV : IsV R p wt V) {P : Span} (hP : isPart p P) {j : Nat} (h1 : P.frm ≤ j) (h2 : (j : Int) ≤ P.to) (h : ∀ s ∈ seg p P j, s.frm = j ∧ c s = turnsC p s) :
    phi R p V c j = (R.up V c (wholeS p) (abv p P) (V P j)).fin := by
  rw [phi, chain_part hf hn hP h1 h2, SR.up_app, SR.headD_app, abv_head hf hn hP, enter R hf hV _ P rfl hP h1 h2 h]
/-- The innermost part that has a place. -/
theorem inm_ex (hf : FineP p) (hn : ∀ i, 0 ≤ (p.getD i default).n) {j : Nat} (hj : j < p.length) : ∃ P, isPart p P ∧ P.frm ≤ j ∧ (j : Int) ≤ P.to ∧ seg p P j = [] := by
  have hin := (loops_inc (p := p)).filter (fun s => inQ (wholeS p) s && hasB s j)
  have hm : ∀ s, s ∈ chain p j ↔ s ∈ loopsL p ∧ s.frm ≤ j ∧ (j : Int) ≤ s.to := fun s => mem_chain hf hn
  rw [← seg, ← chain] at hin
  cases e : chain p j with
  | nil => exact ⟨wholeS p, .inr rfl, by simp only [wholeS]; omega, by simp only [wholeS]; omega, e⟩
  | cons P l =>
    rw [e] at hin hm
    obtain ⟨a, b, d⟩ := (hm P).1 List.mem_cons_self
    refine ⟨P, .inl a, b, d, ?_⟩
    rw [List.eq_nil_iff_forall_not_mem]
    intro s hs
    obtain ⟨s1, s2, s3⟩ := mem_seg.1 hs
    have h3 := in_part hf hn (.inl a) s1 s2
    rcases List.mem_cons.1 ((hm s).2 ⟨s1, s3⟩) with q | q
    · subst q; omega
    · have := (List.pairwise_cons.1 hin).1 s q; omega
theorem out_none {P : Span} {j : Nat} (h : seg p P j = []) : outL (loopsL p) j P = none := by
  refine outL_none.2 fun s h1 h2 h3 => ?_
  have : s ∈ seg p P j := mem_seg.2 ⟨h1, h2, h3⟩
  rw [h] at this; simp at this
theorem phi_here (hf : FineP p) (hn : ∀ i, 0 ≤ (p.getD i default).n) (hV : IsV R p wt V) {P : Span} (hP : isPart p P) {j : Nat} (h1 : P.frm ≤ j) (h2 : (j : Int) ≤ P.to) (h : seg p P j = []) :
    phi R p V c j = (R.up V c (wholeS p) (abv p P) (nodeG R p wt (V P) j)).fin := by
  rw [phi_part R hf hn hV hP h1 h2 (by rw [h]; simp), hV.node P j hP h1 h2 (out_none h)]
theorem phi_done (hf : FineP p) (hn : ∀ i, 0 ≤ (p.getD i default).n) (hV : IsV R p wt V) {j : Nat} (hj : j < p.length) (h21 : (p.getD j default).op = 21) : phi R p V c j = wt j := by
  obtain ⟨P, hP, h1, h2, h⟩ := inm_ex hf hn hj
  rw [phi_here R hf hn hV hP h1 h2 h, nodeG, if_pos h21, SR.up_done]
theorem up_sum (W : Span) (a : List Span) (f : Nat → GW α) : ∀ (l : List Int), (R.up V c W a (sumG R f l)).fin = sumF R (fun x => (R.up V c W a (f x)).fin) l
  | [] => by rw [sumG, sumF, List.foldr_nil, List.foldr_nil, SR.up_nil]; rfl
  | x :: l => by
    have ih := up_sum W a f l
    rw [sumG, sumF] at ih
    rw [sumG, sumF, List.foldr_cons, List.foldr_cons, SR.up_plus, SR.plus]
    simp only
    rw [ih]
theorem sumF_congr {f g : Nat → α} : ∀ (l : List Int), (∀ x ∈ l, f x.toNat = g x.toNat) → sumF R f l = sumF R g l
  | [], _ => rfl
  | x :: l, h => by
    have ih := sumF_congr l (fun y hy => h y (List.mem_cons_of_mem _ hy))
    rw [sumF, sumF] at ih
    rw [sumF, sumF, List.foldr_cons, List.foldr_cons, ih, h x List.mem_cons_self]
/-- A place that is no loop's end. -/
theorem phi_node (hf : FineP p) (hn : ∀ i, 0 ≤ (p.getD i default).n) (hV : IsV R p wt V) {j : Nat} (hj : j < p.length) (h21 : (p.getD j default).op ≠ 21) (h16 : (p.getD j default).op ≠ 16)
    (hc : ∀ s ∈ loopsL p, ¬ (s.frm ≤ j ∧ (j : Int) ≤ s.to) → c s = turnsC p s) : phi R p V c j = R.mul (wt j) (sumF R (phi R p V c) (nextL p j)) := by
  obtain ⟨P, hP, h1, h2, h⟩ := inm_ex hf hn hj
  rw [phi_here R hf hn hV hP h1 h2 h, nodeG, if_neg h21, if_neg h16, SR.up_scale, SR.scale]
  simp only
  rw [up_sum]
  congr 1
  refine sumF_congr R _ fun x hx => ?_
  obtain ⟨k, rfl, q1, q2, q3⟩ := next_up hf hn hj h16 hx
  rw [Int.toNat_natCast]
  obtain ⟨q4, q5⟩ := next_in hf hn hP h1 h2 (out_none h) h16 q1 q2 q3
  refine (phi_part R hf hn hV hP (by omega) q4 fun s hs => ?_).symm
  obtain ⟨s1, s2, s3⟩ := mem_seg.1 hs
  have hno : ¬ (s.frm ≤ j ∧ (j : Int) ≤ s.to) := fun hh => by
    have : s ∈ seg p P j := mem_seg.2 ⟨s1, s2, hh⟩
    rw [h] at this; simp at this
  exact ⟨((edge_loop hf hn hj q3 s1).1 s3 hno).symm, hc s s1 hno⟩
end
section
variable {p : List Instr} {α : Type} (R : SR α) {wt : Nat → α} {V : Span → Nat → GW α} {c c' : Span → Nat}
/-- A loop's chain, and its parent. -/
theorem abv_cons (hf : FineP p) (hn : ∀ i, 0 ≤ (p.getD i default).n) {P : Span} (hP : P ∈ loopsL p) : ∃ Q, isPart p Q ∧ Q.frm ≤ P.frm ∧ P.to < Q.to ∧ abv p P = P :: abv p Q ∧ P ∉ abv p Q := by
  have hin := (loops_inc (p := p)).filter (fun s => decide (s.frm ≤ P.frm ∧ P.to ≤ s.to))
  have hm : ∀ x, x ∈ abv p P ↔ x ∈ loopsL p ∧ x.frm ≤ P.frm ∧ P.to ≤ x.to := fun x => mem_abv
  have hh := abv_head hf hn (.inl hP)
  have hPs := loop_sound hf hn hP
  rw [← abv] at hin
  cases e : abv p P with
  | nil =>
    have := (hm P).2 ⟨hP, Int.le_refl _, Int.le_refl _⟩
    rw [e] at this; simp at this
  | cons x l =>
    rw [e] at hh hin hm
    obtain rfl : x = P := hh
    rw [List.pairwise_cons] at hin
    have key : ∀ Q, isPart p Q → Q.frm ≤ x.frm → x.to < Q.to → (∀ y ∈ l, y.frm ≤ Q.frm ∧ Q.to ≤ y.to) → l = abv p Q := fun Q hQ q1 q2 q3 => by
      refine span_eq hin.2 ((loops_inc (p := p)).filter _) fun y => ?_
      rw [mem_abv]
      refine ⟨fun hy => ⟨((hm y).1 (List.mem_cons_of_mem _ hy)).1, q3 y hy⟩, fun ⟨y1, y2, y3⟩ => ?_⟩
      rcases List.mem_cons.1 ((hm y).2 ⟨y1, by omega, by omega⟩) with q | q
      · subst q; omega
      · exact q
    have done : ∀ Q, isPart p Q → Q.frm ≤ x.frm → x.to < Q.to → l = abv p Q → ∃ Q, isPart p Q ∧ Q.frm ≤ x.frm ∧ x.to < Q.to ∧ x :: l = x :: abv p Q ∧ x ∉ abv p Q := fun Q hQ q1 q2 q3 =>
      ⟨Q, hQ, q1, q2, by rw [q3], fun hx => by have := (mem_abv.1 hx).2.2; omega⟩
    cases l with
    | nil =>
      have h2 : x.to < (wholeS p).to := by simp only [wholeS]; omega
      refine done (wholeS p) (.inr rfl) (by simp only [wholeS]; omega) h2 (key _ (.inr rfl) (by simp only [wholeS]; omega) h2 (by simp))
    | cons y l =>
      obtain ⟨y1, y2, y3⟩ := (hm y).1 (by simp)
      have h2 : x.to < y.to := hin.1 y (by simp)
      refine done y (.inl y1) y2 h2 (key y (.inl y1) y2 h2 fun z hz => ?_)
      rcases List.mem_cons.1 hz with rfl | hz
      · exact ⟨Int.le_refl _, Int.le_refl _⟩
      · have h3 := (List.pairwise_cons.1 hin.2).1 z hz
        obtain ⟨z1, z2, z3⟩ := (hm z).1 (by simp [hz])
        have := loop_nest hf y1 z1 h3
        omega
theorem back_loop {j : Nat} (hj : j < p.length) (h16 : (p.getD j default).op = 16) : (⟨(p.getD j default).n, j⟩ : Span) ∈ loopsL p := by
  rw [loopsL, loopsTo, List.mem_map]
  exact ⟨j, List.mem_filter.2 ⟨List.mem_range.2 hj, by simpa using h16⟩, rfl⟩
theorem phi_end (hf : FineP p) (hn : ∀ i, 0 ≤ (p.getD i default).n) (hV : IsV R p wt V) {j : Nat} {P : Span} (hP : P ∈ loopsL p) (hj : (j : Int) = P.to) : phi R p V c j = (R.up V c (wholeS p) (abv p P) ⟨wt j, R.zero⟩).fin := by
  have hs := loop_sound hf hn hP
  rw [phi_here R hf hn hV (.inl hP) (by omega) (by omega) (seg_none (outL_none.2 fun s s1 s2 s3 => ?_)), nodeG]
  · rw [← hj, Int.toNat_natCast] at hs
    rw [if_neg (by omega), if_pos (by omega)]
  · have := in_part hf hn (.inl hP) s1 s2; omega
/-- A loop's end, with a round more. -/
theorem phi_again (hf : FineP p) (hn : ∀ i, 0 ≤ (p.getD i default).n) (hV : IsV R p wt V) {j : Nat} {P : Span} (hP : P ∈ loopsL p) (hj : (j : Int) = P.to) {r : Nat} (hr : c P = r + 1) (hr' : c' P = r)
    (hc : ∀ s ∈ loopsL p, ¬ (s.frm ≤ j ∧ (j : Int) ≤ s.to) → c s = turnsC p s) (hcc : ∀ s ∈ loopsL p, s ≠ P → c' s = c s) : phi R p V c j = R.mul (wt j) (phi R p V c' P.frm.toNat) := by
  have hs := loop_sound hf hn hP
  obtain ⟨Q, hQ, q1, q2, q3, q4⟩ := abv_cons hf hn hP
  have e : ((P.frm.toNat : Nat) : Int) = P.frm := by omega
  rw [phi_end R hf hn hV hP hj, phi_part R hf hn hV (.inl hP) (j := P.frm.toNat) (by omega) (by omega) (fun s h => ?_), q3, SR.up, SR.up, abv_head hf hn hQ, hr, hr', SR.close_back, SR.up_scale, SR.scale]
  · simp only
    rw [SR.up_congr R V (wholeS p) (abv p Q) _ fun s h => (hcc s (mem_abv.1 h).1 fun e => q4 (e ▸ h)).symm]
  · obtain ⟨s1, s2, s3, s4⟩ := mem_seg.1 h
    have h5 := in_part hf hn (.inl hP) s1 s2
    refine ⟨by omega, ?_⟩
    rw [hcc s s1 (fun e => by subst e; omega)]
    exact hc s s1 (by omega)
/-- A loop's end, for the last time. -/
theorem phi_out (hf : FineP p) (hn : ∀ i, 0 ≤ (p.getD i default).n) (hV : IsV R p wt V) {j : Nat} {P : Span} (hP : P ∈ loopsL p) (hj : (j : Int) = P.to) (hr : c P = 0) (hr' : c' P = turnsC p P)
    (hc : ∀ s ∈ loopsL p, ¬ (s.frm ≤ j ∧ (j : Int) ≤ s.to) → c s = turnsC p s) (hcc : ∀ s ∈ loopsL p, s ≠ P → c' s = c s) : phi R p V c j = R.mul (wt j) (phi R p V c' (j + 1)) := by
  have hs := loop_sound hf hn hP
  obtain ⟨Q, hQ, q1, q2, q3, q4⟩ := abv_cons hf hn hP
  rw [phi_end R hf hn hV hP hj, phi_part R hf hn hV hQ (j := j + 1) (by omega) (by omega) (fun s h => ?_), q3, SR.up, abv_head hf hn hQ, hr, SR.close_last, SR.up_scale, SR.scale, show (P.to + 1).toNat = j + 1 by omega]
  · simp only
    rw [SR.up_congr R V (wholeS p) (abv p Q) _ fun s h => (hcc s (mem_abv.1 h).1 fun e => q4 (e ▸ h)).symm]
  · obtain ⟨s1, s2, s3, s4⟩ := mem_seg.1 h
    have h5 := in_part hf hn hQ s1 s2
    have h6 : ¬ s.frm ≤ j := fun h6 => by
      have h7 : P.to < s.to := by omega
      have h8 := loop_nest hf hP s1 h7
      have h9 : s ∈ abv p P := mem_abv.2 ⟨s1, by omega, by omega⟩
      rw [q3] at h9
      rcases List.mem_cons.1 h9 with rfl | h9
      · omega
      · have := (mem_abv.1 h9).2.2; omega
    refine ⟨by omega, ?_⟩
    rw [hcc s s1 (fun e => by subst e; omega)]
    exact hc s s1 (by omega)
/-- At the beginning all of it is left. -/
theorem phi_start (hf : FineP p) (hn : ∀ i, 0 ≤ (p.getD i default).n) (hV : IsV R p wt V) : phi R p V (turnsC p) 0 = (V (wholeS p) 0).fin := by
  have hpos := hf.pos
  have h0 : abv p (wholeS p) = [] := by
    rw [List.eq_nil_iff_forall_not_mem]
    intro s hs
    obtain ⟨s1, s2, s3⟩ := mem_abv.1 hs
    have := loop_sound hf hn s1
    simp only [wholeS] at s3; omega
  rw [phi_part R hf hn hV (P := wholeS p) (.inr rfl) (by simp [wholeS]) (by simp only [wholeS]; omega) (fun s h => ?_), h0, SR.up]
  obtain ⟨s1, s2, s3, s4⟩ := mem_seg.1 h
  have := loop_sound hf hn s1
  exact ⟨by omega, rfl⟩
end
/-! The value of a part from a place on. -/
section
variable {p : List Instr} {α : Type} (R : SR α) (wt : Nat → α)
def vG (p : List Instr) : Nat → Span → Nat → GW α
  | 0, _, _ => R.nil
  | n + 1, P, pc => match outL (loopsL p) pc P with
    | none => nodeG R p wt (vG p n P) pc
    | some s => if s.frm = pc then R.close (vG p n s pc) (vG p n s pc) (vG p n P (s.to + 1).toNat) (turnsC p s) else R.nil
def mG (p : List Instr) (P : Span) (pc : Nat) : Nat := (p.length - pc) * (p.length + 2) + sizeS P
theorem sumG_congr {f g : Nat → GW α} : ∀ (l : List Int), (∀ x ∈ l, f x.toNat = g x.toNat) → sumG R f l = sumG R g l
  | [], _ => rfl
  | x :: l, h => by
    have ih := sumG_congr l (fun y hy => h y (List.mem_cons_of_mem _ hy))
    rw [sumG, sumG] at ih
    rw [sumG, sumG, List.foldr_cons, List.foldr_cons, ih, h x List.mem_cons_self]
theorem mG_next {P : Span} {i j : Nat} (h : i < j) (hj : j ≤ p.length) : mG p P j + 2 ≤ mG p P i := by
  have := Nat.mul_le_mul_right (p.length + 2) (show p.length - j + 1 ≤ p.length - i by omega)
  rw [Nat.add_mul] at this
  unfold mG; omega
theorem mG_in {P s : Span} {pc : Nat} (hf : FineP p) (hn : ∀ i, 0 ≤ (p.getD i default).n) (hP : isPart p P) (hs : s ∈ loopsL p) (hq : inQ P s = true) : mG p s pc + 1 ≤ mG p P pc := by
  have h1 := in_part hf hn hP hs hq
  have h2 := loop_sound hf hn hs
  unfold mG sizeS; omega
theorem vG_fuel (hf : FineP p) (hn : ∀ i, 0 ≤ (p.getD i default).n) : ∀ (n n' : Nat) (P : Span) (pc : Nat), isPart p P → P.frm ≤ pc → (pc : Int) ≤ P.to → mG p P pc < n → mG p P pc < n' → vG R wt p n P pc = vG R wt p n' P pc
  | 0, _, _, _, _, _, _, h, _ => by omega
  | _, 0, _, _, _, _, _, _, h => by omega
  | n + 1, n' + 1, P, pc, hP, h1, h2, h, h' => by
    have hs := part_sound hf hn hP
    rw [vG, vG]
    cases ho : outL (loopsL p) pc P with
    | none =>
      simp only
      unfold nodeG
      split
      · rfl
      · split
        · rfl
        · rename_i h21 h16
          congr 1
          refine sumG_congr R _ fun x hx => ?_
          obtain ⟨j, rfl, q1, q2, q3⟩ := next_up hf hn (by omega) h16 hx
          obtain ⟨q4, q5⟩ := next_in hf hn hP h1 h2 ho h16 q1 q2 q3
          have := mG_next (p := p) (P := P) q1 (by omega)
          rw [Int.toNat_natCast]
          exact vG_fuel hf hn n n' P j hP (by omega) q4 (by omega) (by omega)
    | some s =>
      simp only
      split
      · rename_i hsp
        obtain ⟨s1, ⟨s2, s3, s4⟩, s5⟩ := outL_some.1 ho
        have hso := loop_sound hf hn s1
        have hin := in_part hf hn hP s1 s2
        have m1 := mG_in (pc := pc) hf hn hP s1 s2
        have m2 := mG_next (p := p) (P := P) (i := pc) (j := (s.to + 1).toNat) (by omega) (by omega)
        rw [vG_fuel hf hn n n' s pc (.inl s1) s3 s4 (by omega) (by omega), vG_fuel hf hn n n' P (s.to + 1).toNat hP (by omega) (by omega) (by omega) (by omega)]
      · rfl
def fuelG (p : List Instr) : Nat := (p.length + 1) * (p.length + 2) + 2
theorem mG_lt (hf : FineP p) (hn : ∀ i, 0 ≤ (p.getD i default).n) {P : Span} (hP : isPart p P) (pc : Nat) : mG p P pc + 1 < fuelG p := by
  have hs := part_sound hf hn hP
  have := Nat.mul_le_mul_right (p.length + 2) (show p.length - pc ≤ p.length by omega)
  unfold mG fuelG
  rw [Nat.add_mul]
  have : sizeS P ≤ p.length + 1 := by unfold sizeS; omega
  omega
def VG (p : List Instr) (P : Span) (pc : Nat) : GW α := vG R wt p (fuelG p) P pc
theorem VG_eq (hf : FineP p) (hn : ∀ i, 0 ≤ (p.getD i default).n) {P : Span} (hP : isPart p P) {pc : Nat} (h1 : P.frm ≤ pc) (h2 : (pc : Int) ≤ P.to) :
    VG R wt p P pc = match outL (loopsL p) pc P with
    | none => nodeG R p wt (VG R wt p P) pc
    | some s => if s.frm = pc then R.close (VG R wt p s pc) (VG R wt p s pc) (VG R wt p P (s.to + 1).toNat) (turnsC p s) else R.nil := by
  have hm := mG_lt hf hn hP pc
  rw [VG, vG_fuel R wt hf hn (fuelG p) (fuelG p + 1) P pc hP h1 h2 (by omega) (by omega), vG]
  rfl
theorem VG_isV (hf : FineP p) (hn : ∀ i, 0 ≤ (p.getD i default).n) : IsV R p wt (VG R wt p) where
  node P pc hP h1 h2 ho := by rw [VG_eq R wt hf hn hP h1 h2, ho]
  loop P pc s hP h1 h2 ho hs := by rw [VG_eq R wt hf hn hP h1 h2, ho]; simp only; rw [if_pos hs]
end
/-! Where one is on a walk. -/
section
variable {p : List Instr} {α : Type} (R : SR α) {wt : Nat → α} {V : Span → Nat → GW α}
def cOf (p : List Instr) (T : Nat → Nat) (s : Span) : Nat := turnsC p s - T s.to.toNat
structure StI (p : List Instr) (j : Nat) (T : Nat → Nat) : Prop where
  lt : j < p.length
  le : ∀ s ∈ loopsL p, T s.to.toNat ≤ turnsC p s
  out : ∀ s ∈ loopsL p, ¬ (s.frm ≤ j ∧ (j : Int) ≤ s.to) → T s.to.toNat = 0
def setT (T : Nat → Nat) (j v : Nat) : Nat → Nat := fun i => if i = j then v else T i
theorem st_0 (hf : FineP p) : StI p 0 (fun _ => 0) := ⟨hf.pos, fun _ _ => Nat.zero_le _, fun _ _ _ => rfl⟩
theorem StI.c {j : Nat} {T : Nat → Nat} (h : StI p j T) : ∀ s ∈ loopsL p, ¬ (s.frm ≤ j ∧ (j : Int) ≤ s.to) → cOf p T s = turnsC p s := fun s h1 h2 => by rw [cOf, h.out s h1 h2]; omega
theorem cOf_other (hf : FineP p) (hn : ∀ i, 0 ≤ (p.getD i default).n) {T : Nat → Nat} {P : Span} {j v : Nat} (hP : P ∈ loopsL p) (hj : (j : Int) = P.to) : ∀ s ∈ loopsL p, s ≠ P → cOf p (setT T j v) s = cOf p T s := fun s h1 h2 => by
  have h3 := loop_sound hf hn hP
  have h4 := loop_sound hf hn h1
  have h5 : s.to ≠ P.to := fun e => h2 (loop_same h1 hP e)
  rw [cOf, cOf, setT, if_neg (by omega)]
theorem step_back (hf : FineP p) (hn : ∀ i, 0 ≤ (p.getD i default).n) (hV : IsV R p wt V) {j : Nat} {T : Nat → Nat} (h : StI p j T) (h16 : (p.getD j default).op = 16) :
    ((T j : Int) < (p.getD j default).c → StI p (p.getD j default).n.toNat (setT T j (T j + 1)) ∧ phi R p V (cOf p T) j = R.mul (wt j) (phi R p V (cOf p (setT T j (T j + 1))) (p.getD j default).n.toNat)) ∧
    (¬ (T j : Int) < (p.getD j default).c → StI p (j + 1) (setT T j 0) ∧ phi R p V (cOf p T) j = R.mul (wt j) (phi R p V (cOf p (setT T j 0)) (j + 1))) := by
  have hP := back_loop h.lt h16
  generalize hPe : (⟨(p.getD j default).n, (j : Int)⟩ : Span) = P at hP
  have hj : (j : Int) = P.to := by rw [← hPe]
  have hfr : (p.getD j default).n = P.frm := by rw [← hPe]
  have hs := loop_sound hf hn hP
  have ej : P.to.toNat = j := by omega
  have hle := h.le P hP
  rw [ej] at hle
  have hC := right_back (hf.right j h.lt) h16
  have eC : turnsC p P = (p.getD j default).c.toNat := by rw [turnsC, ej]
  have hin : ∀ v s, s ∈ loopsL p → s ≠ P → setT T j v s.to.toNat = T s.to.toNat := fun v s h1 h2 => by
    have h4 := loop_sound hf hn h1
    have h5 : s.to ≠ P.to := fun e => h2 (loop_same h1 hP e)
    rw [setT, if_neg (by omega)]
  refine ⟨fun hlt => ⟨⟨by omega, fun s s1 => ?_, fun s s1 s2 => ?_⟩, ?_⟩, fun hlt => ⟨⟨by omega, fun s s1 => ?_, fun s s1 s2 => ?_⟩, ?_⟩⟩
  · by_cases e : s = P
    · subst e; rw [setT, if_pos ej]; omega
    · rw [hin _ s s1 e]; exact h.le s s1
  · by_cases e : s = P
    · subst e; omega
    · rw [hin _ s s1 e]
      refine h.out s s1 fun hh => s2 ?_
      have h4 := loop_sound hf hn s1
      rcases Int.lt_trichotomy s.to P.to with q | q | q
      · omega
      · exact absurd (loop_same s1 hP q) e
      · have := loop_nest hf hP s1 q; omega
  · rw [hfr]
    exact phi_again R hf hn hV hP hj (r := turnsC p P - (T j + 1)) (by rw [cOf, ej]; omega) (by rw [cOf, ej, setT, if_pos rfl]) h.c (cOf_other hf hn hP hj)
  · by_cases e : s = P
    · subst e; rw [setT, if_pos ej]; omega
    · rw [hin _ s s1 e]; exact h.le s s1
  · by_cases e : s = P
    · subst e; rw [setT, if_pos ej]
    · rw [hin _ s s1 e]
      refine h.out s s1 fun hh => s2 ?_
      have h4 := loop_sound hf hn s1
      rcases Int.lt_trichotomy s.to P.to with q | q | q
      · omega
      · exact absurd (loop_same s1 hP q) e
      · omega
  · exact phi_out R hf hn hV hP hj (by rw [cOf, ej]; omega) (by rw [cOf, ej, setT, if_pos rfl]; omega) h.c (cOf_other hf hn hP hj)
end
section
variable {p : List Instr} {α : Type} (R : SR α) {wt : Nat → α} {V : Span → Nat → GW α}
theorem st_step (hf : FineP p) (hn : ∀ i, 0 ≤ (p.getD i default).n) {j k : Nat} {T : Nat → Nat} (h : StI p j T) (h16 : (p.getD j default).op ≠ 16) (hk : k < p.length) (hm : mayB p j k = true) : StI p k T := by
  refine ⟨hk, h.le, fun s s1 s2 => ?_⟩
  by_cases e : s.frm ≤ j ∧ (j : Int) ≤ s.to
  · have h3 := (edge_loop hf hn h.lt hm s1).2 e s2
    have h4 := loop_sound hf hn s1
    rw [← h3, Int.toNat_natCast] at h4
    exact absurd h4.2.2.2.1 h16
  · exact h.out s s1 e
theorem sumF_one (f : Nat → α) (x : Int) : sumF R f [x] = f x.toNat := by rw [sumF, List.foldr_cons, List.foldr_nil, R.add_zero]
theorem sumF_two (f : Nat → α) (x y : Int) : sumF R f [min x y, max x y] = R.add (f x.toNat) (f y.toNat) := by
  rw [sumF, List.foldr_cons, List.foldr_cons, List.foldr_nil, R.add_zero]
  rcases Int.le_total x y with h | h
  · rw [Int.min_eq_left h, Int.max_eq_right h]
  · rw [Int.min_eq_right h, Int.max_eq_left h, R.add_comm]
/-- A step that is no Back. -/
theorem step_on (hf : FineP p) (hn : ∀ i, 0 ≤ (p.getD i default).n) (hV : IsV R p wt V) {j : Nat} {T : Nat → Nat} (h : StI p j T) (h21 : (p.getD j default).op ≠ 21) (h16 : (p.getD j default).op ≠ 16) :
    ((p.getD j default).op = 14 ∨ (p.getD j default).op = 15 → StI p (p.getD j default).n.toNat T) ∧ ((p.getD j default).op ≠ 14 → StI p (j + 1) T) ∧
    phi R p V (cOf p T) j = R.mul (wt j) (
      if (p.getD j default).op = 14 then phi R p V (cOf p T) (p.getD j default).n.toNat
      else if (p.getD j default).op = 15 ∧ (p.getD j default).n ≠ (j : Int) + 1 then R.add (phi R p V (cOf p T) (p.getD j default).n.toNat) (phi R p V (cOf p T) (j + 1))
      else phi R p V (cOf p T) (j + 1)) := by
  have hnn := hn j
  have hl := leads_iff hf h.lt
  refine ⟨fun ho => ?_, fun ho => ?_, ?_⟩
  · have h3 := leads_to hf hn h.lt (by omega) (by omega)
    exact st_step hf hn h h16 (by omega) (decide_eq_true ⟨h21, .inl ⟨by omega, by omega, by omega⟩⟩)
  · exact st_step hf hn h h16 (inner_lt hf h.lt h21) (decide_eq_true ⟨h21, .inr ⟨ho, rfl⟩⟩)
  · rw [phi_node R hf hn hV h.lt h21 h16 h.c]
    congr 1
    unfold nextL
    rw [if_neg h21, hl]
    by_cases h14 : (p.getD j default).op = 14
    · rw [if_pos h14, if_pos h14, sumF_one, tgtI, hl, decide_eq_true (by omega)]; rfl
    · rw [if_neg h14, if_neg h14]
      by_cases h15 : (p.getD j default).op = 15
      · have e : tgtI (p.getD j default) = (p.getD j default).n := by rw [tgtI, hl, decide_eq_true (by omega)]; rfl
        rw [e]
        by_cases hq : (p.getD j default).n = (j : Int) + 1
        · rw [if_pos (.inr hq), if_neg (fun q => q.2 hq), sumF_one]; rfl
        · rw [if_neg (fun q => by rcases q with q | q; exact absurd q (by rw [decide_eq_false_iff_not]; omega); exact hq q), if_pos ⟨h15, hq⟩, sumF_two]; rfl
      · rw [if_pos (.inl (by rw [decide_eq_false_iff_not]; omega)), if_neg (fun q => h15 q.1), sumF_one]; rfl
end
end Go.Proofs.Ytffciebjpiljgaa
namespace Go.Proofs.Ytffciebjpiljgaa
set_option linter.unusedSimpArgs false
set_option linter.unusedVariables false
set_option maxRecDepth 100000
set_option linter.unusedSimpArgs false
set_option linter.unusedVariables false
set_option maxRecDepth 100000
open Go.RowKit
def bo (f : Nat → Nat → Nat) : Option Nat → Option Nat → Option Nat
  | none, b => b
  | some a, none => some a
  | some a, some b => some (f a b)
def po : Option Nat → Option Nat → Option Nat
  | none, _ => none
  | some _, none => none
  | some a, some b => some (a + b)
def maxR : SR (Option Nat) where
  zero := none
  one := some 0
  add := bo max
  mul := po
  add_zero a := by cases a <;> rfl
  add_comm a b := by cases a <;> cases b <;> simp only [bo, Option.some.injEq] <;> omega
  add_assoc a b c := by cases a <;> cases b <;> cases c <;> simp only [bo, Option.some.injEq] <;> omega
  mul_one a := by cases a <;> rfl
  mul_zero a := by cases a <;> rfl
  mul_comm a b := by cases a <;> cases b <;> simp only [po, Option.some.injEq] <;> omega
  mul_assoc a b c := by cases a <;> cases b <;> cases c <;> simp only [po, Option.some.injEq] <;> omega
  mul_add a b c := by cases a <;> cases b <;> cases c <;> simp only [po, bo, Option.some.injEq] <;> omega
def minR : SR (Option Nat) where
  zero := none
  one := some 0
  add := bo min
  mul := po
  add_zero a := by cases a <;> rfl
  add_comm a b := by cases a <;> cases b <;> simp only [bo, Option.some.injEq] <;> omega
  add_assoc a b c := by cases a <;> cases b <;> cases c <;> simp only [bo, Option.some.injEq] <;> omega
  mul_one a := by cases a <;> rfl
  mul_zero a := by cases a <;> rfl
  mul_comm a b := by cases a <;> cases b <;> simp only [po, Option.some.injEq] <;> omega
  mul_assoc a b c := by cases a <;> cases b <;> cases c <;> simp only [po, Option.some.injEq] <;> omega
  mul_add a b c := by cases a <;> cases b <;> cases c <;> simp only [po, bo, Option.some.injEq] <;> omega
def cntR : SR Nat where
  zero := 0
  one := 1
  add := (· + ·)
  mul := (· * ·)
  add_zero := Nat.add_zero
  add_comm := Nat.add_comm
  add_assoc := Nat.add_assoc
  mul_one := Nat.mul_one
  mul_zero := Nat.mul_zero
  mul_comm := Nat.mul_comm
  mul_assoc := Nat.mul_assoc
  mul_add := Nat.mul_add
/-- What of a value the program tells. -/
def kap : Option Nat → Int
  | none => -1
  | some n => min (n : Int) 1099511627776
theorem kap_none : kap none = -1 := rfl
theorem kap_some (n : Nat) : kap (some n) = min (n : Int) 1099511627776 := rfl
theorem kap_B (a : Option Nat) : okI (kap a) := by cases a <;> simp only [kap, okI] <;> omega
theorem kap_po (a b : Option Nat) : kap (po a b) = moreI (kap a) (kap b) := by
  cases a with
  | none => rw [po, kap_none, more_neg (.inl (by omega))]
  | some a =>
    cases b with
    | none => rw [po, kap_none, more_neg (.inr (by omega))]
    | some b =>
      rw [po, kap_some, kap_some, kap_some, more_pos (by omega) (by omega)]
      unfold addI insI; omega
theorem kap_max (a b : Option Nat) : kap (bo max a b) = bestI max (kap a) (kap b) := by
  cases a <;> cases b <;> simp only [bo, kap, bestI] <;> (repeat' split) <;> omega
theorem pow_some (R : SR (Option Nat)) (h1 : R.one = some 0) (hm : R.mul = po) (x : Nat) : ∀ n, R.pow (some x) n = some (n * x)
  | 0 => by rw [SR.pow, h1, Nat.zero_mul]
  | n + 1 => by rw [SR.pow, pow_some R h1 hm x n, hm, po, Nat.succ_mul, Nat.add_comm]
theorem kap_oft (x : Option Nat) (n : Nat) (h : 0 < n) (h' : n ≤ 1000000) : kap (x.map (n * ·)) = oftI n (kap x) := by
  cases x with
  | none => rfl
  | some x =>
    rw [Option.map_some, kap_some, kap_some, oftI, if_neg (by omega), mulI, insId (n := (n : Int)) (by omega) (by omega), insId (n := min (x : Int) _) (by omega) (by omega), Int.natCast_mul]
    rcases Int.lt_or_le 1099511627776 (x : Int) with q | q
    · have h1 : (1 : Int) * x ≤ n * x := Int.mul_le_mul_of_nonneg_right (by omega) (by omega)
      rw [Int.min_eq_right (a := (x : Int)) (by omega)]
      omega
    · rw [Int.min_eq_left (a := (x : Int)) (by omega)]
      omega
/-- The rounds of the dearest walk. -/
theorem rds_max (x y : Nat) (on : GW (Option Nat)) : ∀ t, maxR.rds ⟨some x, some y⟩ on (t + 1) = bo max (some (t * x + y)) (po (some ((t + 1) * x)) on.fin)
  | 0 => by
    rw [SR.rds, SR.rds]
    cases on.fin <;> simp [maxR, bo, po]
  | t + 1 => by
    rw [SR.rds, rds_max x y on t]
    have e1 : (t + 1) * x = t * x + x := Nat.succ_mul _ _
    have e2 : (t + 1 + 1) * x = t * x + x + x := by rw [Nat.succ_mul, Nat.succ_mul]
    cases on.fin with
    | none => simp only [maxR, bo, po, e1, e2]; simp only [Option.some.injEq]; omega
    | some z => simp only [maxR, bo, po, e1, e2]; simp only [Option.some.injEq]; omega
theorem rds_none (R : SR (Option Nat)) (f : Nat → Nat → Nat) (ha : R.add = bo f) (hm : R.mul = po) (x : Nat) (on : GW (Option Nat)) : ∀ t, R.rds ⟨some x, none⟩ on t = po (some (t * x)) on.fin
  | 0 => by
    rw [SR.rds]
    cases on.fin <;> simp [po]
  | t + 1 => by
    rw [SR.rds, rds_none R f ha hm x on t, ha, hm]
    have e1 : (t + 1) * x = t * x + x := Nat.succ_mul _ _
    cases on.fin with
    | none => rfl
    | some z => simp only [bo, po, e1, Option.some.injEq]; omega
def kapW (v : GW (Option Nat)) : Way := ⟨kap v.thr, kap v.fin⟩
theorem kap_best (bt : Int → Int → Int) (a : Option Nat) : bestI bt (bestI bt (kap a) (-1)) (-1) = kap a := by
  have := kap_B a
  unfold okI at this
  unfold bestI
  (repeat' split) <;> omega
theorem rnd_gen (R : SR (Option Nat)) (f : Nat → Nat → Nat) (bt : Int → Int → Int) (h1 : R.one = some 0) (ha : R.add = bo f) (hm : R.mul = po) (hk : ∀ a b, kap (bo f a b) = bestI bt (kap a) (kap b))
    (hr : ∀ x y on t, bo f (some y) (po (some x) (R.rds ⟨some x, some y⟩ on (t + 1))) = bo f (bo f (some y) (po (some ((t + 1) * x)) (some y))) (po (some ((t + 1 + 1) * x)) on.fin))
    (one on : GW (Option Nat)) (t : Nat) (ht : 1 ≤ t) (ht' : t ≤ 100000) : rndW bt (kapW one) (kapW on) t = kapW (R.close one one on t) := by
  obtain ⟨x, y⟩ := one
  rw [SR.close, kapW, kapW, kapW, rndW, hm, ha]
  simp only
  cases x with
  | none =>
    rw [show kap none = -1 from rfl, show oftI ((t : Int) + 1) (-1) = -1 from rfl, show oftI (t : Int) (-1) = -1 from rfl, more_neg (.inl (by omega)), more_neg (.inl (by omega)), more_neg (.inl (by omega)), kap_best]
    cases y <;> rfl
  | some x =>
    have e1 : ((t : Int) + 1) = ((t + 1 : Nat) : Int) := by omega
    rw [e1, ← kap_oft (some x) (t + 1) (by omega) (by omega), ← kap_oft (some x) t (by omega) (by omega), pow_some R h1 hm]
    simp only [Option.map_some]
    rw [← kap_po, ← kap_po, ← kap_po, ← hk, ← hk]
    have e2 : (t + 1) * x = t * x + x := Nat.succ_mul _ _
    congr 1
    · rw [e2]
      cases on.thr with
      | none => rfl
      | some z => simp only [po]; congr 2; omega
    · congr 1
      cases y with
      | none =>
        rw [rds_none R f ha hm, e2]
        cases on.fin with
        | none => rfl
        | some z => simp only [bo, po]; congr 1; omega
      | some y =>
        obtain ⟨u, rfl⟩ : ∃ u, t = u + 1 := ⟨t - 1, by omega⟩
        exact (hr x y on u).symm
theorem rnd_max (one on : GW (Option Nat)) (t : Nat) (ht : 1 ≤ t) (ht' : t ≤ 100000) : rndW max (kapW one) (kapW on) t = kapW (maxR.close one one on t) := by
  refine rnd_gen maxR max max rfl rfl rfl kap_max (fun x y on t => ?_) one on t ht ht'
  rw [rds_max]
  have e1 : (t + 1) * x = t * x + x := Nat.succ_mul _ _
  have e2 : (t + 1 + 1) * x = t * x + x + x := by rw [Nat.succ_mul, Nat.succ_mul]
  cases on.fin with
  | none => simp only [bo, po, e1, e2, Option.some.injEq]; omega
  | some z => simp only [bo, po, e1, e2, Option.some.injEq]; omega
/-! The program's table is that of the exact values. -/
section
variable {p : List Instr} {w : List Int} (R : SR (Option Nat)) (f : Nat → Nat → Nat) (bt : Int → Int → Int)
def wtN (w : List Int) (pc : Nat) : Option Nat := some (wAt w pc).toNat
theorem kap_wt (w : List Int) (pc : Nat) : kap (wtN w pc) = wAt w pc := by
  have := wAt_ok w pc
  rw [wtN, kap_some]; omega
theorem sumG_cons (g : Nat → GW (Option Nat)) (x : Int) (l : List Int) : sumG R g (x :: l) = R.plus (g x.toNat) (sumG R g l) := rfl
theorem edge_kap (hz : R.zero = none) (ha : R.add = bo f) (hm : R.mul = po) (hk : ∀ a b, kap (bo f a b) = bestI bt (kap a) (kap b)) (v : Option Nat) (G : List Way) (g : Nat → GW (Option Nat)) :
    ∀ (l : List Int) (o : GW (Option Nat)), (∀ x ∈ l, G.getD x.toNat default = kapW (g x.toNat)) → l.foldl (edge bt (kap v) G) (kapW o) = kapW (R.plus o (R.scale v (sumG R g l)))
  | [], o, _ => by
    rw [sumG, List.foldr_nil, List.foldl_nil, SR.scale, SR.plus, SR.nil]
    simp only [R.mul_zero, R.add_zero]
  | x :: l, o, h => by
    have e : edge bt (kap v) G (kapW o) x = kapW (R.plus o (R.scale v (g x.toNat))) := by
      rw [edge, h x List.mem_cons_self, kapW, kapW, kapW, SR.plus, SR.scale]
      simp only
      rw [← kap_po, ← kap_po, ← hk, ← hk, ha, hm]
    rw [List.foldl_cons, e, edge_kap hz ha hm hk v G g l _ (fun y hy => h y (List.mem_cons_of_mem _ hy)), sumG_cons]
    unfold SR.plus SR.scale
    simp only [R.mul_add, R.add_assoc]
theorem at_kap (hz : R.zero = none) (ha : R.add = bo f) (hm : R.mul = po) (hk : ∀ a b, kap (bo f a b) = bestI bt (kap a) (kap b))
    (hr : ∀ (one on : GW (Option Nat)) (t : Nat), 1 ≤ t → t ≤ 100000 → rndW bt (kapW one) (kapW on) t = kapW (R.close one one on t)) (hf : FineP p) (hn : ∀ i, 0 ≤ (p.getD i default).n) :
    ∀ (m : Nat) (P : Span) (pc k : Nat), mG p P pc < m → isPart p P → P.frm ≤ pc → (pc : Int) ≤ P.to → sizeS P ≤ k + 1 →
      (atTo bt p w (loopsL p) (partW bt p w (loopsL p) k) P (sizeS P)).getD pc default = kapW (VG R (wtN w) p P pc)
  | 0, _, _, _, h, _, _, _, _ => by omega
  | m + 1, P, pc, k, hlt, hP, h1, h2, hk1 => by
    have hs := part_sound hf hn hP
    have ih := at_kap hz ha hm hk hr hf hn m
    have hnil : (⟨-1, -1⟩ : Way) = kapW R.nil := by rw [SR.nil, kapW, hz]; rfl
    rw [back_eq hf hn hP h1 h2, VG_eq R (wtN w) hf hn hP h1 h2, valW]
    cases ho : outL (loopsL p) pc P with
    | none =>
      simp only
      unfold nodeW nodeG
      rw [hz]
      split
      · rw [kapW]; simp only [kap_wt]; rfl
      · split
        · rw [kapW]; simp only [kap_wt]; rfl
        · rename_i h21 h16
          rw [hnil, ← kap_wt, edge_kap R f bt hz ha hm hk (wtN w pc) _ (VG R (wtN w) p P) _ _ fun x hx => ?_, SR.plus, SR.nil]
          · simp only [SR.zero_add]
          · obtain ⟨j, rfl, q1, q2, q3⟩ := next_up hf hn (by omega) h16 hx
            obtain ⟨q4, q5⟩ := next_in hf hn hP h1 h2 ho h16 q1 q2 q3
            have := mG_next (p := p) (P := P) q1 (by omega)
            rw [Int.toNat_natCast]
            exact ih P j k (by omega) hP (by omega) q4 hk1
    | some s =>
      simp only
      split
      · rename_i hsp
        obtain ⟨s1, ⟨s2, s3, s4⟩, s5⟩ := outL_some.1 ho
        have hso := loop_sound hf hn s1
        have hin := in_part hf hn hP s1 s2
        have m1 := mG_in (pc := pc) hf hn hP s1 s2
        have m2 := mG_next (p := p) (P := P) (i := pc) (j := (s.to + 1).toNat) (by omega) (by omega)
        obtain ⟨k', rfl⟩ : ∃ k', k = k' + 1 := ⟨k - 1, by unfold sizeS at hk1; omega⟩
        have hC := right_back (hf.right s.to.toNat (by omega)) hso.2.2.2.1
        have e1 : (p.getD s.to.toNat default).c = ((turnsC p s : Nat) : Int) := by unfold turnsC; omega
        rw [partW, show s.frm.toNat = pc by omega, ih s pc k' (by omega) (.inl s1) s3 s4 (by unfold sizeS at *; omega), ih P (s.to + 1).toNat (k' + 1) (by omega) hP (by omega) (by omega) hk1, e1]
        exact hr _ _ _ (by omega) (by omega)
      · exact hnil
end
section
variable {p : List Instr} {w : List Int}
theorem cost_max (hf : fineB p = true) (hn : ∀ i, 0 ≤ (p.getD i default).n) (hw : w.length = p.length) : costF max p w = (kap (phi maxR p (VG maxR (wtN w) p) (turnsC p) 0), 0) := by
  have hfp := fine_inv hf
  have hpos := hfp.pos
  obtain ⟨k, hk⟩ : ∃ k, p.length = k + 1 := ⟨p.length - 1, by omega⟩
  have h := at_kap (w := w) maxR max max rfl rfl rfl kap_max rnd_max hfp hn _ (wholeS p) 0 k (Nat.lt_succ_self _) (.inr rfl) (by simp [wholeS]) (by simp only [wholeS]; omega) (by unfold sizeS wholeS; simp only; omega)
  rw [phi_start maxR hfp hn (VG_isV maxR (wtN w) hfp hn), costF, if_neg (by rw [fineB, decide_eq_true_eq] at hf; omega), if_neg (by omega), hk, partW]
  rw [← hk]
  rw [wholeS] at h
  simp only [Int.toNat_zero]
  rw [h]
  rfl
end
/-! The walk of any choices (the document's). -/
section
variable {p : List Instr}
/-- One step on. -/
def nxtS (p : List Instr) (j : Nat) (T : Nat → Nat) (jump : Bool) : Nat × (Nat → Nat) :=
  if (p.getD j default).op = 16 then (if (T j : Int) < (p.getD j default).c then ((p.getD j default).n.toNat, setT T j (T j + 1)) else (j + 1, setT T j 0))
  else if (p.getD j default).op = 14 ∨ ((p.getD j default).op = 15 ∧ jump = true) then ((p.getD j default).n.toNat, T) else (j + 1, T)
theorem nxt_st (hf : FineP p) (hn : ∀ i, 0 ≤ (p.getD i default).n) {j : Nat} {T : Nat → Nat} (h : StI p j T) (h21 : (p.getD j default).op ≠ 21) (b : Bool) : StI p (nxtS p j T b).1 (nxtS p j T b).2 := by
  have hV := VG_isV cntR (fun _ => 1) hf hn
  unfold nxtS
  split
  · rename_i h16
    have h1 := step_back cntR hf hn hV h h16
    split
    · rename_i hq; exact (h1.1 hq).1
    · rename_i hq; exact (h1.2 hq).1
  · rename_i h16
    have h1 := step_on cntR hf hn hV h h21 h16
    split
    · rename_i hq; exact h1.1 (by rcases hq with q | q; exact .inl q; exact .inr q.1)
    · rename_i hq; exact h1.2.1 (fun q => hq (.inl q))
/-- What is left: one's own weight and what is left behind a step, beside something else. -/
theorem phi_some {α : Type} (R : SR α) (hf : FineP p) (hn : ∀ i, 0 ≤ (p.getD i default).n) {wt : Nat → α} {j : Nat} {T : Nat → Nat} (h : StI p j T) (h21 : (p.getD j default).op ≠ 21) (b : Bool) :
    ∃ x, phi R p (VG R wt p) (cOf p T) j = R.add (R.mul (wt j) (phi R p (VG R wt p) (cOf p (nxtS p j T b).2) (nxtS p j T b).1)) x := by
  have hV := VG_isV R wt hf hn
  unfold nxtS
  split
  · rename_i h16
    have h1 := step_back R hf hn hV h h16
    split
    · rename_i hq; exact ⟨R.zero, by rw [R.add_zero]; exact (h1.1 hq).2⟩
    · rename_i hq; exact ⟨R.zero, by rw [R.add_zero]; exact (h1.2 hq).2⟩
  · rename_i h16
    have h1 := (step_on R hf hn hV h h21 h16).2.2
    rw [h1]
    by_cases h14 : (p.getD j default).op = 14
    · rw [if_pos h14, if_pos (.inl h14)]; exact ⟨R.zero, by rw [R.add_zero]⟩
    · rw [if_neg h14]
      by_cases h15 : (p.getD j default).op = 15 ∧ (p.getD j default).n ≠ (j : Int) + 1
      · rw [if_pos h15, R.mul_add]
        split
        · exact ⟨_, rfl⟩
        · exact ⟨_, R.add_comm _ _⟩
      · rw [if_neg h15]
        split
        · rename_i hq
          have e : (p.getD j default).n.toNat = j + 1 := by
            rcases hq with q | q
            · exact absurd q h14
            · have : (p.getD j default).n = (j : Int) + 1 := Classical.byContradiction fun e => h15 ⟨q.1, e⟩
              omega
          exact ⟨R.zero, by rw [R.add_zero, e]⟩
        · exact ⟨R.zero, by rw [R.add_zero]⟩
end
end Go.Proofs.Ytffciebjpiljgaa
