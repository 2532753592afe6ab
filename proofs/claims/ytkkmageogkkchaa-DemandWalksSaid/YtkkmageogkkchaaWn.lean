/- The semirings of walks: the dearest one, the cheapest one, and how many there are. No condition. -/
import Derived.Test.YtkkmageogkkchaaWk
namespace Go.Proofs.Ytkkmageogkkchaa
set_option linter.unusedSimpArgs false
set_option linter.unusedVariables false
set_option maxRecDepth 100000
set_option linter.unusedSimpArgs false
set_option linter.unusedVariables false
set_option maxRecDepth 100000
open Go.RowKit
def bo (f : Nat → Nat → Nat) : Option Nat → Option Nat → Option Nat
  | none, b => b
  | some a, none => some a
  | some a, some b => some (f a b)
def po : Option Nat → Option Nat → Option Nat
  | none, _ => none
  | some _, none => none
  | some a, some b => some (a + b)
def maxR : SR (Option Nat) where
  zero := none
  one := some 0
  add := bo max
  mul := po
  add_zero a := by cases a <;> rfl
  add_comm a b := by cases a <;> cases b <;> simp only [bo, Option.some.injEq] <;> omega
  add_assoc a b c := by cases a <;> cases b <;> cases c <;> simp only [bo, Option.some.injEq] <;> omega
  mul_one a := by cases a <;> rfl
  mul_zero a := by cases a <;> rfl
  mul_comm a b := by cases a <;> cases b <;> simp only [po, Option.some.injEq] <;> omega
  mul_assoc a b c := by cases a <;> cases b <;> cases c <;> simp only [po, Option.some.injEq] <;> omega
  mul_add a b c := by cases a <;> cases b <;> cases c <;> simp only [po, bo, Option.some.injEq] <;> omega
def minR : SR (Option Nat) where
  zero := none
  one := some 0
  add := bo min
  mul := po
  add_zero a := by cases a <;> rfl
  add_comm a b := by cases a <;> cases b <;> simp only [bo, Option.some.injEq] <;> omega
  add_assoc a b c := by cases a <;> cases b <;> cases c <;> simp only [bo, Option.some.injEq] <;> omega
  mul_one a := by cases a <;> rfl
  mul_zero a := by cases a <;> rfl
  mul_comm a b := by cases a <;> cases b <;> simp only [po, Option.some.injEq] <;> omega
  mul_assoc a b c := by cases a <;> cases b <;> cases c <;> simp only [po, Option.some.injEq] <;> omega
  mul_add a b c := by cases a <;> cases b <;> cases c <;> simp only [po, bo, Option.some.injEq] <;> omega
def cntR : SR Nat where
  zero := 0
  one := 1
  add := (· + ·)
  mul := (· * ·)
  add_zero := Nat.add_zero
  add_comm := Nat.add_comm
  add_assoc := Nat.add_assoc
  mul_one := Nat.mul_one
  mul_zero := Nat.mul_zero
  mul_comm := Nat.mul_comm
  mul_assoc := Nat.mul_assoc
  mul_add := Nat.mul_add
/-- What of a value the program tells. -/
def kap : Option Nat → Int
  | none => -1
  | some n => min (n : Int) 1099511627776
theorem kap_none : kap none = -1 := rfl
theorem kap_some (n : Nat) : kap (some n) = min (n : Int) 1099511627776 := rfl
theorem kap_B (a : Option Nat) : okI (kap a) := by cases a <;> simp only [kap, okI] <;> omega
theorem kap_po (a b : Option Nat) : kap (po a b) = moreI (kap a) (kap b) := by
  cases a with
  | none => rw [po, kap_none, more_neg (.inl (by omega))]
  | some a =>
    cases b with
    | none => rw [po, kap_none, more_neg (.inr (by omega))]
    | some b =>
      rw [po, kap_some, kap_some, kap_some, more_pos (by omega) (by omega)]
      unfold addI insI; omega
theorem kap_max (a b : Option Nat) : kap (bo max a b) = bestI max (kap a) (kap b) := by
  cases a <;> cases b <;> simp only [bo, kap, bestI] <;> (repeat' split) <;> omega
theorem kap_min (a b : Option Nat) : kap (bo min a b) = bestI min (kap a) (kap b) := by
  cases a <;> cases b <;> simp only [bo, kap, bestI] <;> (repeat' split) <;> omega
theorem pow_some (R : SR (Option Nat)) (h1 : R.one = some 0) (hm : R.mul = po) (x : Nat) : ∀ n, R.pow (some x) n = some (n * x)
  | 0 => by rw [SR.pow, h1, Nat.zero_mul]
  | n + 1 => by rw [SR.pow, pow_some R h1 hm x n, hm, po, Nat.succ_mul, Nat.add_comm]
theorem kap_oft (x : Option Nat) (n : Nat) (h : 0 < n) (h' : n ≤ 1000000) : kap (x.map (n * ·)) = oftI n (kap x) := by
  cases x with
  | none => rfl
  | some x =>
    rw [Option.map_some, kap_some, kap_some, oftI, if_neg (by omega), mulI, insId (n := (n : Int)) (by omega) (by omega), insId (n := min (x : Int) _) (by omega) (by omega), Int.natCast_mul]
    rcases Int.lt_or_le 1099511627776 (x : Int) with q | q
    · have h1 : (1 : Int) * x ≤ n * x := Int.mul_le_mul_of_nonneg_right (by omega) (by omega)
      rw [Int.min_eq_right (a := (x : Int)) (by omega)]
      omega
    · rw [Int.min_eq_left (a := (x : Int)) (by omega)]
      omega
/-- The rounds of the dearest walk. -/
theorem rds_max (x y : Nat) (on : GW (Option Nat)) : ∀ t, maxR.rds ⟨some x, some y⟩ on (t + 1) = bo max (some (t * x + y)) (po (some ((t + 1) * x)) on.fin)
  | 0 => by
    rw [SR.rds, SR.rds]
    cases on.fin <;> simp [maxR, bo, po]
  | t + 1 => by
    rw [SR.rds, rds_max x y on t]
    have e1 : (t + 1) * x = t * x + x := Nat.succ_mul _ _
    have e2 : (t + 1 + 1) * x = t * x + x + x := by rw [Nat.succ_mul, Nat.succ_mul]
    cases on.fin with
    | none => simp only [maxR, bo, po, e1, e2]; simp only [Option.some.injEq]; omega
    | some z => simp only [maxR, bo, po, e1, e2]; simp only [Option.some.injEq]; omega
theorem rds_min (x y : Nat) (on : GW (Option Nat)) : ∀ t, minR.rds ⟨some x, some y⟩ on (t + 1) = bo min (some y) (po (some ((t + 1) * x)) on.fin)
  | 0 => by
    rw [SR.rds, SR.rds]
    cases on.fin <;> simp [minR, bo, po]
  | t + 1 => by
    rw [SR.rds, rds_min x y on t]
    have e1 : (t + 1) * x = t * x + x := Nat.succ_mul _ _
    have e2 : (t + 1 + 1) * x = t * x + x + x := by rw [Nat.succ_mul, Nat.succ_mul]
    cases on.fin with
    | none => simp only [minR, bo, po, e1, e2]; simp only [Option.some.injEq]; omega
    | some z => simp only [minR, bo, po, e1, e2]; simp only [Option.some.injEq]; omega
theorem rds_none (R : SR (Option Nat)) (f : Nat → Nat → Nat) (ha : R.add = bo f) (hm : R.mul = po) (x : Nat) (on : GW (Option Nat)) : ∀ t, R.rds ⟨some x, none⟩ on t = po (some (t * x)) on.fin
  | 0 => by
    rw [SR.rds]
    cases on.fin <;> simp [po]
  | t + 1 => by
    rw [SR.rds, rds_none R f ha hm x on t, ha, hm]
    have e1 : (t + 1) * x = t * x + x := Nat.succ_mul _ _
    cases on.fin with
    | none => rfl
    | some z => simp only [bo, po, e1, Option.some.injEq]; omega
def kapW (v : GW (Option Nat)) : Way := ⟨kap v.thr, kap v.fin⟩
theorem kap_best (bt : Int → Int → Int) (a : Option Nat) : bestI bt (bestI bt (kap a) (-1)) (-1) = kap a := by
  have := kap_B a
  unfold okI at this
  unfold bestI
  (repeat' split) <;> omega
theorem rnd_gen (R : SR (Option Nat)) (f : Nat → Nat → Nat) (bt : Int → Int → Int) (h1 : R.one = some 0) (ha : R.add = bo f) (hm : R.mul = po) (hk : ∀ a b, kap (bo f a b) = bestI bt (kap a) (kap b))
    (hr : ∀ x y on t, bo f (some y) (po (some x) (R.rds ⟨some x, some y⟩ on (t + 1))) = bo f (bo f (some y) (po (some ((t + 1) * x)) (some y))) (po (some ((t + 1 + 1) * x)) on.fin))
    (one on : GW (Option Nat)) (t : Nat) (ht : 1 ≤ t) (ht' : t ≤ 100000) : rndW bt (kapW one) (kapW on) t = kapW (R.close one one on t) := by
  obtain ⟨x, y⟩ := one
  rw [SR.close, kapW, kapW, kapW, rndW, hm, ha]
  simp only
  cases x with
  | none =>
    rw [show kap none = -1 from rfl, show oftI ((t : Int) + 1) (-1) = -1 from rfl, show oftI (t : Int) (-1) = -1 from rfl, more_neg (.inl (by omega)), more_neg (.inl (by omega)), more_neg (.inl (by omega)), kap_best]
    cases y <;> rfl
  | some x =>
    have e1 : ((t : Int) + 1) = ((t + 1 : Nat) : Int) := by omega
    rw [e1, ← kap_oft (some x) (t + 1) (by omega) (by omega), ← kap_oft (some x) t (by omega) (by omega), pow_some R h1 hm]
    simp only [Option.map_some]
    rw [← kap_po, ← kap_po, ← kap_po, ← hk, ← hk]
    have e2 : (t + 1) * x = t * x + x := Nat.succ_mul _ _
    congr 1
    · rw [e2]
      cases on.thr with
      | none => rfl
      | some z => simp only [po]; congr 2; omega
    · congr 1
      cases y with
      | none =>
        rw [rds_none R f ha hm, e2]
        cases on.fin with
        | none => rfl
        | some z => simp only [bo, po]; congr 1; omega
      | some y =>
        obtain ⟨u, rfl⟩ : ∃ u, t = u + 1 := ⟨t - 1, by omega⟩
        exact (hr x y on u).symm
theorem rnd_max (one on : GW (Option Nat)) (t : Nat) (ht : 1 ≤ t) (ht' : t ≤ 100000) : rndW max (kapW one) (kapW on) t = kapW (maxR.close one one on t) := by
  refine rnd_gen maxR max max rfl rfl rfl kap_max (fun x y on t => ?_) one on t ht ht'
  rw [rds_max]
  have e1 : (t + 1) * x = t * x + x := Nat.succ_mul _ _
  have e2 : (t + 1 + 1) * x = t * x + x + x := by rw [Nat.succ_mul, Nat.succ_mul]
  cases on.fin with
  | none => simp only [bo, po, e1, e2, Option.some.injEq]; omega
  | some z => simp only [bo, po, e1, e2, Option.some.injEq]; omega
theorem rnd_min (one on : GW (Option Nat)) (t : Nat) (ht : 1 ≤ t) (ht' : t ≤ 100000) : rndW min (kapW one) (kapW on) t = kapW (minR.close one one on t) := by
  refine rnd_gen minR min min rfl rfl rfl kap_min (fun x y on t => ?_) one on t ht ht'
  rw [rds_min]
  have e1 : (t + 1) * x = t * x + x := Nat.succ_mul _ _
  have e2 : (t + 1 + 1) * x = t * x + x + x := by rw [Nat.succ_mul, Nat.succ_mul]
  cases on.fin with
  | none => simp only [bo, po, e1, e2, Option.some.injEq]; omega
  | some z => simp only [bo, po, e1, e2, Option.some.injEq]; omega
/-! The program's table is that of the exact values. -/
section
variable {p : List Instr} {w : List Int} (R : SR (Option Nat)) (f : Nat → Nat → Nat) (bt : Int → Int → Int)
def wtN (w : List Int) (pc : Nat) : Option Nat := some (wAt w pc).toNat
theorem kap_wt (w : List Int) (pc : Nat) : kap (wtN w pc) = wAt w pc := by
  have := wAt_ok w pc
  rw [wtN, kap_some]; omega
theorem sumG_cons (g : Nat → GW (Option Nat)) (x : Int) (l : List Int) : sumG R g (x :: l) = R.plus (g x.toNat) (sumG R g l) := rfl
theorem edge_kap (hz : R.zero = none) (ha : R.add = bo f) (hm : R.mul = po) (hk : ∀ a b, kap (bo f a b) = bestI bt (kap a) (kap b)) (v : Option Nat) (G : List Way) (g : Nat → GW (Option Nat)) :
    ∀ (l : List Int) (o : GW (Option Nat)), (∀ x ∈ l, G.getD x.toNat default = kapW (g x.toNat)) → l.foldl (edge bt (kap v) G) (kapW o) = kapW (R.plus o (R.scale v (sumG R g l)))
  | [], o, _ => by
    rw [sumG, List.foldr_nil, List.foldl_nil, SR.scale, SR.plus, SR.nil]
    simp only [R.mul_zero, R.add_zero]
  | x :: l, o, h => by
    have e : edge bt (kap v) G (kapW o) x = kapW (R.plus o (R.scale v (g x.toNat))) := by
      rw [edge, h x List.mem_cons_self, kapW, kapW, kapW, SR.plus, SR.scale]
      simp only
      rw [← kap_po, ← kap_po, ← hk, ← hk, ha, hm]
    rw [List.foldl_cons, e, edge_kap hz ha hm hk v G g l _ (fun y hy => h y (List.mem_cons_of_mem _ hy)), sumG_cons]
    unfold SR.plus SR.scale
    simp only [R.mul_add, R.add_assoc]
theorem at_kap (hz : R.zero = none) (ha : R.add = bo f) (hm : R.mul = po) (hk : ∀ a b, kap (bo f a b) = bestI bt (kap a) (kap b))
    (hr : ∀ (one on : GW (Option Nat)) (t : Nat), 1 ≤ t → t ≤ 100000 → rndW bt (kapW one) (kapW on) t = kapW (R.close one one on t)) (hf : FineP p) (hn : ∀ i, 0 ≤ (p.getD i default).n) :
    ∀ (m : Nat) (P : Span) (pc k : Nat), mG p P pc < m → isPart p P → P.frm ≤ pc → (pc : Int) ≤ P.to → sizeS P ≤ k + 1 →
      (atTo bt p w (loopsL p) (partW bt p w (loopsL p) k) P (sizeS P)).getD pc default = kapW (VG R (wtN w) p P pc)
  | 0, _, _, _, h, _, _, _, _ => by omega
  | m + 1, P, pc, k, hlt, hP, h1, h2, hk1 => by
    have hs := part_sound hf hn hP
    have ih := at_kap hz ha hm hk hr hf hn m
    have hnil : (⟨-1, -1⟩ : Way) = kapW R.nil := by rw [SR.nil, kapW, hz]; rfl
    rw [back_eq hf hn hP h1 h2, VG_eq R (wtN w) hf hn hP h1 h2, valW]
    cases ho : outL (loopsL p) pc P with
    | none =>
      simp only
      unfold nodeW nodeG
      rw [hz]
      split
      · rw [kapW]; simp only [kap_wt]; rfl
      · split
        · rw [kapW]; simp only [kap_wt]; rfl
        · rename_i h21 h16
          rw [hnil, ← kap_wt, edge_kap R f bt hz ha hm hk (wtN w pc) _ (VG R (wtN w) p P) _ _ fun x hx => ?_, SR.plus, SR.nil]
          · simp only [SR.zero_add]
          · obtain ⟨j, rfl, q1, q2, q3⟩ := next_up hf hn (by omega) h16 hx
            obtain ⟨q4, q5⟩ := next_in hf hn hP h1 h2 ho h16 q1 q2 q3
            have := mG_next (p := p) (P := P) q1 (by omega)
            rw [Int.toNat_natCast]
            exact ih P j k (by omega) hP (by omega) q4 hk1
    | some s =>
      simp only
      split
      · rename_i hsp
        obtain ⟨s1, ⟨s2, s3, s4⟩, s5⟩ := outL_some.1 ho
        have hso := loop_sound hf hn s1
        have hin := in_part hf hn hP s1 s2
        have m1 := mG_in (pc := pc) hf hn hP s1 s2
        have m2 := mG_next (p := p) (P := P) (i := pc) (j := (s.to + 1).toNat) (by omega) (by omega)
        obtain ⟨k', rfl⟩ : ∃ k', k = k' + 1 := ⟨k - 1, by unfold sizeS at hk1; omega⟩
        have hC := right_back (hf.right s.to.toNat (by omega)) hso.2.2.2.1
        have e1 : (p.getD s.to.toNat default).c = ((turnsC p s : Nat) : Int) := by unfold turnsC; omega
        rw [partW, show s.frm.toNat = pc by omega, ih s pc k' (by omega) (.inl s1) s3 s4 (by unfold sizeS at *; omega), ih P (s.to + 1).toNat (k' + 1) (by omega) hP (by omega) (by omega) hk1, e1]
        exact hr _ _ _ (by omega) (by omega)
      · exact hnil
end
section
variable {p : List Instr} {w : List Int}
theorem cost_max (hf : fineB p = true) (hn : ∀ i, 0 ≤ (p.getD i default).n) (hw : w.length = p.length) : costF max p w = (kap (phi maxR p (VG maxR (wtN w) p) (turnsC p) 0), 0) := by
  have hfp := fine_inv hf
  have hpos := hfp.pos
  obtain ⟨k, hk⟩ : ∃ k, p.length = k + 1 := ⟨p.length - 1, by omega⟩
  have h := at_kap (w := w) maxR max max rfl rfl rfl kap_max rnd_max hfp hn _ (wholeS p) 0 k (Nat.lt_succ_self _) (.inr rfl) (by simp [wholeS]) (by simp only [wholeS]; omega) (by unfold sizeS wholeS; simp only; omega)
  rw [phi_start maxR hfp hn (VG_isV maxR (wtN w) hfp hn), costF, if_neg (by rw [fineB, decide_eq_true_eq] at hf; omega), if_neg (by omega), hk, partW]
  rw [← hk]
  rw [wholeS] at h
  simp only [Int.toNat_zero]
  rw [h]
  rfl
theorem cost_min (hf : fineB p = true) (hn : ∀ i, 0 ≤ (p.getD i default).n) (hw : w.length = p.length) : costF min p w = (kap (phi minR p (VG minR (wtN w) p) (turnsC p) 0), 0) := by
  have hfp := fine_inv hf
  have hpos := hfp.pos
  obtain ⟨k, hk⟩ : ∃ k, p.length = k + 1 := ⟨p.length - 1, by omega⟩
  have h := at_kap (w := w) minR min min rfl rfl rfl kap_min rnd_min hfp hn _ (wholeS p) 0 k (Nat.lt_succ_self _) (.inr rfl) (by simp [wholeS]) (by simp only [wholeS]; omega) (by unfold sizeS wholeS; simp only; omega)
  rw [phi_start minR hfp hn (VG_isV minR (wtN w) hfp hn), costF, if_neg (by rw [fineB, decide_eq_true_eq] at hf; omega), if_neg (by omega), hk, partW]
  rw [← hk]
  rw [wholeS] at h
  simp only [Int.toNat_zero]
  rw [h]
  rfl
end
/-! The walk of any choices (the document's). -/
section
variable {p : List Instr}
/-- One step on. -/
def nxtS (p : List Instr) (j : Nat) (T : Nat → Nat) (jump : Bool) : Nat × (Nat → Nat) :=
  if (p.getD j default).op = 16 then (if (T j : Int) < (p.getD j default).c then ((p.getD j default).n.toNat, setT T j (T j + 1)) else (j + 1, setT T j 0))
  else if (p.getD j default).op = 14 ∨ ((p.getD j default).op = 15 ∧ jump = true) then ((p.getD j default).n.toNat, T) else (j + 1, T)
theorem nxt_st (hf : FineP p) (hn : ∀ i, 0 ≤ (p.getD i default).n) {j : Nat} {T : Nat → Nat} (h : StI p j T) (h21 : (p.getD j default).op ≠ 21) (b : Bool) : StI p (nxtS p j T b).1 (nxtS p j T b).2 := by
  have hV := VG_isV cntR (fun _ => 1) hf hn
  unfold nxtS
  split
  · rename_i h16
    have h1 := step_back cntR hf hn hV h h16
    split
    · rename_i hq; exact (h1.1 hq).1
    · rename_i hq; exact (h1.2 hq).1
  · rename_i h16
    have h1 := step_on cntR hf hn hV h h21 h16
    split
    · rename_i hq; exact h1.1 (by rcases hq with q | q; exact .inl q; exact .inr q.1)
    · rename_i hq; exact h1.2.1 (fun q => hq (.inl q))
/-- What is left: one's own weight and what is left behind a step, beside something else. -/
theorem phi_some {α : Type} (R : SR α) (hf : FineP p) (hn : ∀ i, 0 ≤ (p.getD i default).n) {wt : Nat → α} {j : Nat} {T : Nat → Nat} (h : StI p j T) (h21 : (p.getD j default).op ≠ 21) (b : Bool) :
    ∃ x, phi R p (VG R wt p) (cOf p T) j = R.add (R.mul (wt j) (phi R p (VG R wt p) (cOf p (nxtS p j T b).2) (nxtS p j T b).1)) x := by
  have hV := VG_isV R wt hf hn
  unfold nxtS
  split
  · rename_i h16
    have h1 := step_back R hf hn hV h h16
    split
    · rename_i hq; exact ⟨R.zero, by rw [R.add_zero]; exact (h1.1 hq).2⟩
    · rename_i hq; exact ⟨R.zero, by rw [R.add_zero]; exact (h1.2 hq).2⟩
  · rename_i h16
    have h1 := (step_on R hf hn hV h h21 h16).2.2
    rw [h1]
    by_cases h14 : (p.getD j default).op = 14
    · rw [if_pos h14, if_pos (.inl h14)]; exact ⟨R.zero, by rw [R.add_zero]⟩
    · rw [if_neg h14]
      by_cases h15 : (p.getD j default).op = 15 ∧ (p.getD j default).n ≠ (j : Int) + 1
      · rw [if_pos h15, R.mul_add]
        split
        · exact ⟨_, rfl⟩
        · exact ⟨_, R.add_comm _ _⟩
      · rw [if_neg h15]
        split
        · rename_i hq
          have e : (p.getD j default).n.toNat = j + 1 := by
            rcases hq with q | q
            · exact absurd q h14
            · have : (p.getD j default).n = (j : Int) + 1 := Classical.byContradiction fun e => h15 ⟨q.1, e⟩
              omega
          exact ⟨R.zero, by rw [R.add_zero, e]⟩
        · exact ⟨R.zero, by rw [R.add_zero]⟩
/-- And just this, where there is one way on; both, where there are two. -/
theorem phi_next {α : Type} (R : SR α) (hf : FineP p) (hn : ∀ i, 0 ≤ (p.getD i default).n) {wt : Nat → α} {j : Nat} {T : Nat → Nat} (h : StI p j T) (h21 : (p.getD j default).op ≠ 21) :
    phi R p (VG R wt p) (cOf p T) j = R.mul (wt j) (if (p.getD j default).op = 15 ∧ (p.getD j default).n ≠ (j : Int) + 1 then
      R.add (phi R p (VG R wt p) (cOf p (nxtS p j T true).2) (nxtS p j T true).1) (phi R p (VG R wt p) (cOf p (nxtS p j T false).2) (nxtS p j T false).1)
      else phi R p (VG R wt p) (cOf p (nxtS p j T false).2) (nxtS p j T false).1) := by
  have hV := VG_isV R wt hf hn
  by_cases h16 : (p.getD j default).op = 16
  · have h1 := step_back R hf hn hV h h16
    rw [if_neg (fun q => by omega)]
    unfold nxtS
    rw [if_pos h16]
    split
    · rename_i hq; exact (h1.1 hq).2
    · rename_i hq; exact (h1.2 hq).2
  · have h1 := (step_on R hf hn hV h h21 h16).2.2
    rw [h1]
    unfold nxtS
    rw [if_neg h16, if_neg h16]
    by_cases h14 : (p.getD j default).op = 14
    · rw [if_pos h14, if_neg (fun q => by omega), if_pos (.inl h14)]
    · rw [if_neg h14, if_neg (c := (p.getD j default).op = 14 ∨ (p.getD j default).op = 15 ∧ false = true) (fun q => by rcases q with q | q; exact h14 q; simp at q)]
      by_cases h15 : (p.getD j default).op = 15 ∧ (p.getD j default).n ≠ (j : Int) + 1
      · rw [if_pos h15, if_pos h15, if_pos (.inr ⟨h15.1, rfl⟩)]
      · rw [if_neg h15, if_neg h15]
end
end Go.Proofs.Ytkkmageogkkchaa
