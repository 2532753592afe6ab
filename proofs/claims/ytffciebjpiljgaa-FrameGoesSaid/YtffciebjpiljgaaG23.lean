/- Walks: from each place a walk ends, so what is left is never nothing. The document's walk of any choices, and all walks (plain). No condition. -/
import Derived.Test.YtffciebjpiljgaaG22
import Derived.Test.YtffciebjpiljgaaG18
import Derived.Test.YtffciebjpiljgaaG20
import Derived.Test.YtffciebjpiljgaaG21
namespace Go.Proofs.Ytffciebjpiljgaa
set_option linter.unusedSimpArgs false
set_option linter.unusedVariables false
set_option maxRecDepth 100000
set_option linter.unusedSimpArgs false
set_option linter.unusedVariables false
set_option maxRecDepth 100000
open Go.RowKit
section
variable {p : List Instr} {α : Type} (R : SR α) (wt : Nat → α)
/-- Out of the whole one comes by Done alone. -/
theorem sumG_thr (f : Nat → GW α) : ∀ (l : List Int), (∀ x ∈ l, (f x.toNat).thr = R.zero) → (sumG R f l).thr = R.zero
  | [], _ => rfl
  | x :: l, h => by
    have ih := sumG_thr f l (fun y hy => h y (List.mem_cons_of_mem _ hy))
    rw [sumG] at ih
    rw [sumG, List.foldr_cons, SR.plus]
    simp only
    rw [ih, h x List.mem_cons_self, R.add_zero]
theorem whole_zero (hf : FineP p) (hn : ∀ i, 0 ≤ (p.getD i default).n) : ∀ (m pc : Nat), p.length - pc ≤ m → pc < p.length → (VG R wt p (wholeS p) pc).thr = R.zero
  | 0, pc, h, h' => by omega
  | m + 1, pc, h, h' => by
    have h1 : (wholeS p).frm ≤ pc := by simp only [wholeS]; omega
    have h2 : (pc : Int) ≤ (wholeS p).to := by simp only [wholeS]; omega
    rw [VG_eq R wt (P := wholeS p) hf hn (.inr rfl) h1 h2]
    cases ho : outL (loopsL p) pc (wholeS p) with
    | none =>
      simp only
      unfold nodeG
      split
      · rfl
      · split
        · rename_i h21 h16
          have hb := back_loop h' h16
          have hs := loop_sound hf hn hb
          have hq := outL_none.1 ho _ hb (by
            rw [inQ, decide_eq_true_eq]
            refine ⟨fun e => ?_, by simp only [wholeS]; exact hn _, by simp only [wholeS]; omega⟩
            rw [wholeS, Span.mk.injEq] at e
            simp only at hs; omega)
          simp only at hq hs
          omega
        · rename_i h21 h16
          rw [SR.scale]
          simp only
          rw [sumG_thr R _ _ fun x hx => ?_, R.mul_zero]
          obtain ⟨j, rfl, q1, q2, q3⟩ := next_up hf hn h' h16 hx
          rw [Int.toNat_natCast]
          exact whole_zero hf hn m j (by omega) q2
    | some s =>
      obtain ⟨s1, ⟨s2, s3, s4⟩, s5⟩ := outL_some.1 ho
      have hso := loop_sound hf hn s1
      simp only
      split
      · rw [SR.close]
        simp only
        rw [whole_zero hf hn m _ (by omega) (by omega), R.mul_zero, R.mul_zero]
      · rfl
/-- What is alive. -/
structure Liv (R : SR α) (L : α → Prop) : Prop where
  nz : ¬ L R.zero
  one : L R.one
  add : ∀ a b, L a → L (R.add a b)
  mul : ∀ a b, L a → L b → L (R.mul a b)
variable {R wt} {L : α → Prop}
theorem Liv.add' (hL : Liv R L) (a b : α) (h : L b) : L (R.add a b) := R.add_comm a b ▸ hL.add b a h
theorem Liv.pow (hL : Liv R L) {x : α} (h : L x) : ∀ n, L (R.pow x n)
  | 0 => hL.one
  | n + 1 => hL.mul _ _ h (Liv.pow hL h n)
def livG (L : α → Prop) (v : GW α) : Prop := L v.thr ∨ L v.fin
theorem liv_rds (hL : Liv R L) {one on : GW α} (h1 : livG L one) (h2 : L on.fin) : ∀ r, L (R.rds one on r)
  | 0 => h2
  | r + 1 => by
    rw [SR.rds]
    rcases h1 with h | h
    · exact hL.add' _ _ (hL.mul _ _ h (liv_rds hL (.inl h) h2 r))
    · exact hL.add _ _ h
theorem liv_rdsF (hL : Liv R L) {one on : GW α} (h1 : L one.fin) (r : Nat) : L (R.rds one on (r + 1)) := hL.add _ _ h1
theorem liv_close (hL : Liv R L) {v one on : GW α} (hv : livG L v) (h1 : livG L one) (h2 : livG L on) (r : Nat) : livG L (R.close v one on r) := by
  rw [SR.close]
  rcases hv with hv | hv
  · rcases h2 with h2 | h2
    · rcases h1 with h1 | h1
      · exact .inl (hL.mul _ _ hv (hL.mul _ _ (hL.pow h1 r) h2))
      · cases r with
        | zero => exact .inl (hL.mul _ _ hv (hL.mul _ _ hL.one h2))
        | succ r => exact .inr (hL.add' _ _ (hL.mul _ _ hv (liv_rdsF hL h1 r)))
    · exact .inr (hL.add' _ _ (hL.mul _ _ hv (liv_rds hL h1 h2 r)))
  · exact .inr (hL.add _ _ hv)
theorem liv_scale (hL : Liv R L) {a : α} {v : GW α} (ha : L a) (hv : livG L v) : livG L (R.scale a v) := by
  rcases hv with hv | hv
  · exact .inl (hL.mul _ _ ha hv)
  · exact .inr (hL.mul _ _ ha hv)
theorem liv_sum (hL : Liv R L) (f : Nat → GW α) : ∀ (l : List Int) (x : Int), x ∈ l → livG L (f x.toNat) → livG L (sumG R f l)
  | [], x, hx, _ => by simp at hx
  | y :: l, x, hx, h => by
    have e : sumG R f (y :: l) = R.plus (f y.toNat) (sumG R f l) := rfl
    rw [e, SR.plus]
    rcases List.mem_cons.1 hx with rfl | hx
    · rcases h with h | h
      · exact .inl (hL.add _ _ h)
      · exact .inr (hL.add _ _ h)
    · rcases liv_sum hL f l x hx h with h | h
      · exact .inl (hL.add' _ _ h)
      · exact .inr (hL.add' _ _ h)
/-- What is behind a loop lies in no other one of its part, but at its beginning. -/
theorem behind (hf : FineP p) (hn : ∀ i, 0 ≤ (p.getD i default).n) {P s : Span} {j : Nat} (hP : isPart p P) (ho : outL (loopsL p) j P = some s) : ¬ deep p P (s.to + 1).toNat := fun ⟨x, d1, d2⟩ => by
  obtain ⟨s1, ⟨s2, s3, s4⟩, s5⟩ := outL_some.1 ho
  obtain ⟨d3, ⟨d4, d5, d6⟩, _⟩ := outL_some.1 d1
  have h1 := loop_sound hf hn s1
  have h2 := loop_sound hf hn d3
  have h3 := loop_nest hf s1 d3 (by omega)
  have := s5 x d3 d4 (by omega) (by omega)
  omega
theorem liv_V (hL : Liv R L) (hw : ∀ pc, L (wt pc)) (hf : FineP p) (hn : ∀ i, 0 ≤ (p.getD i default).n) : ∀ (m : Nat) (P : Span) (pc : Nat), mG p P pc < m → isPart p P → P.frm ≤ pc → (pc : Int) ≤ P.to → ¬ deep p P pc → livG L (VG R wt p P pc)
  | 0, _, _, h, _, _, _, _ => by omega
  | m + 1, P, pc, h, hP, h1, h2, hd => by
    have hs := part_sound hf hn hP
    rw [VG_eq R wt hf hn hP h1 h2]
    cases ho : outL (loopsL p) pc P with
    | none =>
      simp only
      unfold nodeG
      split
      · exact .inr (hw pc)
      · split
        · exact .inl (hw pc)
        · rename_i h21 h16
          have hne : (nextL p pc) ≠ [] := fun e => h21 ((next_nil p pc).1 (by rw [e]; rfl))
          obtain ⟨x, hx⟩ : ∃ x, x ∈ nextL p pc := List.exists_mem_of_ne_nil _ hne
          obtain ⟨j, rfl, q1, q2, q3⟩ := next_up hf hn (by omega) h16 hx
          obtain ⟨q4, q5⟩ := next_in hf hn hP h1 h2 ho h16 q1 q2 q3
          have := mG_next (p := p) (P := P) q1 (by omega)
          refine liv_scale hL (hw pc) (liv_sum hL _ _ _ hx ?_)
          rw [Int.toNat_natCast]
          exact liv_V hL hw hf hn m P j (by omega) hP (by omega) q4 q5
    | some s =>
      obtain ⟨s1, ⟨s2, s3, s4⟩, s5⟩ := outL_some.1 ho
      simp only
      split
      · rename_i hsp
        have hso := loop_sound hf hn s1
        have hin := in_part hf hn hP s1 s2
        have m1 := mG_in (pc := pc) hf hn hP s1 s2
        have m2 := mG_next (p := p) (P := P) (i := pc) (j := (s.to + 1).toNat) (by omega) (by omega)
        have e1 := liv_V hL hw hf hn m s pc (by omega) (.inl s1) s3 s4 (fun ⟨x, d1, d2⟩ => by
          obtain ⟨d3, ⟨d4, d5, d6⟩, _⟩ := outL_some.1 d1
          have := in_part hf hn (.inl s1) d3 d4
          omega)
        exact liv_close hL e1 e1 (liv_V hL hw hf hn m P (s.to + 1).toNat (by omega) hP (by omega) (by omega) (behind hf hn hP ho)) _
      · rename_i hsp
        exact absurd ⟨s, ho, hsp⟩ hd
variable {c : Span → Nat}
theorem liv_up (hL : Liv R L) (hw : ∀ pc, L (wt pc)) (hf : FineP p) (hn : ∀ i, 0 ≤ (p.getD i default).n) {j : Nat} : ∀ (n : Nat) (P : Span), (seg p P j).length = n → isPart p P → P.frm ≤ j → (j : Int) ≤ P.to →
    livG L (R.up (VG R wt p) c P (seg p P j) (VG R wt p ((seg p P j).headD P) j))
  | n, P, hl, hP, h1, h2 => by
    have hs := part_sound hf hn hP
    cases ho : outL (loopsL p) j P with
    | none =>
      rw [seg_none ho]
      exact liv_V hL hw hf hn _ P j (Nat.lt_succ_self _) hP h1 h2 fun ⟨s, d1, _⟩ => by rw [ho] at d1; cases d1
    | some s =>
      have e := seg_some hf ho
      obtain ⟨s1, ⟨s2, s3, s4⟩, s5⟩ := outL_some.1 ho
      have hso := loop_sound hf hn s1
      have hin := in_part hf hn hP s1 s2
      cases n with
      | zero => rw [e] at hl; simp at hl
      | succ n =>
      have ih := liv_up hL hw hf hn n s (by rw [e] at hl; simpa using hl) (.inl s1) s3 s4
      rw [e, SR.up_app, SR.headD_app]
      simp only [List.headD_cons]
      rw [SR.up, SR.up]
      refine liv_close hL ih ?_ ?_ _
      · refine liv_V hL hw hf hn _ s s.frm.toNat (Nat.lt_succ_self _) (.inl s1) (by omega) (by omega) fun ⟨x, d1, d2⟩ => ?_
        obtain ⟨d3, ⟨d4, d5, d6⟩, _⟩ := outL_some.1 d1
        have := in_part hf hn (.inl s1) d3 d4
        omega
      · exact liv_V hL hw hf hn _ P (s.to + 1).toNat (Nat.lt_succ_self _) hP (by omega) (by omega) (behind hf hn hP ho)
theorem phi_thr (hf : FineP p) (hn : ∀ i, 0 ≤ (p.getD i default).n) {j : Nat} (hj : j < p.length) : (R.up (VG R wt p) c (wholeS p) (chain p j) (VG R wt p ((chain p j).headD (wholeS p)) j)).thr = R.zero := by
  cases ho : outL (loopsL p) j (wholeS p) with
  | none => rw [chain, seg_none ho]; exact whole_zero R wt hf hn _ j (Nat.le_refl _) hj
  | some s =>
    have e := seg_some hf ho
    obtain ⟨s1, ⟨s2, s3, s4⟩, s5⟩ := outL_some.1 ho
    have hso := loop_sound hf hn s1
    have hin := in_part hf hn (.inr rfl) s1 s2
    simp only [wholeS] at hin
    rw [chain, e, SR.up_app, SR.up, SR.up, SR.close]
    simp only [List.headD_nil]
    rw [whole_zero R wt hf hn _ _ (Nat.le_refl _) (by omega), R.mul_zero, R.mul_zero]
/-- What is left is alive. -/
theorem phi_liv (hL : Liv R L) (hw : ∀ pc, L (wt pc)) (hf : FineP p) (hn : ∀ i, 0 ≤ (p.getD i default).n) {j : Nat} (hj : j < p.length) : L (phi R p (VG R wt p) c j) := by
  rcases liv_up (c := c) hL hw hf hn _ (wholeS p) rfl (.inr rfl) (by simp only [wholeS]; omega) (by simp only [wholeS]; omega) (j := j) with h | h
  · rw [← chain, phi_thr hf hn hj] at h
    exact absurd h hL.nz
  · exact h
end
theorem liv_max : Liv maxR (fun a => ∃ n, a = some n) := ⟨fun ⟨n, h⟩ => (nomatch h), ⟨0, rfl⟩, fun a b ⟨n, h⟩ => by subst h; cases b <;> exact ⟨_, rfl⟩, fun a b ⟨n, h⟩ ⟨m, h'⟩ => by subst h; subst h'; exact ⟨_, rfl⟩⟩
end Go.Proofs.Ytffciebjpiljgaa
namespace Go.Proofs.Ytffciebjpiljgaa
set_option linter.unusedSimpArgs false
set_option linter.unusedVariables false
set_option maxRecDepth 100000
set_option linter.unusedSimpArgs false
set_option linter.unusedVariables false
set_option maxRecDepth 100000
open Go.RowKit
abbrev opA (p : List Instr) (j : Nat) : Int := (p.getD j default).op
/-- A Zero that may lead to two places. -/
def jmpB (p : List Instr) (j : Nat) : Bool := decide ((p.getD j default).op = 15 ∧ (p.getD j default).n ≠ (j : Int) + 1)
def walkL (p : List Instr) (ch : List Bool) : Nat → Nat → (Nat → Nat) → Nat → List Int × Bool
  | 0, _, _, _ => ([], false)
  | m + 1, j, T, k =>
    if opA p j = 21 then ([(j : Int)], true) else
      let b := decide (opA p j = 15) && ch.getD k false
      let r := walkL p ch m (nxtS p j T b).1 (nxtS p j T b).2 (if opA p j = 15 then k + 1 else k)
      ((j : Int) :: r.1, r.2)
section
variable {p : List Instr}
/-! What is left to weigh, as the program tells it. -/
def leftM (p : List Instr) (w : List Int) (j : Nat) (T : Nat → Nat) : Int := kap (phi maxR p (VG maxR (wtN w) p) (cOf p T) j)
def leftL (p : List Instr) (w : List Int) (j : Nat) (T : Nat → Nat) : Int := kap (phi minR p (VG minR (wtN w) p) (cOf p T) j)
def leftC (p : List Instr) (j : Nat) (T : Nat → Nat) : Nat := phi cntR p (VG cntR (fun _ => 1) p) (cOf p T) j
variable {w : List Int}
theorem leftM_B (hf : FineP p) (hn : ∀ i, 0 ≤ (p.getD i default).n) {j : Nat} (hj : j < p.length) (T : Nat → Nat) : 0 ≤ leftM p w j T ∧ leftM p w j T ≤ 1099511627776 := by
  obtain ⟨v, hv⟩ := phi_liv (c := cOf p T) (wt := wtN w) liv_max (fun pc => ⟨_, rfl⟩) hf hn hj
  rw [leftM, hv, kap_some]; omega
theorem addI_B (a b : Int) : 0 ≤ addI a b ∧ addI a b ≤ 1099511627776 := addB a b
theorem leftM_done (hf : FineP p) (hn : ∀ i, 0 ≤ (p.getD i default).n) {j : Nat} {T : Nat → Nat} (hj : j < p.length) (h21 : opA p j = 21) : leftM p w j T = wAt w j := by
  rw [leftM, phi_done maxR hf hn (VG_isV maxR (wtN w) hf hn) hj h21, kap_wt]
theorem leftM_some (hf : FineP p) (hn : ∀ i, 0 ≤ (p.getD i default).n) {j : Nat} {T : Nat → Nat} (h : StI p j T) (h21 : opA p j ≠ 21) (b : Bool) : addI (wAt w j) (leftM p w (nxtS p j T b).1 (nxtS p j T b).2) ≤ leftM p w j T := by
  obtain ⟨x, hx⟩ := phi_some maxR hf hn (wt := wtN w) h h21 b
  have hB := leftM_B (w := w) hf hn (nxt_st hf hn h h21 b).lt (nxtS p j T b).2
  have hw := wAt_ok w j
  have hk := kap_B x
  have e : leftM p w j T = bestI max (moreI (wAt w j) (leftM p w (nxtS p j T b).1 (nxtS p j T b).2)) (kap x) := by
    rw [leftM, hx, show maxR.add = bo max from rfl, kap_max, show maxR.mul = po from rfl, kap_po, kap_wt]; rfl
  rw [e, more_pos hw.1 hB.1]
  have := addI_B (wAt w j) (leftM p w (nxtS p j T b).1 (nxtS p j T b).2)
  unfold bestI
  (repeat' split) <;> omega
def sumW (w : List Int) (s : Int) (l : List Int) : Int := l.foldl (fun s x => addI s (w.getD x.toNat default)) s
end
/-! All walks. -/
structure Sn where
  cnt : Int
  mx : Int
  mn : Int
  left : Int
def visit (x : Sn) (s : Int) : Sn := ⟨x.cnt + 1, if x.cnt = 0 ∨ x.mx < s then s else x.mx, if x.cnt = 0 ∨ s < x.mn then s else x.mn, x.left⟩
def tick (x : Sn) : Sn := { x with left := x.left - 1 }
def fol (p : List Instr) (w : List Int) : Nat → Sn → Nat → (Nat → Nat) → Int → Sn
  | 0, x, _, _, _ => x
  | n + 1, x, j, T, s =>
    if x.left ≤ 0 then x else
    if opA p j = 21 then visit (tick x) (addI s (w.getD j default)) else
    fol p w n (if jmpB p j = true then fol p w n (tick x) (nxtS p j T true).1 (nxtS p j T true).2 (addI s (w.getD j default)) else tick x) (nxtS p j T false).1 (nxtS p j T false).2 (addI s (w.getD j default))
section
variable {p : List Instr} {w : List Int}
end
end Go.Proofs.Ytffciebjpiljgaa
namespace Go.Proofs.Ytffciebjpiljgaa
set_option linter.unusedSimpArgs false
set_option linter.unusedVariables false
set_option maxRecDepth 100000
set_option linter.unusedSimpArgs false
set_option linter.unusedVariables false
set_option maxRecDepth 100000
open Go.RowKit
section
variable {p : List Instr}
theorem doF_tn {x : Instr} {pc : Nat} {rg : Nat → Int} {tn : List Int} {a l st : Int} {L : List Int} (h : x.op ≠ 16) : (doF x pc rg tn a l st L).tn = tn := by
  unfold doF
  repeat' split
  all_goals first | rfl | (exfalso; omega)
theorem doF_back {x : Instr} {pc : Nat} {rg : Nat → Int} {tn : List Int} {a l st : Int} {L : List Int} (h16 : x.op = 16) : doF x pc rg tn a l st L = (if x.c ≤ tn.getD pc default then ⟨false, rg, tn.set pc 0, st, L⟩ else ⟨true, rg, tn.set pc (tn.getD pc default + 1), st, L⟩) := by
  rw [doF, if_neg (by omega), if_neg (by omega), if_neg (by omega), if_neg (by omega), if_neg (by omega), if_neg (by omega), if_neg (by omega), if_pos h16]
theorem doF_jmp {x : Instr} {pc : Nat} {rg : Nat → Int} {tn : List Int} {a l st : Int} {L : List Int} (h : x.op ≠ 16) : ((doF x pc rg tn a l st L).jmp = true → x.op = 14 ∨ x.op = 15) ∧ (x.op = 14 → (doF x pc rg tn a l st L).jmp = true) := by
  unfold doF
  repeat' split
  all_goals (refine ⟨fun e => ?_, fun e => ?_⟩)
  all_goals first | omega | rfl | (simp at e; done)
theorem doF_words {x : Instr} {pc : Nat} {rg : Nat → Int} {tn : List Int} {a l st : Int} {L : List Int} (i : Nat) (h : (doF x pc rg tn a l st L).L.getD i default ≠ L.getD i default) : i = (adrI rg x a l).toNat := by
  have key : ∀ v, (L.set (adrI rg x a l).toNat v).getD i default ≠ L.getD i default → i = (adrI rg x a l).toNat := fun v hv => by
    rw [getD_setG] at hv
    by_cases e : (adrI rg x a l).toNat = i ∧ (adrI rg x a l).toNat < L.length
    · exact e.1.symm
    · rw [if_neg e] at hv; exact absurd rfl hv
  unfold doF at h
  repeat' split at h
  all_goals first | exact absurd rfl h | exact key _ h
theorem adr_own {rg : Nat → Int} {x : Instr} {a l : Int} (ha : 0 ≤ a) (hl : 1 ≤ l) : a ≤ adrI rg x a l ∧ adrI rg x a l < a + l := by
  have h1 := Int.emod_nonneg ((rg x.b.toNat + x.n) % 4294967296) (show l ≠ 0 by omega)
  have h2 := Int.emod_lt_of_pos ((rg x.b.toNat + x.n) % 4294967296) (show 0 < l by omega)
  unfold adrI; omega
/-- A plain step: the frame was right, and it goes on with the next instruction or where this one leads. -/
theorem went {f : Fr} {a l st : Int} {L : List Int} (h : (stepF p f a l st L).k = 0) :
    rightF p f.pc f.tn = true ∧ 1 ≤ l ∧ nsdB L.length a l = true ∧ (p.getD f.pc.toNat default).op ≠ 21 ∧ stepF p f a l st L = goF (p.getD f.pc.toNat default) f a l st L := by
  unfold stepF at h ⊢
  split at h
  · rename_i ho
    split at h
    · rename_i hk; exact absurd h hk
    · rename_i hk
      rw [if_pos ho, if_neg hk]
      rw [okS, Bool.and_eq_true, Bool.and_eq_true, decide_eq_true_eq] at ho
      refine ⟨ho.1.1, ho.1.2, ho.2, fun e => hk ?_, rfl⟩
      rw [e]; decide
  · exact absurd h (by show ¬ (3 : Int) = 0; decide)
theorem words_own {f : Fr} {a l st : Int} {L : List Int} (i : Nat) (h : (stepF p f a l st L).L.getD i default ≠ L.getD i default) : a ≤ i ∧ (i : Int) < a + l := by
  by_cases hk : (stepF p f a l st L).k = 0
  · obtain ⟨_, h1, h2, _, h4⟩ := went hk
    rw [h4, goF] at h
    have h5 := doF_words i h
    rw [nsdB, decide_eq_true_eq] at h2
    have h6 := adr_own (rg := f.rg) (x := p.getD f.pc.toNat default) h2.1 h1
    omega
  · exfalso
    unfold stepF at h hk
    split at h
    · split at h
      · exact h rfl
      · rename_i ho hq
        rw [if_pos ho, if_neg hq] at hk
        exact hk rfl
    · exact h rfl
theorem turns_of {tn : List Int} : ∀ n, (∀ k, k < n → 0 ≤ tn.getD k default ∧ tn.getD k default ≤ mostT (p.getD k default)) → turnsTo p tn n = true
  | 0, _ => rfl
  | n + 1, h => by rw [turnsTo, turns_of n fun k hk => h k (by omega), Bool.true_and, turnB]; exact decide_eq_true (h n (by omega))
/-- .. and leaves it right, elsewhere. -/
theorem went_right {f : Fr} {a l st : Int} {L : List Int} (hn : ∀ i, 0 ≤ (p.getD i default).n) (h : (stepF p f a l st L).k = 0) : (stepF p f a l st L).f.pc ≠ f.pc ∧ rightF p (stepF p f a l st L).f.pc (stepF p f a l st L).f.tn = true := by
  obtain ⟨h1, _, _, h21, h4⟩ := went h
  obtain ⟨hfb, b0, b1, b2, b3⟩ := right_inv h1
  have hf := fine_inv hfb
  rw [h4, goF]
  obtain ⟨pc, rg, tn⟩ := f
  simp only at b0 b1 b2 b3 h21 ⊢
  obtain ⟨j, rfl⟩ : ∃ j : Nat, pc = j := ⟨pc.toNat, by omega⟩
  simp only [Int.toNat_natCast] at h21 ⊢
  have hj : j < p.length := by omega
  have hin := inner_lt hf hj h21
  have hto := leads_to hf hn hj
  have hnn := hn j
  have htn := turns_at b3
  generalize hx : p.getD j default = x at *
  have mk : ∀ (pc' : Int) (tn' : List Int), pc' ≠ j → 0 ≤ pc' ∧ pc' < p.length → tn'.length = tn.length → (∀ k, k < p.length → 0 ≤ tn'.getD k default ∧ tn'.getD k default ≤ mostT (p.getD k default)) → pc' ≠ j ∧ rightF p pc' tn' = true := fun pc' tn' q1 q2 q3 q4 => by
    refine ⟨q1, ?_⟩
    rw [rightF, hfb, Bool.true_and, turns_of _ q4, Bool.and_true]
    exact decide_eq_true ⟨q2.1, q2.2, by omega⟩
  by_cases h16 : x.op = 16
  · have hto := hto (by omega) (by omega)
    rw [doF_back h16]
    have hc1 := right_back' (hx ▸ hf.right j hj) h16
    have hm : mostT (p.getD j default) = x.c := by rw [hx, mostT, if_pos h16]
    have ht := htn j hj
    rw [hm] at ht
    split
    · refine mk _ _ (by simp; omega) (by simp; omega) (by simp) fun k hk => ?_
      simp only
      rw [getD_setG]
      split
      · rename_i e
        rw [← e.1, hm]; omega
      · exact htn k hk
    · rename_i hlt
      refine mk _ _ (by simp; omega) (by simp; omega) (by simp) fun k hk => ?_
      simp only
      rw [getD_setG]
      split
      · rename_i e
        rw [← e.1, hm]; omega
      · exact htn k hk
  · rw [doF_tn h16]
    have hjm := (doF_jmp (x := x) (pc := j) (rg := rg) (tn := tn) (a := a) (l := l) (st := st) (L := L) h16).1
    by_cases hq : (doF x j rg tn a l st L).jmp = true
    · rw [if_pos hq]
      have := hjm hq
      have hto := hto (by omega) (by omega)
      exact mk _ _ (by omega) (by omega) rfl htn
    · rw [if_neg hq]
      exact mk _ _ (by omega) (by omega) rfl htn
/-! How long runs are. -/
def onesL (p : List Instr) : List Int := List.replicate p.length 1
theorem wt_one {j : Nat} (hj : j < p.length) : wAt (onesL p) j = 1 := by
  rw [wAt, onesL, getD_rep, if_pos hj]; decide
theorem left_pos (hf : FineP p) (hn : ∀ i, 0 ≤ (p.getD i default).n) {j : Nat} {T : Nat → Nat} (h : StI p j T) : 1 ≤ leftM p (onesL p) j T := by
  by_cases h21 : opA p j = 21
  · rw [leftM_done hf hn h.lt h21, wt_one h.lt]; omega
  · have h1 := leftM_some (w := onesL p) hf hn h h21 false
    rw [wt_one h.lt] at h1
    have h2 := leftM_B (w := onesL p) hf hn (nxt_st hf hn h h21 false).lt (nxtS p j T false).2
    unfold addI insI at h1
    omega
theorem run_short (hf : FineP p) (hn : ∀ i, 0 ≤ (p.getD i default).n) (a l : Int) : ∀ (m : Nat) (f : Fr) (st : Int) (L : List Int) (j : Nat) (T : Nat → Nat), f.pc = j → StI p j T → (∀ i, i < p.length → f.tn.getD i default = T i) → leftM p (onesL p) j T ≤ 20000 → ((runF p a l m f st L).n : Int) < leftM p (onesL p) j T
  | 0, f, st, L, j, T, h1, h2, h3, h4 => by
    have := left_pos hf hn h2
    rw [runF]
    simp only
    omega
  | m + 1, f, st, L, j, T, h1, h2, h3, h4 => by
    have hpos := left_pos hf hn h2
    by_cases hk : (stepF p f a l st L).k = 0
    · rw [run_more p a l m f st L hk]
      simp only
      obtain ⟨g1, _, _, h21, g4⟩ := went hk
      obtain ⟨hfb, b0, b1, b2, b3⟩ := right_inv g1
      obtain ⟨pc, rg, tn⟩ := f
      simp only at h1 h3 h21 g4 b2
      subst h1
      simp only [Int.toNat_natCast] at h21 g4
      have hj : j < p.length := h2.lt
      obtain ⟨b, hb1, hb2⟩ : ∃ b, (stepF p ⟨j, rg, tn⟩ a l st L).f.pc = ((nxtS p j T b).1 : Int) ∧ ∀ i, i < p.length → (stepF p ⟨j, rg, tn⟩ a l st L).f.tn.getD i default = ((nxtS p j T b).2 i : Nat) := by
        rw [g4, goF]
        simp only [Int.toNat_natCast]
        have hnn := hn j
        have h3j := h3 j hj
        unfold nxtS
        generalize p.getD j default = x at *
        by_cases h16 : x.op = 16
        · refine ⟨false, ?_⟩
          rw [doF_back h16, if_pos h16]
          by_cases hc : x.c ≤ tn.getD j default
          · rw [if_pos hc, if_neg (show ¬ ((T j : Int) < x.c) by omega)]
            refine ⟨by simp, fun i hi => ?_⟩
            simp only
            rw [getD_setG, setT]
            by_cases e : j = i
            · rw [if_pos ⟨e, by omega⟩, if_pos e.symm]; rfl
            · rw [if_neg (fun q => e q.1), if_neg (fun q => e q.symm)]; exact h3 i hi
          · rw [if_neg hc, if_pos (show ((T j : Int) < x.c) by omega)]
            refine ⟨by simp; omega, fun i hi => ?_⟩
            simp only
            rw [getD_setG, setT]
            by_cases e : j = i
            · rw [if_pos ⟨e, by omega⟩, if_pos e.symm]; omega
            · rw [if_neg (fun q => e q.1), if_neg (fun q => e q.symm)]; exact h3 i hi
        · have hjm := doF_jmp (x := x) (pc := j) (rg := rg) (tn := tn) (a := a) (l := l) (st := st) (L := L) h16
          refine ⟨(doF x j rg tn a l st L).jmp, ?_⟩
          rw [doF_tn h16, if_neg h16]
          by_cases hq : (doF x j rg tn a l st L).jmp = true
          · have hw : x.op = 14 ∨ (x.op = 15 ∧ (doF x j rg tn a l st L).jmp = true) := by
              rcases hjm.1 hq with e | e
              · exact .inl e
              · exact .inr ⟨e, hq⟩
            rw [if_pos hq, if_pos hw]
            exact ⟨by simp only; omega, h3⟩
          · rw [if_neg hq, if_neg (fun e => hq (by
              rcases e with e | e
              · exact hjm.2 e
              · exact e.2))]
            exact ⟨by simp only; omega, h3⟩
      have hle := leftM_some (w := onesL p) hf hn h2 h21 b
      rw [wt_one hj] at hle
      have hst := nxt_st hf hn h2 h21 b
      have hB := leftM_B (w := onesL p) hf hn hst.lt (nxtS p j T b).2
      have hlt : 1 + leftM p (onesL p) (nxtS p j T b).1 (nxtS p j T b).2 ≤ leftM p (onesL p) j T := by
        unfold addI insI at hle
        omega
      have ih := run_short hf hn a l m _ (stepF p ⟨j, rg, tn⟩ a l st L).st (stepF p ⟨j, rg, tn⟩ a l st L).L _ _ hb1 hst hb2 (by omega)
      omega
    · rw [run_stop p a l m f st L hk]
      simp only
      omega
theorem start_short (hfb : fineB p = true) (hn : ∀ i, 0 ≤ (p.getD i default).n) (a l : Int) (L : List Int) {n : Int} (he : (costF max p (onesL p)).1 = n) (h2 : n ≤ 20000) :
    ((runF p a l n.toNat ⟨0, fun _ => 0, List.replicate p.length 0⟩ 0 L).n : Int) < n := by
  have hf := fine_inv hfb
  have e := cost_max (w := onesL p) hfb hn (by rw [onesL, List.length_replicate])
  rw [e] at he
  simp only at he
  have e2 : leftM p (onesL p) 0 (fun _ => 0) = n := by
    rw [← he, leftM]
    congr 2
  rw [← e2] at h2
  have := run_short hf hn a l n.toNat ⟨0, fun _ => 0, List.replicate p.length 0⟩ 0 L 0 (fun _ => 0) rfl (st_0 hf) (fun i hi => by simp only; rw [getD_rep, if_pos hi]; rfl) h2
  rw [e2] at this
  exact this
end
end Go.Proofs.Ytffciebjpiljgaa
namespace Go.Proofs.Ytffciebjpiljgaa
set_option linter.unusedSimpArgs false
set_option linter.unusedVariables false
set_option maxRecDepth 100000
set_option linter.unusedSimpArgs false
set_option linter.unusedVariables false
set_option maxRecDepth 100000
open Go.RowKit
/-- No less; and there is one where there is the other one. -/
def leV (a b : Int) : Prop := (a < 0 ↔ b < 0) ∧ a ≤ b
def leW (x y : Way) : Prop := leV x.thr y.thr ∧ leV x.fin y.fin
theorem leV.refl (a : Int) : leV a a := ⟨Iff.rfl, Int.le_refl a⟩
theorem leW.refl (x : Way) : leW x x := ⟨leV.refl _, leV.refl _⟩
/-- A choice that grows with both. -/
structure BtG (bt bt' : Int → Int → Int) : Prop where
  mono : ∀ a a' b b', a ≤ a' → b ≤ b' → bt a b ≤ bt' a' b'
  pos : ∀ a b, 0 ≤ a → 0 ≤ b → 0 ≤ bt a b ∧ 0 ≤ bt' a b
section
variable {bt bt' : Int → Int → Int} {p : List Instr} {w w' : List Int}
end
end Go.Proofs.Ytffciebjpiljgaa
namespace Go.Proofs.Ytffciebjpiljgaa
set_option linter.unusedSimpArgs false
set_option linter.unusedVariables false
set_option maxRecDepth 100000
set_option linter.unusedSimpArgs false
set_option linter.unusedVariables false
set_option maxRecDepth 100000
open Go.RowKit
def aw12 : List Instr := [⟨15, 0, 0, 0, 2⟩, ⟨0, 0, 0, 0, 0⟩, ⟨21, 0, 0, 0, 0⟩]
end Go.Proofs.Ytffciebjpiljgaa
namespace Go.Proofs.Ytffciebjpiljgaa
set_option linter.unusedSimpArgs false
set_option linter.unusedVariables false
set_option maxRecDepth 100000
set_option linter.unusedSimpArgs false
set_option linter.unusedVariables false
set_option maxRecDepth 100000
open Go.RowKit
theorem ones_fn (p : List Instr) (hl : p.length ≤ 1000000) : Fn Try.prog 19 [.lst 5 (p.map eInstr)] (.lst 1 ((List.replicate p.length (1 : Int)).map eI)) := by
  refine fnb Try.func19 (entered_of (by kernel_rfl)) rfl rfl rfl ?_
  repeat' (first | (show W _ _ _ _ _ _; first | apply kA | refine kB rfl ?_ | refine kC rfl rfl ?_ | refine kD rfl rfl ?_ | apply kE | apply kF | apply kG | apply kH | refine kI (by kernel_rfl) (by kernel_rfl) ?_) | (show O _ _ _ _ _ _ _; first | (show O _ _ _ _ (⟨_, .store _ _ _, _, _, _, _⟩ :: _) _ _; refine kJ rfl rfl rfl rfl rfl rfl rfl rfl rfl rfl rfl ?_) | apply kK) | apply kL | ((first | apply kM | apply kN); (iterate 3 (· exact rfl)); (· first | exact ya)) | refine kO rfl rfl rfl rfl rfl ?_ | refine kP rfl rfl rfl ?_ | ((first | refine kQ rfl rfl ?_ ?_ | refine kR rfl rfl rfl rfl rfl ?_ ?_ | refine kS rfl rfl rfl ?_ ?_) <;> intro hc <;> (try simp only [KL, cond_true, cond_false, beq_iff_eq, bne_iff_ne, ne_eq, reduceCtorEq] at hc) <;> (try (have hT : True := hc; clear hT hc)) <;> (try (exfalso; omega))) | apply kT | apply kU | apply kV | apply kW | refine kX rfl ?_ | apply kY | apply kZ)
  refine wturn (turn_own eI (t := 3) rfl 10 3 1 (by omega) rfl) ?_
  refine wloop (fun k : Nat => ([(0, .lst 5 (p.map eInstr)), (3, .own 10), (5, .int .i64 p.length), (6, .int .i64 k)], [(10, .row 3 1 ((List.replicate k (1 : Int)).map eI))])) (fun k => k ≤ p.length) (fun k => p.length - k) 0 (Nat.zero_le _) les leh (fun k hk => ?_)
  have hrl : (List.replicate k (1 : Int)).length = k := List.length_replicate
  rcases Nat.lt_or_eq_of_le hk with hlt | rfl
  · repeat' (first | (show W _ _ _ _ _ _; first | apply kA | refine kB rfl ?_ | refine kC rfl rfl ?_ | refine kD rfl rfl ?_ | apply kE | apply kF | apply kG | apply kH | refine kI (by kernel_rfl) (by kernel_rfl) ?_) | (show O _ _ _ _ _ _ _; first | (show O _ _ _ _ (⟨_, .store _ _ _, _, _, _, _⟩ :: _) _ _; refine kJ rfl rfl rfl rfl rfl rfl rfl rfl rfl rfl rfl ?_) | apply kK) | apply kL | ((first | apply kM | apply kN); (iterate 3 (· exact rfl)); (· first | exact ya)) | refine kO rfl rfl rfl rfl rfl ?_ | refine kP rfl rfl rfl ?_ | ((first | refine kQ rfl rfl ?_ ?_ | refine kR rfl rfl rfl rfl rfl ?_ ?_ | refine kS rfl rfl rfl ?_ ?_) <;> intro hc <;> (try simp only [KL, cond_true, cond_false, beq_iff_eq, bne_iff_ne, ne_eq, reduceCtorEq] at hc) <;> (try (have hT : True := hc; clear hT hc)) <;> (try (exfalso; omega))) | apply kT | apply kU | apply kV | apply kW | refine kX rfl ?_ | apply kY | apply kZ)
    all_goals first | (exfalso; omega) | skip
    (refine ao_ap (id := 10) (ys := [1]) (by_ := 8) rfl rfl rfl rfl rfl rfl rfl rfl rfl rfl (fun _ _ => rfl) ?_ ?_ rfl rfl rfl rfl rfl ?_; (· (first | omega | ((try simp only [List.length_cons, List.length_nil, List.length_append, List.length_map]) <;> omega))); (· (first | omega | ((try simp only [List.length_cons, List.length_nil, List.length_append, List.length_map]) <;> omega))))
    repeat' (first | (show W _ _ _ _ _ _; first | apply kA | refine kB rfl ?_ | refine kC rfl rfl ?_ | refine kD rfl rfl ?_ | apply kE | apply kF | apply kG | apply kH | refine kI (by kernel_rfl) (by kernel_rfl) ?_) | (show O _ _ _ _ _ _ _; first | (show O _ _ _ _ (⟨_, .store _ _ _, _, _, _, _⟩ :: _) _ _; refine kJ rfl rfl rfl rfl rfl rfl rfl rfl rfl rfl rfl ?_) | apply kK) | apply kL | ((first | apply kM | apply kN); (iterate 3 (· exact rfl)); (· first | exact ya)) | refine kO rfl rfl rfl rfl rfl ?_ | refine kP rfl rfl rfl ?_ | ((first | refine kQ rfl rfl ?_ ?_ | refine kR rfl rfl rfl rfl rfl ?_ ?_ | refine kS rfl rfl rfl ?_ ?_) <;> intro hc <;> (try simp only [KL, cond_true, cond_false, beq_iff_eq, bne_iff_ne, ne_eq, reduceCtorEq] at hc) <;> (try (have hT : True := hc; clear hT hc)) <;> (try (exfalso; omega))) | apply kT | apply kU | apply kV | apply kW | refine kX rfl ?_ | apply kY | apply kZ)
    exact ⟨k + 1, by omega, by omega, les, by rw [List.replicate_succ' (n := k)]; exact leh⟩
  · repeat' (first | (show W _ _ _ _ _ _; first | apply kA | refine kB rfl ?_ | refine kC rfl rfl ?_ | refine kD rfl rfl ?_ | apply kE | apply kF | apply kG | apply kH | refine kI (by kernel_rfl) (by kernel_rfl) ?_) | (show O _ _ _ _ _ _ _; first | (show O _ _ _ _ (⟨_, .store _ _ _, _, _, _, _⟩ :: _) _ _; refine kJ rfl rfl rfl rfl rfl rfl rfl rfl rfl rfl rfl ?_) | apply kK) | apply kL | ((first | apply kM | apply kN); (iterate 3 (· exact rfl)); (· first | exact ya)) | refine kO rfl rfl rfl rfl rfl ?_ | refine kP rfl rfl rfl ?_ | ((first | refine kQ rfl rfl ?_ ?_ | refine kR rfl rfl rfl rfl rfl ?_ ?_ | refine kS rfl rfl rfl ?_ ?_) <;> intro hc <;> (try simp only [KL, cond_true, cond_false, beq_iff_eq, bne_iff_ne, ne_eq, reduceCtorEq] at hc) <;> (try (have hT : True := hc; clear hT hc)) <;> (try (exfalso; omega))) | apply kT | apply kU | apply kV | apply kW | refine kX rfl ?_ | apply kY | apply kZ)
    all_goals first | (exfalso; omega) | skip
    refine retT (fun _ => turn_freeze (t := 2) rfl rfl rfl) ?_
    exact retq rfl rfl
def vI (w more : List Int) (i : Nat) : Int := if i < more.length ∧ w.getD i default < more.getD i default then more.getD i default else w.getD i default
end Go.Proofs.Ytffciebjpiljgaa
