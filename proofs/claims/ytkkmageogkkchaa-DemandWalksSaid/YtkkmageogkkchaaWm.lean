/- The document's walk of any choices, and all walks: what they weigh (plain). No condition. -/
import Derived.Test.YtkkmageogkkchaaWl
namespace Go.Proofs.Ytkkmageogkkchaa
set_option linter.unusedSimpArgs false
set_option linter.unusedVariables false
set_option maxRecDepth 100000
set_option linter.unusedSimpArgs false
set_option linter.unusedVariables false
set_option maxRecDepth 100000
open Go.RowKit
abbrev opA (p : List Instr) (j : Nat) : Int := (p.getD j default).op
/-- A Zero that may lead to two places. -/
def jmpB (p : List Instr) (j : Nat) : Bool := decide ((p.getD j default).op = 15 ∧ (p.getD j default).n ≠ (j : Int) + 1)
def walkL (p : List Instr) (ch : List Bool) : Nat → Nat → (Nat → Nat) → Nat → List Int × Bool
  | 0, _, _, _ => ([], false)
  | m + 1, j, T, k =>
    if opA p j = 21 then ([(j : Int)], true) else
      let b := decide (opA p j = 15) && ch.getD k false
      let r := walkL p ch m (nxtS p j T b).1 (nxtS p j T b).2 (if opA p j = 15 then k + 1 else k)
      ((j : Int) :: r.1, r.2)
theorem walkL_step (p : List Instr) (ch : List Bool) (m j : Nat) (T : Nat → Nat) (k : Nat) (h : opA p j ≠ 21) : walkL p ch (m + 1) j T k = ((j : Int) :: (walkL p ch m (nxtS p j T (decide (opA p j = 15) && ch.getD k false)).1 (nxtS p j T (decide (opA p j = 15) && ch.getD k false)).2 (if opA p j = 15 then k + 1 else k)).1, (walkL p ch m (nxtS p j T (decide (opA p j = 15) && ch.getD k false)).1 (nxtS p j T (decide (opA p j = 15) && ch.getD k false)).2 (if opA p j = 15 then k + 1 else k)).2) := by
  rw [walkL, if_neg h]
theorem walkL_done (p : List Instr) (ch : List Bool) (m j : Nat) (T : Nat → Nat) (k : Nat) (h : opA p j = 21) : walkL p ch (m + 1) j T k = ([(j : Int)], true) := by
  rw [walkL, if_pos h]
theorem walkL_len (p : List Instr) (ch : List Bool) : ∀ (m j : Nat) (T : Nat → Nat) (k : Nat), (walkL p ch m j T k).1.length ≤ m ∧ ((walkL p ch m j T k).2 = false → (walkL p ch m j T k).1.length = m)
  | 0, j, T, k => by simp [walkL]
  | m + 1, j, T, k => by
    by_cases h : opA p j = 21
    · rw [walkL_done _ _ _ _ _ _ h]; simp
    · rw [walkL_step _ _ _ _ _ _ h]
      have ih := walkL_len p ch m (nxtS p j T (decide (opA p j = 15) && ch.getD k false)).1 (nxtS p j T (decide (opA p j = 15) && ch.getD k false)).2 (if opA p j = 15 then k + 1 else k)
      simp only [List.length_cons]
      exact ⟨by omega, fun q => by have := ih.2 q; omega⟩
section
variable {p : List Instr}
theorem walkL_mem (hf : FineP p) (hn : ∀ i, 0 ≤ (p.getD i default).n) (ch : List Bool) : ∀ (m j : Nat) (T : Nat → Nat) (k : Nat), StI p j T → ∀ x ∈ (walkL p ch m j T k).1, 0 ≤ x ∧ x < p.length
  | 0, j, T, k, h => by simp [walkL]
  | m + 1, j, T, k, h => by
    have hlt := h.lt
    by_cases h21 : opA p j = 21
    · rw [walkL_done _ _ _ _ _ _ h21]
      intro x hx
      rw [List.mem_singleton.1 hx]; omega
    · rw [walkL_step _ _ _ _ _ _ h21]
      intro x hx
      rcases List.mem_cons.1 hx with rfl | hx
      · omega
      · exact walkL_mem hf hn ch m _ _ _ (nxt_st hf hn h h21 _) x hx
theorem walkL_last (hf : FineP p) (hn : ∀ i, 0 ≤ (p.getD i default).n) (ch : List Bool) : ∀ (m j : Nat) (T : Nat → Nat) (k : Nat), StI p j T → (walkL p ch m j T k).2 = true → ∃ x, (walkL p ch m j T k).1.getLast? = some x ∧ opA p x.toNat = 21
  | 0, j, T, k, h => by simp [walkL]
  | m + 1, j, T, k, h => by
    by_cases h21 : opA p j = 21
    · rw [walkL_done _ _ _ _ _ _ h21]
      intro _
      exact ⟨j, rfl, by simpa using h21⟩
    · rw [walkL_step _ _ _ _ _ _ h21]
      intro q
      obtain ⟨x, h1, h2⟩ := walkL_last hf hn ch m _ _ _ (nxt_st hf hn h h21 _) q
      refine ⟨x, ?_, h2⟩
      simp only
      rw [List.getLast?_cons, h1]; rfl
/-! What is left to weigh, as the program tells it. -/
def leftM (p : List Instr) (w : List Int) (j : Nat) (T : Nat → Nat) : Int := kap (phi maxR p (VG maxR (wtN w) p) (cOf p T) j)
def leftL (p : List Instr) (w : List Int) (j : Nat) (T : Nat → Nat) : Int := kap (phi minR p (VG minR (wtN w) p) (cOf p T) j)
def leftC (p : List Instr) (j : Nat) (T : Nat → Nat) : Nat := phi cntR p (VG cntR (fun _ => 1) p) (cOf p T) j
variable {w : List Int}
theorem leftM_B (hf : FineP p) (hn : ∀ i, 0 ≤ (p.getD i default).n) {j : Nat} (hj : j < p.length) (T : Nat → Nat) : 0 ≤ leftM p w j T ∧ leftM p w j T ≤ 1099511627776 := by
  obtain ⟨v, hv⟩ := phi_liv (c := cOf p T) (wt := wtN w) liv_max (fun pc => ⟨_, rfl⟩) hf hn hj
  rw [leftM, hv, kap_some]; omega
theorem leftL_B (hf : FineP p) (hn : ∀ i, 0 ≤ (p.getD i default).n) {j : Nat} (hj : j < p.length) (T : Nat → Nat) : 0 ≤ leftL p w j T ∧ leftL p w j T ≤ 1099511627776 := by
  obtain ⟨v, hv⟩ := phi_liv (c := cOf p T) (wt := wtN w) liv_min (fun pc => ⟨_, rfl⟩) hf hn hj
  rw [leftL, hv, kap_some]; omega
theorem leftC_pos (hf : FineP p) (hn : ∀ i, 0 ≤ (p.getD i default).n) {j : Nat} (hj : j < p.length) (T : Nat → Nat) : 1 ≤ leftC p j T := phi_liv (L := fun a => 1 ≤ a) liv_cnt (fun pc => Nat.le_refl _) hf hn hj
theorem add_wAt (s : Int) (w : List Int) (j : Nat) : addI s (w.getD j default) = addI s (wAt w j) := by
  unfold addI wAt insI; omega
theorem addI_B (a b : Int) : 0 ≤ addI a b ∧ addI a b ≤ 1099511627776 := addB a b
theorem leftM_done (hf : FineP p) (hn : ∀ i, 0 ≤ (p.getD i default).n) {j : Nat} {T : Nat → Nat} (hj : j < p.length) (h21 : opA p j = 21) : leftM p w j T = wAt w j := by
  rw [leftM, phi_done maxR hf hn (VG_isV maxR (wtN w) hf hn) hj h21, kap_wt]
theorem leftL_done (hf : FineP p) (hn : ∀ i, 0 ≤ (p.getD i default).n) {j : Nat} {T : Nat → Nat} (hj : j < p.length) (h21 : opA p j = 21) : leftL p w j T = wAt w j := by
  rw [leftL, phi_done minR hf hn (VG_isV minR (wtN w) hf hn) hj h21, kap_wt]
theorem leftC_done (hf : FineP p) (hn : ∀ i, 0 ≤ (p.getD i default).n) {j : Nat} {T : Nat → Nat} (hj : j < p.length) (h21 : opA p j = 21) : leftC p j T = 1 := phi_done cntR hf hn (VG_isV cntR (fun _ => 1) hf hn) hj h21
theorem leftM_some (hf : FineP p) (hn : ∀ i, 0 ≤ (p.getD i default).n) {j : Nat} {T : Nat → Nat} (h : StI p j T) (h21 : opA p j ≠ 21) (b : Bool) : addI (wAt w j) (leftM p w (nxtS p j T b).1 (nxtS p j T b).2) ≤ leftM p w j T := by
  obtain ⟨x, hx⟩ := phi_some maxR hf hn (wt := wtN w) h h21 b
  have hB := leftM_B (w := w) hf hn (nxt_st hf hn h h21 b).lt (nxtS p j T b).2
  have hw := wAt_ok w j
  have hk := kap_B x
  have e : leftM p w j T = bestI max (moreI (wAt w j) (leftM p w (nxtS p j T b).1 (nxtS p j T b).2)) (kap x) := by
    rw [leftM, hx, show maxR.add = bo max from rfl, kap_max, show maxR.mul = po from rfl, kap_po, kap_wt]; rfl
  rw [e, more_pos hw.1 hB.1]
  have := addI_B (wAt w j) (leftM p w (nxtS p j T b).1 (nxtS p j T b).2)
  unfold bestI
  (repeat' split) <;> omega
theorem leftL_some (hf : FineP p) (hn : ∀ i, 0 ≤ (p.getD i default).n) {j : Nat} {T : Nat → Nat} (h : StI p j T) (h21 : opA p j ≠ 21) (b : Bool) : leftL p w j T ≤ addI (wAt w j) (leftL p w (nxtS p j T b).1 (nxtS p j T b).2) := by
  obtain ⟨x, hx⟩ := phi_some minR hf hn (wt := wtN w) h h21 b
  have hB := leftL_B (w := w) hf hn (nxt_st hf hn h h21 b).lt (nxtS p j T b).2
  have hw := wAt_ok w j
  have hk := kap_B x
  have e : leftL p w j T = bestI min (moreI (wAt w j) (leftL p w (nxtS p j T b).1 (nxtS p j T b).2)) (kap x) := by
    rw [leftL, hx, show minR.add = bo min from rfl, kap_min, show minR.mul = po from rfl, kap_po, kap_wt]; rfl
  rw [e, more_pos hw.1 hB.1]
  have := addI_B (wAt w j) (leftL p w (nxtS p j T b).1 (nxtS p j T b).2)
  unfold bestI
  (repeat' split) <;> omega
theorem leftM_next (hf : FineP p) (hn : ∀ i, 0 ≤ (p.getD i default).n) {j : Nat} {T : Nat → Nat} (h : StI p j T) (h21 : opA p j ≠ 21) :
    leftM p w j T = addI (wAt w j) (if jmpB p j = true then max (leftM p w (nxtS p j T true).1 (nxtS p j T true).2) (leftM p w (nxtS p j T false).1 (nxtS p j T false).2) else leftM p w (nxtS p j T false).1 (nxtS p j T false).2) := by
  have hx := phi_next maxR hf hn (wt := wtN w) h h21
  have hB := leftM_B (w := w) hf hn (nxt_st hf hn h h21 true).lt (nxtS p j T true).2
  have hB' := leftM_B (w := w) hf hn (nxt_st hf hn h h21 false).lt (nxtS p j T false).2
  have hw := wAt_ok w j
  have f1 : kap (phi maxR p (VG maxR (wtN w) p) (cOf p (nxtS p j T true).2) (nxtS p j T true).1) = leftM p w (nxtS p j T true).1 (nxtS p j T true).2 := rfl
  have f2 : kap (phi maxR p (VG maxR (wtN w) p) (cOf p (nxtS p j T false).2) (nxtS p j T false).1) = leftM p w (nxtS p j T false).1 (nxtS p j T false).2 := rfl
  rw [leftM, hx, show maxR.mul = po from rfl, kap_po, kap_wt, show maxR.add = bo max from rfl]
  by_cases hj : (p.getD j default).op = 15 ∧ (p.getD j default).n ≠ (j : Int) + 1
  · rw [if_pos hj, if_pos (show jmpB p j = true from decide_eq_true hj), kap_max, f1, f2, bestI, if_neg (by omega), if_neg (by omega), more_pos hw.1 (by omega)]
  · rw [if_neg hj, if_neg (show ¬ jmpB p j = true from fun e => hj (of_decide_eq_true e)), f2]
    exact more_pos hw.1 hB'.1
theorem leftL_next (hf : FineP p) (hn : ∀ i, 0 ≤ (p.getD i default).n) {j : Nat} {T : Nat → Nat} (h : StI p j T) (h21 : opA p j ≠ 21) :
    leftL p w j T = addI (wAt w j) (if jmpB p j = true then min (leftL p w (nxtS p j T true).1 (nxtS p j T true).2) (leftL p w (nxtS p j T false).1 (nxtS p j T false).2) else leftL p w (nxtS p j T false).1 (nxtS p j T false).2) := by
  have hx := phi_next minR hf hn (wt := wtN w) h h21
  have hB := leftL_B (w := w) hf hn (nxt_st hf hn h h21 true).lt (nxtS p j T true).2
  have hB' := leftL_B (w := w) hf hn (nxt_st hf hn h h21 false).lt (nxtS p j T false).2
  have hw := wAt_ok w j
  have f1 : kap (phi minR p (VG minR (wtN w) p) (cOf p (nxtS p j T true).2) (nxtS p j T true).1) = leftL p w (nxtS p j T true).1 (nxtS p j T true).2 := rfl
  have f2 : kap (phi minR p (VG minR (wtN w) p) (cOf p (nxtS p j T false).2) (nxtS p j T false).1) = leftL p w (nxtS p j T false).1 (nxtS p j T false).2 := rfl
  rw [leftL, hx, show minR.mul = po from rfl, kap_po, kap_wt, show minR.add = bo min from rfl]
  by_cases hj : (p.getD j default).op = 15 ∧ (p.getD j default).n ≠ (j : Int) + 1
  · rw [if_pos hj, if_pos (show jmpB p j = true from decide_eq_true hj), kap_min, f1, f2, bestI, if_neg (by omega), if_neg (by omega), more_pos hw.1 (by omega)]
  · rw [if_neg hj, if_neg (show ¬ jmpB p j = true from fun e => hj (of_decide_eq_true e)), f2]
    exact more_pos hw.1 hB'.1
theorem leftC_next (hf : FineP p) (hn : ∀ i, 0 ≤ (p.getD i default).n) {j : Nat} {T : Nat → Nat} (h : StI p j T) (h21 : opA p j ≠ 21) :
    leftC p j T = (if jmpB p j = true then leftC p (nxtS p j T true).1 (nxtS p j T true).2 + leftC p (nxtS p j T false).1 (nxtS p j T false).2 else leftC p (nxtS p j T false).1 (nxtS p j T false).2) := by
  rw [leftC, phi_next cntR hf hn h h21]
  by_cases hj : (p.getD j default).op = 15 ∧ (p.getD j default).n ≠ (j : Int) + 1
  · rw [if_pos hj, if_pos (show jmpB p j = true from decide_eq_true hj)]
    show 1 * _ = _
    rw [Nat.one_mul]; rfl
  · rw [if_neg hj, if_neg (show ¬ jmpB p j = true from fun e => hj (of_decide_eq_true e))]
    show 1 * _ = _
    rw [Nat.one_mul]; rfl
theorem addI_assoc (a b c : Int) : addI (addI a b) c = addI a (addI b c) := by unfold addI insI; omega
theorem addI_mono {a b b' : Int} (h : b ≤ b') : addI a b ≤ addI a b' := by unfold addI insI; omega
theorem addI_self {a : Int} (h : 0 ≤ a) (h' : a ≤ 1099511627776) (b : Int) : a ≤ addI a b := by unfold addI insI; omega
def sumW (w : List Int) (s : Int) (l : List Int) : Int := l.foldl (fun s x => addI s (w.getD x.toNat default)) s
/-- No walk weighs more than is told, and none that ends weighs less. -/
theorem walk_most (hf : FineP p) (hn : ∀ i, 0 ≤ (p.getD i default).n) (ch : List Bool) : ∀ (m j : Nat) (T : Nat → Nat) (k : Nat) (s : Int), StI p j T → 0 ≤ s → s ≤ 1099511627776 → sumW w s (walkL p ch m j T k).1 ≤ addI s (leftM p w j T)
  | 0, j, T, k, s, h, h0, h1 => by simp only [walkL, sumW, List.foldl_nil]; exact addI_self h0 h1 _
  | m + 1, j, T, k, s, h, h0, h1 => by
    by_cases h21 : opA p j = 21
    · rw [walkL_done _ _ _ _ _ _ h21, leftM_done hf hn h.lt h21]
      simp only [sumW, List.foldl_cons, List.foldl_nil, Int.toNat_natCast]
      rw [add_wAt]; exact Int.le_refl _
    · rw [walkL_step _ _ _ _ _ _ h21]
      have hB := addI_B s (w.getD j default)
      have ih := walk_most hf hn ch m (nxtS p j T (decide (opA p j = 15) && ch.getD k false)).1 (nxtS p j T (decide (opA p j = 15) && ch.getD k false)).2 (if opA p j = 15 then k + 1 else k) (addI s (w.getD j default)) (nxt_st hf hn h h21 _) hB.1 hB.2
      have h2 := addI_mono (a := s) (leftM_some (w := w) hf hn h h21 (decide (opA p j = 15) && ch.getD k false))
      rw [add_wAt, addI_assoc] at ih
      unfold sumW at ih ⊢
      simp only [List.foldl_cons, Int.toNat_natCast]
      rw [add_wAt]
      omega
theorem walk_least (hf : FineP p) (hn : ∀ i, 0 ≤ (p.getD i default).n) (ch : List Bool) : ∀ (m j : Nat) (T : Nat → Nat) (k : Nat) (s : Int), StI p j T → 0 ≤ s → s ≤ 1099511627776 → (walkL p ch m j T k).2 = true → addI s (leftL p w j T) ≤ sumW w s (walkL p ch m j T k).1
  | 0, j, T, k, s, h, h0, h1 => by simp [walkL]
  | m + 1, j, T, k, s, h, h0, h1 => by
    by_cases h21 : opA p j = 21
    · rw [walkL_done _ _ _ _ _ _ h21, leftL_done hf hn h.lt h21]
      simp only [sumW, List.foldl_cons, List.foldl_nil, Int.toNat_natCast]
      rw [add_wAt]; exact fun _ => Int.le_refl _
    · rw [walkL_step _ _ _ _ _ _ h21]
      intro hq
      have hB := addI_B s (w.getD j default)
      have ih := walk_least hf hn ch m (nxtS p j T (decide (opA p j = 15) && ch.getD k false)).1 (nxtS p j T (decide (opA p j = 15) && ch.getD k false)).2 (if opA p j = 15 then k + 1 else k) (addI s (w.getD j default)) (nxt_st hf hn h h21 _) hB.1 hB.2 hq
      have h2 := addI_mono (a := s) (leftL_some (w := w) hf hn h h21 (decide (opA p j = 15) && ch.getD k false))
      rw [add_wAt, addI_assoc] at ih
      unfold sumW at ih ⊢
      simp only [List.foldl_cons, Int.toNat_natCast]
      rw [add_wAt]
      omega
end
/-! All walks. -/
structure Sn where
  cnt : Int
  mx : Int
  mn : Int
  left : Int
def visit (x : Sn) (s : Int) : Sn := ⟨x.cnt + 1, if x.cnt = 0 ∨ x.mx < s then s else x.mx, if x.cnt = 0 ∨ s < x.mn then s else x.mn, x.left⟩
def tick (x : Sn) : Sn := { x with left := x.left - 1 }
def fol (p : List Instr) (w : List Int) : Nat → Sn → Nat → (Nat → Nat) → Int → Sn
  | 0, x, _, _, _ => x
  | n + 1, x, j, T, s =>
    if x.left ≤ 0 then x else
    if opA p j = 21 then visit (tick x) (addI s (w.getD j default)) else
    fol p w n (if jmpB p j = true then fol p w n (tick x) (nxtS p j T true).1 (nxtS p j T true).2 (addI s (w.getD j default)) else tick x) (nxtS p j T false).1 (nxtS p j T false).2 (addI s (w.getD j default))
theorem fol_B (p : List Instr) (w : List Int) : ∀ (n : Nat) (x : Sn) (j : Nat) (T : Nat → Nat) (s : Int), 0 ≤ x.left → 0 ≤ x.cnt → 0 ≤ (fol p w n x j T s).left ∧ (fol p w n x j T s).left ≤ x.left ∧ x.cnt ≤ (fol p w n x j T s).cnt ∧ (fol p w n x j T s).cnt + (fol p w n x j T s).left ≤ x.cnt + x.left
  | 0, x, j, T, s, h, h' => by rw [fol]; omega
  | n + 1, x, j, T, s, h, h' => by
    rw [fol]
    split
    · omega
    · split
      · simp only [visit, tick]; omega
      · have h1 : 0 ≤ (tick x).left := by simp only [tick]; omega
        have e1 : (tick x).left = x.left - 1 := rfl
        have e2 : (tick x).cnt = x.cnt := rfl
        have h2 := fol_B p w n (tick x) (nxtS p j T true).1 (nxtS p j T true).2 (addI s (w.getD j default)) h1 h'
        split
        · have := fol_B p w n (fol p w n (tick x) (nxtS p j T true).1 (nxtS p j T true).2 (addI s (w.getD j default))) (nxtS p j T false).1 (nxtS p j T false).2 (addI s (w.getD j default)) h2.1 (by omega)
          omega
        · have := fol_B p w n (tick x) (nxtS p j T false).1 (nxtS p j T false).2 (addI s (w.getD j default)) h1 h'
          omega
theorem fol_stop (p : List Instr) (w : List Int) (n : Nat) (x : Sn) (j : Nat) (T : Nat → Nat) (s : Int) (h : x.left ≤ 0) : fol p w n x j T s = x := by
  cases n with
  | zero => rfl
  | succ n => rw [fol, if_pos h]
theorem fol_fuel (p : List Instr) (w : List Int) : ∀ (n n' : Nat) (x : Sn) (j : Nat) (T : Nat → Nat) (s : Int), 0 ≤ x.left → 0 ≤ x.cnt → x.left ≤ n → x.left ≤ n' → fol p w n x j T s = fol p w n' x j T s
  | 0, n', x, j, T, s, h0, hc, h, h' => by rw [fol_stop _ _ _ _ _ _ _ (by omega), fol_stop _ _ _ _ _ _ _ (by omega)]
  | n + 1, 0, x, j, T, s, h0, hc, h, h' => by rw [fol_stop _ _ _ _ _ _ _ (by omega), fol_stop _ _ _ _ _ _ _ (by omega)]
  | n + 1, n' + 1, x, j, T, s, h0, hc, h, h' => by
    rw [fol, fol]
    split
    · rfl
    · split
      · rfl
      · have h1 : 0 ≤ (tick x).left := by simp only [tick]; omega
        have e1 : (tick x).left = x.left - 1 := rfl
        have e2 : (tick x).cnt = x.cnt := rfl
        have hB := fol_B p w n' (tick x) (nxtS p j T true).1 (nxtS p j T true).2 (addI s (w.getD j default)) h1 hc
        rw [fol_fuel p w n n' (tick x) (nxtS p j T true).1 (nxtS p j T true).2 _ h1 hc (by omega) (by omega)]
        split
        · exact fol_fuel p w n n' _ _ _ _ hB.1 (by omega) (by omega) (by omega)
        · exact fol_fuel p w n n' _ _ _ _ h1 hc (by omega) (by omega)
section
variable {p : List Instr} {w : List Int}
/-- All walks from a spot on, if the steps do. -/
theorem fol_all (hf : FineP p) (hn : ∀ i, 0 ≤ (p.getD i default).n) : ∀ (n : Nat) (x : Sn) (j : Nat) (T : Nat → Nat) (s : Int), x.left ≤ n → 0 ≤ x.left → 0 ≤ x.cnt → StI p j T → 0 ≤ s → s ≤ 1099511627776 → 0 < (fol p w n x j T s).left →
    (fol p w n x j T s).cnt = x.cnt + leftC p j T ∧ (fol p w n x j T s).mx = (if x.cnt = 0 then addI s (leftM p w j T) else max x.mx (addI s (leftM p w j T))) ∧ (fol p w n x j T s).mn = (if x.cnt = 0 then addI s (leftL p w j T) else min x.mn (addI s (leftL p w j T)))
  | 0, x, j, T, s, hl, h0, hc, h, hs, hs', hr => by rw [fol] at hr; omega
  | n + 1, x, j, T, s, hl, h0, hc, h, hs, hs', hr => by
    rw [fol] at hr ⊢
    by_cases hx : x.left ≤ 0
    · rw [if_pos hx] at hr; omega
    rw [if_neg hx] at hr ⊢
    by_cases h21 : opA p j = 21
    · rw [if_pos h21] at hr ⊢
      rw [leftC_done hf hn h.lt h21, leftM_done hf hn h.lt h21, leftL_done hf hn h.lt h21, ← add_wAt]
      simp only [visit, tick]
      refine ⟨rfl, ?_, ?_⟩
      · (repeat' split) <;> omega
      · (repeat' split) <;> omega
    rw [if_neg h21] at hr ⊢
    have hB := addI_B s (w.getD j default)
    have e0 := add_wAt s w j
    generalize addI s (w.getD j default) = s1 at *
    have h1 : 0 ≤ (tick x).left := by simp only [tick]; omega
    have e1 : (tick x).left = x.left - 1 := rfl
    have e2 : (tick x).cnt = x.cnt := rfl
    have e3 : (tick x).mx = x.mx := rfl
    have e4 : (tick x).mn = x.mn := rfl
    generalize tick x = x1 at *
    have t1 := nxt_st hf hn h h21 true
    have t2 := nxt_st hf hn h h21 false
    have f1 := fol_B p w n x1 (nxtS p j T true).1 (nxtS p j T true).2 s1 h1 (by omega)
    have g1 := fol_all hf hn n x1 (nxtS p j T true).1 (nxtS p j T true).2 s1 (by omega) h1 (by omega) t1 hB.1 hB.2
    have p1 := leftC_pos hf hn t1.lt (nxtS p j T true).2
    rw [leftC_next hf hn h h21, leftM_next hf hn h h21, leftL_next hf hn h h21, ← addI_assoc, ← addI_assoc, ← e0]
    by_cases hj : jmpB p j = true
    · rw [if_pos hj] at hr ⊢
      rw [if_pos hj, if_pos hj, if_pos hj]
      generalize fol p w n x1 (nxtS p j T true).1 (nxtS p j T true).2 s1 = x2 at *
      have f2 := fol_B p w n x2 (nxtS p j T false).1 (nxtS p j T false).2 s1 (by omega) (by omega)
      obtain ⟨a1, a2, a3⟩ := fol_all hf hn n x2 (nxtS p j T false).1 (nxtS p j T false).2 s1 (by omega) (by omega) (by omega) t2 hB.1 hB.2 hr
      obtain ⟨b1, b2, b3⟩ := g1 (by omega)
      have hx2 : ¬ x2.cnt = 0 := by omega
      rw [if_neg hx2] at a2 a3
      rw [b2] at a2
      rw [b3] at a3
      rw [a1, a2, a3, b1, e2, e3, e4]
      have m1 : ∀ a b, addI s1 (max a b) = max (addI s1 a) (addI s1 b) := fun a b => by unfold addI insI; omega
      have m2 : ∀ a b, addI s1 (min a b) = min (addI s1 a) (addI s1 b) := fun a b => by unfold addI insI; omega
      rw [m1, m2]
      refine ⟨by omega, ?_, ?_⟩
      · by_cases hq : x.cnt = 0
        · rw [if_pos hq, if_pos hq]
        · rw [if_neg hq, if_neg hq]; omega
      · by_cases hq : x.cnt = 0
        · rw [if_pos hq, if_pos hq]
        · rw [if_neg hq, if_neg hq]; omega
    · rw [if_neg hj] at hr ⊢
      rw [if_neg hj, if_neg hj, if_neg hj]
      obtain ⟨a1, a2, a3⟩ := fol_all hf hn n x1 (nxtS p j T false).1 (nxtS p j T false).2 s1 (by omega) h1 (by omega) t2 hB.1 hB.2 hr
      rw [a1, a2, a3, e2, e3, e4]
      exact ⟨rfl, rfl, rfl⟩
end
end Go.Proofs.Ytkkmageogkkchaa
