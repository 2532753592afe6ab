/- What alu.Do, alu.Is, alu.Swaps, alu.Rest and the reference's Do compute, as plain functions; no condition. -/
import Derived.Test.YtffciebjpiljgaaBase
namespace Go.Proofs.Ytffciebjpiljgaa
set_option linter.unusedSimpArgs false
set_option linter.unusedVariables false
set_option maxRecDepth 100000
open Go.RowKit

/-- The word that a kind makes of two words. -/
def aluW (op b c : Int) : Int :=
  if op = 3 then (b + c) % 4294967296 else if op = 4 then (b - c) % 4294967296 else if op = 5 then (b * c) % 4294967296 else if op = 6 then ((b.toNat &&& c.toNat : Nat) : Int) else if op = 7 then ((b.toNat ||| c.toNat : Nat) : Int)
  else if op = 8 then ((b.toNat ^^^ c.toNat : Nat) : Int) else if op = 9 then (if b < c then 1 else 0) else if op = 10 then (if b = c then 1 else 0) else 0
def aluIs (op : Int) : Bool := decide (3 ≤ op ∧ op ≤ 10)

theorem aluIs_any (op : Int) (w : World) : Calls Try.prog 121 #[.int .i64 op] w fun e w' => e = .returned (.bool (aluIs op)) ∧ w = w' := by
  by_cases h1 : 3 ≤ op
  · by_cases h2 : op ≤ 10
    · go_enter Try.func121, Try.ntmps121
      go_wp2
      go_ret
      exact ⟨by simp [aluIs, h1, h2], rfl⟩
    · go_enter Try.func121, Try.ntmps121
      go_wp2
      go_ret
      exact ⟨by simp [aluIs, h1, h2], rfl⟩
  · go_enter Try.func121, Try.ntmps121
    go_wp2
    go_ret
    exact ⟨rbool (by simp [aluIs]; omega), rfl⟩

set_option maxHeartbeats 400000 in
theorem aluDo_any (op b c : Int) (w : World) (hb : 0 ≤ b) (hb' : b < 4294967296) (hc : 0 ≤ c) (hc' : c < 4294967296) :
    Calls Try.prog 100 #[.int .i64 op, .int .u32 b, .int .u32 c] w fun e w' => e = .returned (.tuple #[.int .u32 (aluW op b c), .bool (aluIs op)]) ∧ w = w' := by
  have ha := u32_and b c hb hb' hc hc'
  have ho := u32_or b c hb hb' hc hc'
  have hx := u32_xor b c hb hb' hc hc'
  by_cases h3 : op = 3
  · subst h3; go_enter Try.func100, Try.ntmps100; go_wp2_with (first | (go_at_call 121; refine (aluIs_any _ _).mono ?_; rintro e w' ⟨rfl, rfl⟩)); go_ret2; exact ⟨ret2 (vint (by simp [aluW])) rfl, rfl⟩
  by_cases h4 : op = 4
  · subst h4; go_enter Try.func100, Try.ntmps100; go_wp2_with (first | (go_at_call 121; refine (aluIs_any _ _).mono ?_; rintro e w' ⟨rfl, rfl⟩)); go_ret2; exact ⟨ret2 (vint (by simp [aluW])) rfl, rfl⟩
  by_cases h5 : op = 5
  · subst h5; go_enter Try.func100, Try.ntmps100; go_wp2_with (first | (go_at_call 121; refine (aluIs_any _ _).mono ?_; rintro e w' ⟨rfl, rfl⟩)); go_ret2; exact ⟨ret2 (vint (by simp [aluW])) rfl, rfl⟩
  by_cases h6 : op = 6
  · subst h6; go_enter Try.func100, Try.ntmps100; go_wp2_with (first | (go_at_call 121; refine (aluIs_any _ _).mono ?_; rintro e w' ⟨rfl, rfl⟩)); go_ret2; exact ⟨ret2 (vint (by simp [aluW, ha])) rfl, rfl⟩
  by_cases h7 : op = 7
  · subst h7; go_enter Try.func100, Try.ntmps100; go_wp2_with (first | (go_at_call 121; refine (aluIs_any _ _).mono ?_; rintro e w' ⟨rfl, rfl⟩)); go_ret2; exact ⟨ret2 (vint (by simp [aluW, ho])) rfl, rfl⟩
  by_cases h8 : op = 8
  · subst h8; go_enter Try.func100, Try.ntmps100; go_wp2_with (first | (go_at_call 121; refine (aluIs_any _ _).mono ?_; rintro e w' ⟨rfl, rfl⟩)); go_ret2; exact ⟨ret2 (vint (by simp [aluW, hx])) rfl, rfl⟩
  clear ha ho hx
  by_cases h9 : op = 9
  · subst h9
    by_cases hbc : b < c
    · go_enter Try.func100, Try.ntmps100; go_wp2_with (first | (go_at_call 121; refine (aluIs_any _ _).mono ?_; rintro e w' ⟨rfl, rfl⟩) | go_in); go_ret2; exact ⟨ret2 (vint (by simp [aluW, hbc])) rfl, rfl⟩
    · go_enter Try.func100, Try.ntmps100; go_wp2_with (first | (go_at_call 121; refine (aluIs_any _ _).mono ?_; rintro e w' ⟨rfl, rfl⟩) | go_in); go_ret2; exact ⟨ret2 (vint (by simp [aluW, hbc])) rfl, rfl⟩
  by_cases h10 : op = 10
  · subst h10
    by_cases hbc : b = c
    · have e1 : (b == c) = true := by simp [hbc]
      have hbc' := hide hbc; clear hbc
      go_enter Try.func100, Try.ntmps100; go_wp2_with (first | (go_at_call 121; refine (aluIs_any _ _).mono ?_; rintro e w' ⟨rfl, rfl⟩) | go_in); go_ret2; exact ⟨ret2 (vint (by simp [aluW, hbc'.out])) rfl, rfl⟩
    · have e1 : (b == c) = false := by simp [hbc]
      go_enter Try.func100, Try.ntmps100; go_wp2_with (first | (go_at_call 121; refine (aluIs_any _ _).mono ?_; rintro e w' ⟨rfl, rfl⟩) | go_in); go_ret2; exact ⟨ret2 (vint (by simp [aluW, hbc])) rfl, rfl⟩
  · go_enter Try.func100, Try.ntmps100; go_wp2_with (first | (go_at_call 121; refine (aluIs_any _ _).mono ?_; rintro e w' ⟨rfl, rfl⟩) | go_in); go_ret2; exact ⟨ret2 (vint (by simp [aluW, h3, h4, h5, h6, h7, h8, h9, h10])) rfl, rfl⟩

/-! ## The reference: bit by bit -/
/-- The bit that a kind makes of two bits. -/
def bitOf (op p q : Nat) : Nat := if op = 6 then p * q else if op = 7 then p + q - p * q else (p + q) % 2
/-- The lowest k bits of what a kind makes. -/
def low (op x y : Nat) : Nat → Nat
  | 0 => 0
  | k + 1 => low op x y k + 2 ^ k * bitOf op (x / 2 ^ k % 2) (y / 2 ^ k % 2)

theorem tb (x k : Nat) : x.testBit k = decide (x / 2 ^ k % 2 = 1) := Nat.testBit_eq_decide_div_mod_eq
theorem low_step (z k b : Nat) (h : z / 2 ^ k % 2 = b) : z % 2 ^ k + 2 ^ k * b = z % 2 ^ (k + 1) := by rw [Nat.mod_pow_succ, h]
theorem bit_cases (x k : Nat) : x / 2 ^ k % 2 = 0 ∨ x / 2 ^ k % 2 = 1 := by omega
theorem and_bit (x y k : Nat) : (x &&& y) / 2 ^ k % 2 = bitOf 6 (x / 2 ^ k % 2) (y / 2 ^ k % 2) := by
  have h : (x &&& y).testBit k = (x.testBit k && y.testBit k) := Nat.testBit_and ..
  rw [tb, tb, tb] at h
  rcases bit_cases (x &&& y) k with a | a <;> rcases bit_cases x k with b | b <;> rcases bit_cases y k with c | c <;> simp [a, b, c] at h <;> simp [a, b, c, bitOf]
theorem or_bit (x y k : Nat) : (x ||| y) / 2 ^ k % 2 = bitOf 7 (x / 2 ^ k % 2) (y / 2 ^ k % 2) := by
  have h : (x ||| y).testBit k = (x.testBit k || y.testBit k) := Nat.testBit_or ..
  rw [tb, tb, tb] at h
  rcases bit_cases (x ||| y) k with a | a <;> rcases bit_cases x k with b | b <;> rcases bit_cases y k with c | c <;> simp [a, b, c] at h <;> simp [a, b, c, bitOf]
theorem xor_bit (x y k : Nat) : (x ^^^ y) / 2 ^ k % 2 = bitOf 8 (x / 2 ^ k % 2) (y / 2 ^ k % 2) := by
  have h : (x ^^^ y).testBit k = (x.testBit k ^^ y.testBit k) := Nat.testBit_xor ..
  rw [tb, tb, tb] at h
  rcases bit_cases (x ^^^ y) k with a | a <;> rcases bit_cases x k with b | b <;> rcases bit_cases y k with c | c <;> simp [a, b, c] at h <;> simp [a, b, c, bitOf]
theorem low_of (op x y z : Nat) (h : ∀ k, z / 2 ^ k % 2 = bitOf op (x / 2 ^ k % 2) (y / 2 ^ k % 2)) : ∀ k, low op x y k = z % 2 ^ k
  | 0 => by simp [low, Nat.mod_one]
  | k + 1 => by rw [low, low_of op x y z h k, low_step _ _ _ (h k)]
theorem low_32 (op x y z : Nat) (h : ∀ k, z / 2 ^ k % 2 = bitOf op (x / 2 ^ k % 2) (y / 2 ^ k % 2)) (hz : z < 4294967296) : low op x y 32 = z := by
  rw [low_of op x y z h]; exact Nat.mod_eq_of_lt hz

/-- What is done in one round of the reference's loop. -/
theorem half (x k : Nat) : x / 2 ^ k / 2 = x / 2 ^ (k + 1) := by rw [Nat.div_div_eq_div_mul, Nat.pow_succ]
theorem lowB (op x y k : Nat) (h : op = 6 ∨ op = 7 ∨ op = 8) : low op x y k < 2 ^ k := by
  induction k with
  | zero => simp [low]
  | succ k ih =>
    rw [low, Nat.pow_succ]
    have hb : bitOf op (x / 2 ^ k % 2) (y / 2 ^ k % 2) ≤ 1 := by
      rcases bit_cases x k with b | b <;> rcases bit_cases y k with c | c <;> rcases h with rfl | rfl | rfl <;> simp [b, c, bitOf]
    have := Nat.mul_le_mul_left (2 ^ k) hb
    omega

theorem p32 {k : Nat} (h : k < 32) : 2 ^ k ≤ 2147483648 := by
  have := Nat.pow_le_pow_right (n := 2) (by decide) (show k ≤ 31 by omega)
  simpa using this

/-- One round of the reference's loop: what the slots hold. -/
def slots (op x y k : Nat) (vx vy vw vb vi : Value) : Prop :=
  ∃ X Y B W : Nat, X = x / 2 ^ k ∧ Y = y / 2 ^ k ∧ B = 2 ^ k ∧ W = low op x y k ∧ vi = .int .i64 k ∧ vx = .int .u64 (X : Int) ∧ vy = .int .u64 (Y : Int) ∧ vb = .int .u64 (B : Int) ∧ vw = .int .u64 (W : Int)

theorem slots_next {op x y k : Nat} {vx vy vw vb vi : Value} {X Y B W D : Nat} (hX : X = x / 2 ^ k) (hY : Y = y / 2 ^ k) (hB : B = 2 ^ k) (hW : W = low op x y k) (hD : D = bitOf op (X % 2) (Y % 2))
    (h1 : vx = .int .u64 ((X : Int) / 2)) (h2 : vy = .int .u64 ((Y : Int) / 2)) (h3 : vw = .int .u64 ((W : Int) + B * D)) (h4 : vb = .int .u64 (2 * (B : Int))) (h5 : vi = .int .i64 ((k : Int) + 1)) :
    slots op x y (k + 1) vx vy vw vb vi := by
  subst h1 h2 h3 h4 h5
  refine ⟨_, _, _, _, rfl, rfl, rfl, rfl, vint (by omega), vint ?_, vint ?_, vint ?_, vint ?_⟩
  · rw [← half, ← hX]; omega
  · rw [← half, ← hY]; omega
  · rw [Nat.pow_succ, ← hB]; omega
  · rw [low, ← hX, ← hY, ← hB, ← hW, ← hD]; simp

set_option maxHeartbeats 1000000 in
theorem refDo_6 (x y : Nat) (w : World) (hx : x < 4294967296) (hy : y < 4294967296) :
    Calls Try.prog 70 #[.int .i64 6, .int .u32 (x : Int), .int .u32 (y : Int)] w fun e w' => e = .returned (.tuple #[.int .u32 (aluW 6 x y), .bool (aluIs 6)]) ∧ w = w' := by
  have hfin : ((low 6 x y 32 : Nat) : Int) = aluW 6 x y := by
    rw [low_32 6 x y _ (and_bit x y) (Nat.lt_of_le_of_lt Nat.and_le_left hx)]; simp [aluW]
  have Hfin := hide hfin; clear hfin
  go_enter Try.func70, Try.ntmps70
  go_wp2
  go_loop [8, 9, 10, 11, 12] (fun vx vy vw vb vi => ∃ k : Nat, k ≤ 32 ∧ slots 6 x y k vx vy vw vb vi) (fun _ _ _ _ i => 32 - (intOf i).toNat)
  case atStart => exact ⟨0, by omega, x, y, 1, 0, by simp, by simp, by simp, by simp [low], rfl, rfl, rfl, rfl, rfl⟩
  case round =>
    obtain ⟨k, hk, X, Y, B, W, hX, hY, hB, hW, rfl, rfl, rfl, rfl, rfl⟩ := hrel
    by_cases hlt : k < 32
    · skip
      have hXl : X < 4294967296 := by rw [hX]; exact Nat.lt_of_le_of_lt (Nat.div_le_self _ _) hx
      have hYl : Y < 4294967296 := by rw [hY]; exact Nat.lt_of_le_of_lt (Nat.div_le_self _ _) hy
      have hBl : B ≤ 2147483648 := by rw [hB]; exact p32 hlt
      have hWl : W < B := by rw [hB, hW]; exact lowB _ x y k (by omega)
      have HX := hide hX; have HY := hide hY; have HB := hide hB; have HW := hide hW
      clear hX hY hB hW
      rcases (by omega : X % 2 = 0 ∨ X % 2 = 1) with h1 | h1 <;> rcases (by omega : Y % 2 = 0 ∨ Y % 2 = 1) with h2 | h2
      all_goals
        have H1 := hide h1; have H2 := hide h2
        have g1 : (X : Int) % 2 = ((X % 2 : Nat) : Int) := by omega
        have g2 : (Y : Int) % 2 = ((Y % 2 : Nat) : Int) := by omega
        rw [h1] at g1; rw [h2] at g2
        clear h1 h2
        go_wp2
        go_round
        case rel => exact ⟨k + 1, by omega, slots_next HX.out HY.out HB.out HW.out (by rw [H1.out, H2.out]) rfl rfl (vint (by simp [bitOf])) rfl rfl⟩
        case measure => simp [intOf]; omega
    · obtain rfl : k = 32 := by omega
      have HX := hide hX; have HY := hide hY; have HB := hide hB
      clear hX hY hB
      subst hW
      have hl : low 6 x y 32 < 4294967296 := lowB _ x y 32 (by omega)
      go_wp2
      go_ret2
      exact ⟨ret2 (vint (by rw [← Hfin.out])) rfl, rfl⟩

set_option maxHeartbeats 1000000 in
theorem refDo_7 (x y : Nat) (w : World) (hx : x < 4294967296) (hy : y < 4294967296) :
    Calls Try.prog 70 #[.int .i64 7, .int .u32 (x : Int), .int .u32 (y : Int)] w fun e w' => e = .returned (.tuple #[.int .u32 (aluW 7 x y), .bool (aluIs 7)]) ∧ w = w' := by
  have hfin : ((low 7 x y 32 : Nat) : Int) = aluW 7 x y := by
    rw [low_32 7 x y _ (or_bit x y) (Nat.or_lt_two_pow (n := 32) hx hy)]; simp [aluW]
  have Hfin := hide hfin; clear hfin
  go_enter Try.func70, Try.ntmps70
  go_wp2
  go_loop [8, 9, 10, 11, 12] (fun vx vy vw vb vi => ∃ k : Nat, k ≤ 32 ∧ slots 7 x y k vx vy vw vb vi) (fun _ _ _ _ i => 32 - (intOf i).toNat)
  case atStart => exact ⟨0, by omega, x, y, 1, 0, by simp, by simp, by simp, by simp [low], rfl, rfl, rfl, rfl, rfl⟩
  case round =>
    obtain ⟨k, hk, X, Y, B, W, hX, hY, hB, hW, rfl, rfl, rfl, rfl, rfl⟩ := hrel
    by_cases hlt : k < 32
    · skip
      have hXl : X < 4294967296 := by rw [hX]; exact Nat.lt_of_le_of_lt (Nat.div_le_self _ _) hx
      have hYl : Y < 4294967296 := by rw [hY]; exact Nat.lt_of_le_of_lt (Nat.div_le_self _ _) hy
      have hBl : B ≤ 2147483648 := by rw [hB]; exact p32 hlt
      have hWl : W < B := by rw [hB, hW]; exact lowB _ x y k (by omega)
      have HX := hide hX; have HY := hide hY; have HB := hide hB; have HW := hide hW
      clear hX hY hB hW
      rcases (by omega : X % 2 = 0 ∨ X % 2 = 1) with h1 | h1 <;> rcases (by omega : Y % 2 = 0 ∨ Y % 2 = 1) with h2 | h2
      all_goals
        have H1 := hide h1; have H2 := hide h2
        have g1 : (X : Int) % 2 = ((X % 2 : Nat) : Int) := by omega
        have g2 : (Y : Int) % 2 = ((Y % 2 : Nat) : Int) := by omega
        rw [h1] at g1; rw [h2] at g2
        clear h1 h2
        go_wp2
        go_round
        case rel => exact ⟨k + 1, by omega, slots_next HX.out HY.out HB.out HW.out (by rw [H1.out, H2.out]) rfl rfl (vint (by simp [bitOf])) rfl rfl⟩
        case measure => simp [intOf]; omega
    · obtain rfl : k = 32 := by omega
      have HX := hide hX; have HY := hide hY; have HB := hide hB
      clear hX hY hB
      subst hW
      have hl : low 7 x y 32 < 4294967296 := lowB _ x y 32 (by omega)
      go_wp2
      go_ret2
      exact ⟨ret2 (vint (by rw [← Hfin.out])) rfl, rfl⟩

set_option maxHeartbeats 1000000 in
theorem refDo_8 (x y : Nat) (w : World) (hx : x < 4294967296) (hy : y < 4294967296) :
    Calls Try.prog 70 #[.int .i64 8, .int .u32 (x : Int), .int .u32 (y : Int)] w fun e w' => e = .returned (.tuple #[.int .u32 (aluW 8 x y), .bool (aluIs 8)]) ∧ w = w' := by
  have hfin : ((low 8 x y 32 : Nat) : Int) = aluW 8 x y := by
    rw [low_32 8 x y _ (xor_bit x y) (Nat.xor_lt_two_pow (n := 32) hx hy)]; simp [aluW]
  have Hfin := hide hfin; clear hfin
  go_enter Try.func70, Try.ntmps70
  go_wp2
  go_loop [8, 9, 10, 11, 12] (fun vx vy vw vb vi => ∃ k : Nat, k ≤ 32 ∧ slots 8 x y k vx vy vw vb vi) (fun _ _ _ _ i => 32 - (intOf i).toNat)
  case atStart => exact ⟨0, by omega, x, y, 1, 0, by simp, by simp, by simp, by simp [low], rfl, rfl, rfl, rfl, rfl⟩
  case round =>
    obtain ⟨k, hk, X, Y, B, W, hX, hY, hB, hW, rfl, rfl, rfl, rfl, rfl⟩ := hrel
    by_cases hlt : k < 32
    · skip
      have hXl : X < 4294967296 := by rw [hX]; exact Nat.lt_of_le_of_lt (Nat.div_le_self _ _) hx
      have hYl : Y < 4294967296 := by rw [hY]; exact Nat.lt_of_le_of_lt (Nat.div_le_self _ _) hy
      have hBl : B ≤ 2147483648 := by rw [hB]; exact p32 hlt
      have hWl : W < B := by rw [hB, hW]; exact lowB _ x y k (by omega)
      have HX := hide hX; have HY := hide hY; have HB := hide hB; have HW := hide hW
      clear hX hY hB hW
      rcases (by omega : X % 2 = 0 ∨ X % 2 = 1) with h1 | h1 <;> rcases (by omega : Y % 2 = 0 ∨ Y % 2 = 1) with h2 | h2
      all_goals
        have H1 := hide h1; have H2 := hide h2
        have g1 : (X : Int) % 2 = ((X % 2 : Nat) : Int) := by omega
        have g2 : (Y : Int) % 2 = ((Y % 2 : Nat) : Int) := by omega
        rw [h1] at g1; rw [h2] at g2
        clear h1 h2
        go_wp2
        go_round
        case rel => exact ⟨k + 1, by omega, slots_next HX.out HY.out HB.out HW.out (by rw [H1.out, H2.out]) rfl rfl (vint (by simp [bitOf])) rfl rfl⟩
        case measure => simp [intOf]; omega
    · obtain rfl : k = 32 := by omega
      have HX := hide hX; have HY := hide hY; have HB := hide hB
      clear hX hY hB
      subst hW
      have hl : low 8 x y 32 < 4294967296 := lowB _ x y 32 (by omega)
      go_wp2
      go_ret2
      exact ⟨ret2 (vint (by rw [← Hfin.out])) rfl, rfl⟩

theorem mul_end {x y : Nat} (hx : (x : Int) < 4294967296) (hy : (y : Int) < 4294967296) : ((IntKind.u64.wrap ((x : Int) * y)).tmod 4294967296) % 4294967296 = aluW 5 x y := by
  have h : (x : Int) * y < 18446744073709551616 := by
    have : x * y ≤ 4294967295 * 4294967295 := Nat.mul_le_mul (by omega) (by omega)
    have : ((x * y : Nat) : Int) ≤ 4294967295 * 4294967295 := by omega
    rw [Int.natCast_mul] at this; omega
  have h0 : 0 ≤ (x : Int) * y := Int.mul_nonneg (by omega) (by omega)
  have hw : IntKind.u64.wrap ((x : Int) * y) = (x : Int) * y := by
    rw [show IntKind.u64.wrap ((x : Int) * y) = (x : Int) * y % 18446744073709551616 from by simp [IntKind.wrap, IntKind.bits, IntKind.signed]]
    exact Int.emod_eq_of_lt h0 h
  rw [hw, Int.tmod_eq_emod_of_nonneg h0]
  simp [aluW]

/-- The reference's answer. -/
theorem refDo_any (op b c : Int) (w : World) (hb : 0 ≤ b) (hb' : b < 4294967296) (hc : 0 ≤ c) (hc' : c < 4294967296) :
    Calls Try.prog 70 #[.int .i64 op, .int .u32 b, .int .u32 c] w fun e w' => e = .returned (.tuple #[.int .u32 (aluW op b c), .bool (aluIs op)]) ∧ w = w' := by
  obtain ⟨x, rfl⟩ := Int.eq_ofNat_of_zero_le hb
  obtain ⟨y, rfl⟩ := Int.eq_ofNat_of_zero_le hc
  by_cases h6 : op = 6
  · subst h6; exact refDo_6 x y w (by omega) (by omega)
  by_cases h7 : op = 7
  · subst h7; exact refDo_7 x y w (by omega) (by omega)
  by_cases h8 : op = 8
  · subst h8; exact refDo_8 x y w (by omega) (by omega)
  by_cases h3 : op = 3
  · subst h3; go_enter Try.func70, Try.ntmps70; go_wp2; go_ret2; exact ⟨ret2 (vint (by simp [aluW])) rfl, rfl⟩
  by_cases h4 : op = 4
  · subst h4; go_enter Try.func70, Try.ntmps70; go_wp2; go_ret2; exact ⟨ret2 (vint (by simp [aluW]; omega)) rfl, rfl⟩
  by_cases h5 : op = 5
  · subst h5; go_enter Try.func70, Try.ntmps70; go_wp2; go_ret2; exact ⟨ret2 (vint (mul_end hb' hc')) rfl, rfl⟩
  by_cases h9 : op = 9
  · subst h9
    by_cases hbc : (x : Int) < y
    · go_enter Try.func70, Try.ntmps70; go_wp2; go_ret2; exact ⟨ret2 (vint (by simp [aluW]; omega)) rfl, rfl⟩
    · go_enter Try.func70, Try.ntmps70; go_wp2; go_ret2; exact ⟨ret2 (vint (by simp [aluW]; omega)) rfl, rfl⟩
  by_cases h10 : op = 10
  · subst h10
    by_cases hbc : (x : Int) = y
    · have e1 : ((x : Int) == y) = true := by simp [hbc]
      have hbc' := hide hbc; clear hbc
      go_enter Try.func70, Try.ntmps70; go_wp2; go_ret2; exact ⟨ret2 (vint (by have := hbc'.out; simp [aluW]; omega)) rfl, rfl⟩
    · have e1 : ((x : Int) == y) = false := by simp [hbc]
      go_enter Try.func70, Try.ntmps70; go_wp2; go_ret2; exact ⟨ret2 (vint (by simp [aluW]; omega)) rfl, rfl⟩
  · have n3 := beqF h3; have n4 := beqF h4; have n5 := beqF h5; have n6 := beqF h6; have n7 := beqF h7; have n8 := beqF h8; have n9 := beqF h9; have n10 := beqF h10
    have m6 := bneT h6; have m7 := bneT h7; have m8 := bneT h8
    go_enter Try.func70, Try.ntmps70; go_wp2; go_ret2; exact ⟨ret2 (vint (by simp [aluW, h3, h4, h5, h6, h7, h8, h9, h10])) (vbool (by simp [aluIs]; omega)), rfl⟩
end Go.Proofs.Ytffciebjpiljgaa
