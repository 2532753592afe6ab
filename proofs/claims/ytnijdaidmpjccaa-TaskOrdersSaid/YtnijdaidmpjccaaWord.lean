/- What the package word, and its reference, compute; no condition. -/
import Derived.Test.YtnijdaidmpjccaaBase
import Derived.Deep.QuietTactic
import Derived.BigQuiet
namespace Go.Proofs.Ytnijdaidmpjccaa
set_option linter.unusedSimpArgs false
set_option linter.unusedVariables false
set_option maxRecDepth 100000
open Go.RowKit

def clampI (n lo hi : Int) : Int := max lo (min n hi)
def insI (n : Int) : Int := max 0 (min n 1099511627776)
def addI (a b : Int) : Int := min 1099511627776 (insI a + insI b)
def mulI (a b : Int) : Int := min 1099511627776 (insI a * insI b)
def ceilI (a b : Int) : Int := if a < 1 ∨ b < 1 then 0 else (a - 1) / b + 1
def gcdI (a b : Int) : Int := if a < 1 ∨ b < 1 then 0 else (Int.gcd a b : Int)
def lcmI (a b : Int) : Int := if a < 1 ∨ b < 1 then 0 else mulI (a / gcdI a b) b

theorem insB (n : Int) : 0 ≤ insI n ∧ insI n ≤ 1099511627776 := by unfold insI; omega
theorem addB (a b : Int) : 0 ≤ addI a b ∧ addI a b ≤ 1099511627776 := by have := insB a; have := insB b; unfold addI; omega
theorem mulB (a b : Int) : 0 ≤ mulI a b ∧ mulI a b ≤ 1099511627776 := by
  have := Int.mul_nonneg (insB a).1 (insB b).1
  unfold mulI; omega
theorem insId {n : Int} (h : 0 ≤ n) (h' : n ≤ 1099511627776) : insI n = n := by unfold insI; omega
/-- The test on the product's size, as the program makes it. -/
theorem mul_top {x y : Int} (hx : 0 < x) (hy : 0 < y) : 1099511627776 / y < x ↔ 1099511627776 < x * y := by
  rw [Int.ediv_lt_iff_lt_mul hy]
theorem mul_le {x y : Int} (hx : 0 < x) (hy : 0 < y) (h : ¬ 1099511627776 / y < x) : x * y ≤ 1099511627776 := by
  rw [mul_top hx hy] at h; omega

theorem clamp_any (n lo hi : Int) (w : World) : Calls Try.prog 91 #[.int .i64 n, .int .i64 lo, .int .i64 hi] w fun e w' => e = .returned (.int .i64 (clampI n lo hi)) ∧ w = w' := by
  go_enter Try.func91, Try.ntmps91
  go_wp2
  all_goals
    go_ret
    exact ⟨rint (by unfold clampI; first | omega | (simp; omega)), rfl⟩
theorem inside_any (n : Int) (w : World) : Calls Try.prog 85 #[.int .i64 n] w fun e w' => e = .returned (.int .i64 (insI n)) ∧ w = w' := by
  go_enter Try.func85, Try.ntmps85
  go_wp2_with (go_at_call 91; refine (clamp_any _ _ _ _).mono ?_; rintro e w' ⟨rfl, rfl⟩)
  go_ret
  exact ⟨rint (by simp [clampI, insI]), rfl⟩
theorem wmul_any (a b : Int) (w : World) : Calls Try.prog 69 #[.int .i64 a, .int .i64 b] w fun e w' => e = .returned (.int .i64 (mulI a b)) ∧ w = w' := by
  obtain ⟨a1, a2⟩ := insB a
  obtain ⟨b1, b2⟩ := insB b
  by_cases h0 : insI a = 0
  · have e0 := beqT h0
    have H0 := hide h0; clear h0
    go_enter Try.func69, Try.ntmps69
    go_wp2_with (go_at_call 85; refine (inside_any _ _).mono ?_; rintro e w' ⟨rfl, rfl⟩)
    go_ret
    exact ⟨rint (by unfold mulI; rw [H0.out]; omega), rfl⟩
  · by_cases h1 : insI b = 0
    · have e0 := beqF h0; have e1 := beqT h1
      have H1 := hide h1; clear h1 h0
      go_enter Try.func69, Try.ntmps69
      go_wp2_with (go_at_call 85; refine (inside_any _ _).mono ?_; rintro e w' ⟨rfl, rfl⟩)
      go_ret
      exact ⟨rint (by unfold mulI; rw [H1.out]; omega), rfl⟩
    · have e0 := beqF h0; have e1 := beqF h1
      have a3 : 0 < insI a := by omega
      have b3 : 1 ≤ insI b := by omega
      by_cases h2 : 1099511627776 / insI b < insI a
      · have hm := (mul_top a3 b3).1 h2
        clear h0 h1
        go_enter Try.func69, Try.ntmps69
        go_wp2_with (go_at_call 85; refine (inside_any _ _).mono ?_; rintro e w' ⟨rfl, rfl⟩)
        go_ret
        exact ⟨rint (by unfold mulI; omega), rfl⟩
      · have hm := mul_le a3 b3 h2
        have hm0 : 0 ≤ insI a * insI b := Int.mul_nonneg a1 b1
        clear h0 h1
        go_enter Try.func69, Try.ntmps69
        go_wp2_with (go_at_call 85; refine (inside_any _ _).mono ?_; rintro e w' ⟨rfl, rfl⟩)
        go_ret
        exact ⟨rint (by unfold mulI; omega), rfl⟩
theorem gcd_step {x y : Int} (hx : 0 ≤ x) (hy : 0 < y) : Int.gcd y (x % y) = Int.gcd x y := by
  obtain ⟨m, rfl⟩ := Int.eq_ofNat_of_zero_le hx
  obtain ⟨n, rfl⟩ := Int.eq_ofNat_of_zero_le (show 0 ≤ y by omega)
  rw [← Int.natCast_emod]
  show Nat.gcd n (m % n) = Nat.gcd m n
  rw [Nat.gcd_comm m n, Nat.gcd_rec n m, Nat.gcd_comm]
set_option maxHeartbeats 400000 in
theorem gcd_any (a b : Int) (w : World) : Calls Try.prog 68 #[.int .i64 a, .int .i64 b] w fun e w' => e = .returned (.int .i64 (gcdI a b)) ∧ ∃ m, w' = w.drewN m := by
  by_cases h1 : a < 1
  · go_enter Try.func68, Try.ntmps68
    go_wp2
    go_ret
    exact ⟨rint (by simp [gcdI, h1]), 0, rfl⟩
  · by_cases h2 : b < 1
    · go_enter Try.func68, Try.ntmps68
      go_wp2
      go_ret
      exact ⟨rint (by simp [gcdI, h2]), 0, rfl⟩
    · have hfin : gcdI a b = (Int.gcd a b : Int) := by simp [gcdI, h1, h2]
      have Hfin := hide hfin; clear hfin
      go_enter Try.func68, Try.ntmps68
      go_wp2
      go_loopw [0, 1] (fun va vb wr => ∃ (x y : Int) (m : Nat), 0 < x ∧ 0 ≤ y ∧ Int.gcd x y = Int.gcd a b ∧ va = .int .i64 x ∧ vb = .int .i64 y ∧ wr = w.drewN m) (fun _ y _ => (intOf y).toNat)
      case atStart => exact ⟨a, b, 0, by omega, by omega, rfl, rfl, rfl, rfl⟩
      case round =>
        obtain ⟨x, y, m, hx, hy, hg, rfl, rfl, rfl⟩ := hrel
        have Hg := hide hg; clear hg
        by_cases h3 : 0 < y
        · have hm0 : 0 ≤ x % y := Int.emod_nonneg _ (by omega)
          have hm1 : x % y < y := Int.emod_lt_of_pos _ h3
          go_wp2
          go_quiet (fail)
          go_wp2
          go_roundw
          case rel => exact ⟨y, x % y, _, h3, hm0, by rw [gcd_step (by omega) h3]; exact Hg.out, rfl, rfl, by rw [World.drewN_drewN]⟩
          case measure => simp [intOf]; omega
        · obtain rfl : y = 0 := by omega
          go_wp2
          go_ret
          exact ⟨rint (by rw [Hfin.out, ← Hg.out]; simp; omega), m, rfl⟩
theorem gcdB (a b : Int) (ha : 1 ≤ a) (hb : 1 ≤ b) : 1 ≤ gcdI a b ∧ gcdI a b ≤ a := by
  have h1 : gcdI a b = (Int.gcd a b : Int) := by simp [gcdI]; omega
  have h2 : 0 < Int.gcd a b := Int.gcd_pos_of_ne_zero_left b (by omega)
  have h3 : (Int.gcd a b : Int) ≤ a := Int.le_of_dvd (by omega) (Int.gcd_dvd_left a b)
  omega
theorem lcm_any (a b : Int) (w : World) (hA : a ≤ 9223372036854775807) : Calls Try.prog 47 #[.int .i64 a, .int .i64 b] w fun e w' => e = .returned (.int .i64 (lcmI a b)) ∧ ∃ m, w' = w.drewN m := by
  by_cases h : a < 1 ∨ b < 1
  · have e0 : gcdI a b = 0 := by simp [gcdI, h]
    have e1 := beqT e0
    clear e0
    go_enter Try.func47, Try.ntmps47
    go_wp2_with (go_at_call 68; refine (gcd_any _ _ _).mono ?_; rintro e w' ⟨rfl, m, rfl⟩)
    go_ret
    exact ⟨rint (by simp [lcmI, h]), _, rfl⟩
  · obtain ⟨g1, g2⟩ := gcdB a b (by omega) (by omega)
    have e1 := beqF (show ¬ gcdI a b = 0 by omega)
    have a0 : 0 ≤ a := by omega
    go_enter Try.func47, Try.ntmps47
    go_wp2_with (first
      | (go_at_call 68; refine (gcd_any _ _ _).mono ?_; rintro e w' ⟨rfl, m, rfl⟩)
      | (go_at_call 69; refine (wmul_any _ _ _).mono ?_; rintro e w' ⟨rfl, rfl⟩))
    go_ret
    exact ⟨rint (by simp [lcmI, h]), _, rfl⟩
/-! ## The reference -/
theorem rclamp_any (n lo hi : Int) (w : World) (hlh : lo ≤ hi) : Calls Try.prog 86 #[.int .i64 n, .int .i64 lo, .int .i64 hi] w fun e w' => e = .returned (.int .i64 (clampI n lo hi)) ∧ w = w' := by
  go_enter Try.func86, Try.ntmps86
  go_wp2
  all_goals
    go_ret
    exact ⟨rint (by unfold clampI; omega), rfl⟩
theorem rins_any (n : Int) (w : World) : Calls Try.prog 86 #[.int .i64 n, .int .i64 0, .int .i64 1099511627776] w fun e w' => e = .returned (.int .i64 (insI n)) ∧ w = w' :=
  (rclamp_any n 0 1099511627776 w (by omega)).mono fun _ _ h => h
theorem rmul_any (a b : Int) (w : World) : Calls Try.prog 70 #[.int .i64 a, .int .i64 b] w fun e w' => e = .returned (.int .i64 (mulI a b)) ∧ w = w' := by
  obtain ⟨a1, a2⟩ := insB a
  obtain ⟨b1, b2⟩ := insB b
  by_cases h0 : 0 < insI a
  · have a3 : 1 ≤ insI a := by omega
    have hq : 1099511627775 / insI a < insI b ↔ 1099511627775 < insI b * insI a := by rw [Int.ediv_lt_iff_lt_mul h0]
    rw [Int.mul_comm] at hq
    have hm0 : 0 ≤ insI a * insI b := Int.mul_nonneg a1 b1
    by_cases h2 : 1099511627775 / insI a < insI b
    · have h3 := hq.1 h2
      clear hq
      go_enter Try.func70, Try.ntmps70
      go_wp2_with (go_at_call 86; refine (rins_any _ _).mono ?_; rintro e w' ⟨rfl, rfl⟩)
      go_ret
      exact ⟨rint (by unfold mulI; omega), rfl⟩
    · have h3 : insI a * insI b ≤ 1099511627775 := by have := fun h => h2 (hq.2 h); omega
      clear hq
      go_enter Try.func70, Try.ntmps70
      go_wp2_with (go_at_call 86; refine (rins_any _ _).mono ?_; rintro e w' ⟨rfl, rfl⟩)
      go_ret
      exact ⟨rint (by unfold mulI; omega), rfl⟩
  · have hz : insI a = 0 := by omega
    have hp : insI a * insI b = 0 := by rw [hz]; omega
    have Hz := hide hz; clear hz
    have hp1 : 0 ≤ insI a * insI b := by omega
    have hp2 : insI a * insI b ≤ 0 := by omega
    have Hp := hide hp; clear hp
    go_enter Try.func70, Try.ntmps70
    go_wp2_with (go_at_call 86; refine (rins_any _ _).mono ?_; rintro e w' ⟨rfl, rfl⟩)
    go_ret
    exact ⟨rint (by unfold mulI; omega), rfl⟩
theorem rgcd_go (k : Nat) : ∀ (a b : Int) (w : World), 0 < a → 0 < b → b ≤ k →
    Calls Try.prog 71 #[.int .i64 a, .int .i64 b] w fun e w' => e = .returned (.int .i64 (Int.gcd a b : Int)) ∧ w = w' := by
  induction k with
  | zero => intro a b w _ hb hk; omega
  | succ k ih =>
    intro a b w ha hb hk
    have Ih := hide ih; clear ih
    have a0 : 0 ≤ a := by omega
    have hm0 : 0 ≤ a % b := Int.emod_nonneg _ (by omega)
    have hm1 : a % b < b := Int.emod_lt_of_pos _ hb
    by_cases h : a % b = 0
    · have hg : (Int.gcd a b : Int) = b := by
        have := gcd_step a0 hb
        rw [h] at this; rw [← this]; simp; omega
      rw [hg]
      have e0 := beqT h
      clear hg h
      go_enter Try.func71, Try.ntmps71
      go_wp2_with fail
      go_ret
      exact ⟨rfl, rfl⟩
    · have e0 := beqF h
      rw [← gcd_step a0 hb]
      go_enter Try.func71, Try.ntmps71
      go_wp2_with (go_at_call 71; refine ((unhide Ih) b (a % b) _ (by omega) (by omega) (by omega)).mono ?_; rintro e w' ⟨rfl, rfl⟩)
      go_ret
      exact ⟨rfl, rfl⟩
theorem rgcd_any (a b : Int) (w : World) : Calls Try.prog 71 #[.int .i64 a, .int .i64 b] w fun e w' => e = .returned (.int .i64 (gcdI a b)) ∧ w = w' := by
  by_cases h1 : a < 1
  · go_enter Try.func71, Try.ntmps71
    go_wp2_with fail
    go_ret
    exact ⟨rint (by simp [gcdI, h1]), rfl⟩
  · by_cases h2 : b < 1
    · go_enter Try.func71, Try.ntmps71
      go_wp2_with fail
      go_ret
      exact ⟨rint (by simp [gcdI, h2]), rfl⟩
    · rw [show gcdI a b = (Int.gcd a b : Int) by simp [gcdI, h1, h2]]
      exact rgcd_go b.toNat a b w (by omega) (by omega) (by omega)
theorem rlcm_any (a b : Int) (w : World) (hA : a ≤ 9223372036854775807) : Calls Try.prog 48 #[.int .i64 a, .int .i64 b] w fun e w' => e = .returned (.int .i64 (lcmI a b)) ∧ w = w' := by
  by_cases h1 : a < 1
  · go_enter Try.func48, Try.ntmps48
    go_wp2_with fail
    go_ret
    exact ⟨rint (by simp [lcmI, h1]), rfl⟩
  · by_cases h2 : b < 1
    · go_enter Try.func48, Try.ntmps48
      go_wp2_with fail
      go_ret
      exact ⟨rint (by simp [lcmI, h2]), rfl⟩
    · obtain ⟨g1, g2⟩ := gcdB a b (by omega) (by omega)
      have a0 : 0 ≤ a := by omega
      go_enter Try.func48, Try.ntmps48
      go_wp2_with (first
        | (go_at_call 71; refine (rgcd_any _ _ _).mono ?_; rintro e w' ⟨rfl, rfl⟩)
        | (go_at_call 70; refine (rmul_any _ _ _).mono ?_; rintro e w' ⟨rfl, rfl⟩))
      go_ret
      exact ⟨rint (by unfold lcmI; rw [if_neg (by omega)]), rfl⟩
end Go.Proofs.Ytnijdaidmpjccaa
