/- The reference's right instructions, and where an instruction leads; no condition. -/
import Derived.Test.YtnijdaidmpjccaaIsa2
namespace Go.Proofs.Ytnijdaidmpjccaa
set_option linter.unusedSimpArgs false
set_option linter.unusedVariables false
set_option maxRecDepth 100000
open Go.RowKit

theorem reg08_any (n : Int) (w : World) : Calls Try.prog 78 #[.int .i64 n] w fun e w' => e = .returned (.bool (decide (0 ≤ n ∧ n < 8))) ∧ w = w' := by
  go_enter Try.func78, Try.ntmps78
  go_wp2
  all_goals
    go_ret
    exact ⟨rbool (by simp_all; try omega), rfl⟩
theorem leads08_any (n : Int) (w : World) : Calls Try.prog 81 #[.int .i64 n] w fun e w' => e = .returned (.bool (decide (14 ≤ n ∧ n ≤ 16))) ∧ w = w' := by
  go_enter Try.func81, Try.ntmps81
  go_wp2
  all_goals
    go_ret
    exact ⟨rbool (by simp_all; try omega), rfl⟩
set_option maxHeartbeats 8000000 in
set_option maxRecDepth 100000 in
theorem right08_any (x : Instr) (w : World) (hx : x.ok) : Calls Try.prog 61 #[instrV x] w fun e w' => e = .returned (.bool (rightI x)) ∧ Below w.heap.size w w' := by
  obtain ⟨hn1, hn2⟩ := Go.bounds_u32 hx.2.2.2.2
  by_cases h : 0 ≤ x.op ∧ x.op < 22
  · obtain ⟨op, a, b, c, n⟩ := x
    have h0 : op = 0 ∨ op = 1 ∨ op = 2 ∨ op = 3 ∨ op = 4 ∨ op = 5 ∨ op = 6 ∨ op = 7 ∨ op = 8 ∨ op = 9 ∨ op = 10 ∨ op = 11 ∨ op = 12 ∨ op = 13 ∨ op = 14 ∨ op = 15 ∨ op = 16 ∨ op = 17 ∨ op = 18 ∨ op = 19 ∨ op = 20 ∨ op = 21 := by simp only at h; omega
    clear h hx
    rcases h0 with rfl | rfl | rfl | rfl | rfl | rfl | rfl | rfl | rfl | rfl | rfl | rfl | rfl | rfl | rfl | rfl | rfl | rfl | rfl | rfl | rfl | rfl
    all_goals
      go_enter Try.func61, Try.ntmps61
      go_wp2_with (go_at_call 78; refine (reg08_any _ _).mono ?_; rintro e w' ⟨rfl, rfl⟩)
      all_goals
        go_ret
        exact ⟨rbool (by simp_all [rightI, kindsOf, kindsN, fitsB]; try omega), (Below.refl _ _).alloc (Nat.le_refl _) _⟩
  · rw [rightI_no h]
    have n0 : ¬ x.op = 0 := by omega
    have n1 : ¬ x.op = 1 := by omega
    have n2 : ¬ x.op = 2 := by omega
    have n3 : ¬ x.op = 3 := by omega
    have n4 : ¬ x.op = 4 := by omega
    have n5 : ¬ x.op = 5 := by omega
    have n6 : ¬ x.op = 6 := by omega
    have n7 : ¬ x.op = 7 := by omega
    have n8 : ¬ x.op = 8 := by omega
    have n9 : ¬ x.op = 9 := by omega
    have n10 : ¬ x.op = 10 := by omega
    have n11 : ¬ x.op = 11 := by omega
    have n12 : ¬ x.op = 12 := by omega
    have n13 : ¬ x.op = 13 := by omega
    have n14 : ¬ x.op = 14 := by omega
    have n15 : ¬ x.op = 15 := by omega
    have n16 : ¬ x.op = 16 := by omega
    have n17 : ¬ x.op = 17 := by omega
    have n18 : ¬ x.op = 18 := by omega
    have n19 : ¬ x.op = 19 := by omega
    have n20 : ¬ x.op = 20 := by omega
    have n21 : ¬ x.op = 21 := by omega
    clear h
    go_enter Try.func61, Try.ntmps61
    go_wp2
    go_ret
    exact ⟨rfl, (Below.refl _ _).alloc (Nat.le_refl _) _⟩
end Go.Proofs.Ytnijdaidmpjccaa
