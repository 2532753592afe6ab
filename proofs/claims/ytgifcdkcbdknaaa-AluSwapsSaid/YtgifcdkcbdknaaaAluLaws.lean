/- AluDoes, AluSwaps, AluRests return true at every three arguments; no condition. -/
import Derived.Test.YtgifcdkcbdknaaaAlu
namespace Go.Proofs.Ytgifcdkcbdknaaa
open Go.RowKit

/-- The word that changes nothing. -/
def restW (op : Int) : Int := if op = 5 then 1 else if op = 6 then 4294967295 else 0
def restIs (op : Int) : Bool := decide (3 ≤ op ∧ op ≤ 8)
def swapIs (op : Int) : Bool := aluIs op && decide (op ≠ 4) && decide (op ≠ 9)

theorem aluW_bd (op b c : Int) (hb : 0 ≤ b) (hb' : b < 4294967296) (hc : 0 ≤ c) (hc' : c < 4294967296) : 0 ≤ aluW op b c ∧ aluW op b c < 4294967296 := by
  have h1 : b.toNat &&& c.toNat < 2 ^ 32 := Nat.and_lt_two_pow _ (by omega)
  have h2 : b.toNat ||| c.toNat < 2 ^ 32 := Nat.or_lt_two_pow (by omega) (by omega)
  have h3 : b.toNat ^^^ c.toNat < 2 ^ 32 := Nat.xor_lt_two_pow (by omega) (by omega)
  unfold aluW
  repeat' split
  all_goals omega

theorem aluRest_any (op : Int) (w : World) : Calls Try.prog 11 #[.int .i64 op] w fun e w' => e = .returned (.tuple #[.int .u32 (restW op), .bool (restIs op)]) ∧ Grown w w' := by
  by_cases h : 3 ≤ op ∧ op ≤ 8
  · rcases (by omega : op = 3 ∨ op = 4 ∨ op = 5 ∨ op = 6 ∨ op = 7 ∨ op = 8) with rfl | rfl | rfl | rfl | rfl | rfl
    all_goals
      go_enter Try.func11, Try.ntmps11
      go_wp2
      go_ret2
      exact ⟨rfl, by repeat (first | exact Grown.refl _ | apply Grown.drew | apply Grown.alloc)⟩
  · have e1 : restW op = 0 := by simp [restW]; omega
    have e2 : restIs op = false := by simp [restIs]; omega
    rw [e1, e2]
    clear e1 e2
    by_cases h1 : op < 3
    · go_enter Try.func11, Try.ntmps11
      go_wp2
      go_ret2
      exact ⟨rfl, by repeat (first | exact Grown.refl _ | apply Grown.drew | apply Grown.alloc)⟩
    · by_cases h2 : op ≤ 10
      · have h3 : 8 < op := by omega
        go_enter Try.func11, Try.ntmps11
        go_wp2
        go_ret2
        exact ⟨rfl, by repeat (first | exact Grown.refl _ | apply Grown.drew | apply Grown.alloc)⟩
      · go_enter Try.func11, Try.ntmps11
        go_wp2
        go_ret2
        exact ⟨rfl, by repeat (first | exact Grown.refl _ | apply Grown.drew | apply Grown.alloc)⟩

theorem aluSwaps_any (op : Int) (w : World) : Calls Try.prog 10 #[.int .i64 op] w fun e w' => e = .returned (.bool (swapIs op)) ∧ w = w' := by
  by_cases h : aluIs op = true
  · have H := hide h
    by_cases h4 : op = 4
    · subst h4; clear h; go_enter Try.func10, Try.ntmps10; go_wp2; go_ret; exact ⟨rfl, rfl⟩
    · by_cases h9 : op = 9
      · subst h9; clear h; go_enter Try.func10, Try.ntmps10; go_wp2; go_ret; exact ⟨rfl, rfl⟩
      · have n4 := bneT h4; have n9 := bneT h9
        go_enter Try.func10, Try.ntmps10
        go_wp2_with (first | (go_at_call 8; refine (aluIs_any _ _).mono ?_; rintro e w' ⟨rfl, rfl⟩))
        go_ret
        exact ⟨rbool (by simp [swapIs, H.out, h4, h9]), rfl⟩
  · have h' : aluIs op = false := by simpa using h
    clear h
    go_enter Try.func10, Try.ntmps10
    go_wp2_with (first | (go_at_call 8; refine (aluIs_any _ _).mono ?_; rintro e w' ⟨rfl, rfl⟩))
    go_ret
    exact ⟨rbool (by simp [swapIs, h']), rfl⟩

theorem grown_trans {a b c : World} (h : Grown a b) (k : Grown b c) : Grown a c :=
  ⟨World.keptBut_trans h.1 k.1, fun x => (k.2.1 x).trans (h.2.1 x), Nat.le_trans h.2.2 k.2.2⟩

theorem awake_true (w : World) : Calls Try.prog 9 #[] w fun e w' => e = .returned (.bool true) ∧ Grown w w' := by
  go_enter Try.func9, Try.ntmps9
  go_wp2
  go_ret
  exact ⟨rfl, by repeat (first | exact Grown.refl _ | apply Grown.drew | apply Grown.alloc)⟩

theorem aluDoes_walk (op b c : Int) (w : World) (hb : 0 ≤ b) (hb' : b < 4294967296) (hc : 0 ≤ c) (hc' : c < 4294967296) :
    Calls Try.prog 3 #[.int .i64 op, .int .u32 b, .int .u32 c] w fun e w' => e = .returned (.bool true) ∧ Grown w w' := by
  go_enter Try.func3, Try.ntmps3
  go_wp2_with (first
    | (go_at_call 6; refine (aluDo_any _ _ _ _ hb hb' hc hc').mono ?_; rintro e w' ⟨rfl, rfl⟩)
    | (go_at_call 7; refine (refDo_any _ _ _ _ hb hb' hc hc').mono ?_; rintro e w' ⟨rfl, rfl⟩)
    | (go_at_call 8; refine (aluIs_any _ _).mono ?_; rintro e w' ⟨rfl, rfl⟩)
    | (go_at_call 9; refine (awake_true _).mono ?_; rintro e w1 ⟨rfl, hg⟩))
  go_ret
  exact ⟨rfl, hg⟩

theorem aluSwaps_walk (op b c : Int) (w : World) (hb : 0 ≤ b) (hb' : b < 4294967296) (hc : 0 ≤ c) (hc' : c < 4294967296) :
    Calls Try.prog 4 #[.int .i64 op, .int .u32 b, .int .u32 c] w fun e w' => e = .returned (.bool true) ∧ Grown w w' := by
  cases hi : aluIs op
  · have hs : swapIs op = false := by simp [swapIs, hi]
    go_enter Try.func4, Try.ntmps4
    go_wp2_with (first
      | (go_at_call 7; refine (refDo_any _ _ _ _ (by omega) (by omega) (by omega) (by omega)).mono ?_; rintro e w' ⟨rfl, rfl⟩)
      | (go_at_call 10; refine (aluSwaps_any _ _).mono ?_; rintro e w' ⟨rfl, rfl⟩)
      | (go_at_call 9; refine (awake_true _).mono ?_; rintro e w1 ⟨rfl, hg⟩))
    go_ret
    exact ⟨rfl, hg⟩
  · have hpq : (aluW op 1 2 == aluW op 2 1) = swapIs op := by
      have hi' : 3 ≤ op ∧ op ≤ 10 := by simpa [aluIs] using hi
      rcases (by omega : op = 3 ∨ op = 4 ∨ op = 5 ∨ op = 6 ∨ op = 7 ∨ op = 8 ∨ op = 9 ∨ op = 10) with rfl | rfl | rfl | rfl | rfl | rfl | rfl | rfl <;> decide
    have hxy : swapIs op = true → (aluW op b c == aluW op c b) = true := by
      intro hs
      have hi' : 3 ≤ op ∧ op ≤ 10 := by simpa [aluIs] using hi
      rcases (by omega : op = 3 ∨ op = 4 ∨ op = 5 ∨ op = 6 ∨ op = 7 ∨ op = 8 ∨ op = 9 ∨ op = 10) with rfl | rfl | rfl | rfl | rfl | rfl | rfl | rfl
      · simp [aluW, Int.add_comm]
      · simp [swapIs] at hs
      · simp [aluW, Int.mul_comm]
      · simp [aluW, Nat.and_comm]
      · simp [aluW, Nat.or_comm]
      · simp [aluW, Nat.xor_comm]
      · simp [swapIs] at hs
      · simp [aluW, eq_comm]
    have HI := hide hi; clear hi
    cases hs : swapIs op
    · rw [hs] at hpq
      clear hxy
      go_enter Try.func4, Try.ntmps4
      have hi := HI.out
      go_wp2_with (first
        | (go_at_call 6; refine (aluDo_any _ _ _ _ (by assumption) (by assumption) (by assumption) (by assumption)).mono ?_; rintro e w' ⟨rfl, rfl⟩)
        | (go_at_call 7; refine (refDo_any _ _ _ _ (by omega) (by omega) (by omega) (by omega)).mono ?_; rintro e w' ⟨rfl, rfl⟩)
        | (go_at_call 10; refine (aluSwaps_any _ _).mono ?_; rintro e w' ⟨rfl, rfl⟩)
        | (go_at_call 9; refine (awake_true _).mono ?_; rintro e w1 ⟨rfl, hg⟩))
      go_ret
      exact ⟨rfl, hg⟩
    · rw [hs] at hpq
      have hxy' := hxy hs
      clear hxy
      go_enter Try.func4, Try.ntmps4
      have hi := HI.out
      go_wp2_with (first
        | (go_at_call 6; refine (aluDo_any _ _ _ _ (by assumption) (by assumption) (by assumption) (by assumption)).mono ?_; rintro e w' ⟨rfl, rfl⟩)
        | (go_at_call 7; refine (refDo_any _ _ _ _ (by omega) (by omega) (by omega) (by omega)).mono ?_; rintro e w' ⟨rfl, rfl⟩)
        | (go_at_call 10; refine (aluSwaps_any _ _).mono ?_; rintro e w' ⟨rfl, rfl⟩)
        | (go_at_call 9; refine (awake_true _).mono ?_; rintro e w1 ⟨rfl, hg⟩))
      go_ret
      exact ⟨rfl, hg⟩

theorem restB (op : Int) : 0 ≤ restW op ∧ restW op < 4294967296 := by unfold restW; repeat' split <;> omega

theorem rest_same (op b : Int) (hb : 0 ≤ b) (hb' : b < 4294967296) (h : restIs op = true) : (aluW op b (restW op) == b) = true := by
  have h' : 3 ≤ op ∧ op ≤ 8 := by simpa [restIs] using h
  have ha : (b.toNat &&& 4294967295) = b.toNat := by
    have := Nat.and_two_pow_sub_one_eq_mod b.toNat 32
    simp at this
    rw [this]; exact Nat.mod_eq_of_lt (by omega)
  rcases (by omega : op = 3 ∨ op = 4 ∨ op = 5 ∨ op = 6 ∨ op = 7 ∨ op = 8) with rfl | rfl | rfl | rfl | rfl | rfl
  all_goals simp [aluW, restW, ha]
  all_goals omega

theorem aluRests_walk (op b c : Int) (w : World) (hb : 0 ≤ b) (hb' : b < 4294967296) (hc : 0 ≤ c) (hc' : c < 4294967296) :
    Calls Try.prog 5 #[.int .i64 op, .int .u32 b, .int .u32 c] w fun e w' => e = .returned (.bool true) ∧ Grown w w' := by
  have hrb := restB op
  obtain ⟨hr1, hr2⟩ := hrb
  cases hi : aluIs op
  · have hs : restIs op = false := by simp [restIs]; simp [aluIs] at hi; omega
    have hz : (restW op == 0) = true := by simp [restW]; simp [aluIs] at hi; omega
    go_enter Try.func5, Try.ntmps5
    go_wp2_with (first
      | (go_at_call 11; refine (aluRest_any _ _).mono ?_; rintro e w1 ⟨rfl, hg⟩)
      | (go_at_call 7; refine (refDo_any _ _ _ _ (by omega) (by omega) (by omega) (by omega)).mono ?_; rintro e w' ⟨rfl, rfl⟩)
      | (go_at_call 9; refine (awake_true _).mono ?_; rintro e w2 ⟨rfl, hg2⟩))
    go_ret
    exact ⟨rfl, grown_trans hg hg2⟩
  · cases hs : restIs op
    · have hz : (restW op == 0) = true := by simp [restW]; simp [restIs] at hs; omega
      have hy : (aluW op 2 c != 2) = true := by
        have h' : op = 9 ∨ op = 10 := by simp [aluIs] at hi; simp [restIs] at hs; omega
        rcases h' with rfl | rfl <;> simp [aluW] <;> split <;> decide
      go_enter Try.func5, Try.ntmps5
      go_wp2_with (first
        | (go_at_call 11; refine (aluRest_any _ _).mono ?_; rintro e w1 ⟨rfl, hg⟩)
        | (go_at_call 7; refine (refDo_any _ _ _ _ (by omega) (by omega) (by omega) (by omega)).mono ?_; rintro e w' ⟨rfl, rfl⟩)
        | (go_at_call 9; refine (awake_true _).mono ?_; rintro e w2 ⟨rfl, hg2⟩))
      go_ret
      exact ⟨rfl, grown_trans hg hg2⟩
    · have hz := rest_same op b hb hb' hs
      go_enter Try.func5, Try.ntmps5
      go_wp2_with (first
        | (go_at_call 11; refine (aluRest_any _ _).mono ?_; rintro e w1 ⟨rfl, hg⟩)
        | (go_at_call 7; refine (refDo_any _ _ _ _ (by omega) (by omega) (by omega) (by omega)).mono ?_; rintro e w' ⟨rfl, rfl⟩)
        | (go_at_call 9; refine (awake_true _).mono ?_; rintro e w2 ⟨rfl, hg2⟩))
      go_ret
      exact ⟨rfl, grown_trans hg hg2⟩
end Go.Proofs.Ytgifcdkcbdknaaa
