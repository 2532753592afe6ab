/- What is right of a system that is admitted; the statement AdmitSound. No condition. -/
import Derived.Test.YtkkmageogkkchaaGreatULX
import Derived.Test.YtkkmageogkkchaaGreatULAe
import Derived.Test.YtkkmageogkkchaaGreatULFt
set_option linter.unusedSimpArgs false
set_option linter.unusedVariables false
set_option maxHeartbeats 1000000
namespace Go.Proofs.YtkkmageogkkchaaGreat
set_option maxRecDepth 100000
set_option maxRecDepth 100000
open Go.RowKit
theorem verd_ok {S : System} (h : (verd S).e = 0) : (sysF S).2.2.2 = 0 ∧ (allI S).e = 0 ∧ (rvO S (allI S).R 0 S.objects).1 = 0 ∧ verd S = ⟨0, -1, -1, (allI S).R⟩ := by
  by_cases h1 : (sysF S).2.2.2 = 0
  case neg => rw [verd, if_pos h1] at h; exact absurd h h1
  by_cases h2 : (hopeV S).2.2 = true
  · rw [verd, if_neg (by simpa using h1), if_pos h2] at h; simp at h
  by_cases h3 : (allI S).e = 0
  case neg => rw [verd, if_neg (by simpa using h1), if_neg h2, if_pos h3] at h; exact absurd h h3
  by_cases h4 : (rvO S (allI S).R 0 S.objects).1 = 0
  case neg => rw [verd, if_neg (by simpa using h1), if_neg h2, if_neg (by simpa using h3), if_pos h4] at h; exact absurd h h4
  exact ⟨h1, h3, h4, by rw [verd, if_neg (by simpa using h1), if_neg h2, if_neg (by simpa using h3), if_neg (by simpa using h4)]⟩
theorem rvR_all (S : System) (R : List Int) (o : Object) (k : Nat) : ∀ l, (rvR S R o k l).1 = 0 → ∀ i ∈ l, spoilO S o i k (R.getD i.toNat default) = 0
  | [], _ => fun i hi => by cases hi
  | a :: l, h => by
    rw [rvR] at h
    by_cases h1 : spoilO S o a k (R.getD a.toNat default) = 0
    · rw [if_pos h1] at h
      intro i hi
      rcases List.mem_cons.1 hi with rfl | hi
      · exact h1
      · exact rvR_all S R o k l h i hi
    · rw [if_neg h1] at h; exact absurd h h1
theorem rvO_all (S : System) (R : List Int) : ∀ (m : Nat) (l : List Object), (rvO S R m l).1 = 0 → ∀ j, j < l.length → (rvR S R (l.getD j default) (m + j) (l.getD j default).readers).1 = 0
  | _, [], _ => fun j hj => by simp at hj
  | m, o :: l, h => by
    rw [rvO] at h
    by_cases h1 : (rvR S R o m o.readers).1 = 0
    · rw [if_pos h1] at h
      intro j hj
      cases j with
      | zero => exact h1
      | succ j =>
        have := rvO_all S R (m + 1) l h j (by simpa using hj)
        rw [show m + (j + 1) = m + 1 + j from by omega]
        simpa using this
    · rw [if_neg h1] at h; exact absurd h h1
end Go.Proofs.YtkkmageogkkchaaGreat
