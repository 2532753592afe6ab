/- Which histories may be, by the document (R21.Right). No condition. -/
import Derived.Test.YthmifkibfpcncaaHr
namespace Go.Proofs.Ythmifkibfpcncaa
set_option linter.unusedSimpArgs false
set_option linter.unusedVariables false
set_option maxRecDepth 100000
set_option linter.unusedSimpArgs false
set_option linter.unusedVariables false
set_option maxRecDepth 100000
open Go.RowKit
def othB (l : List Call) (i : Nat) : Nat → Bool
  | 0 => true
  | k + 1 => othB l i k && (decide (i = k) || pairOk (l.getD i default) (l.getD k default))
theorem prev_iff {l : List Call} {i : Nat} : ∀ n, prevB l i n = true ↔ ∀ k, k < n → pairOk (l.getD i default) (l.getD k default) = true
  | 0 => ⟨fun _ k hk => by omega, fun _ => rfl⟩
  | n + 1 => by
    rw [prevB, Bool.and_eq_true, prev_iff n]
    exact ⟨fun h k hk => (Nat.lt_or_eq_of_le (Nat.le_of_lt_succ hk)).elim (h.1 k) (fun e => e ▸ h.2), fun h => ⟨fun k hk => h k (by omega), h n (by omega)⟩⟩
theorem hist_iff {l : List Call} : ∀ n, histTo l n = true ↔ ∀ i, i < n → callOk (l.getD i default) = true ∧ ∀ k, k < i → pairOk (l.getD i default) (l.getD k default) = true
  | 0 => ⟨fun _ k hk => by omega, fun _ => rfl⟩
  | n + 1 => by
    rw [histTo, Bool.and_eq_true, hist_iff n, Bool.and_eq_true, prev_iff]
    exact ⟨fun h k hk => (Nat.lt_or_eq_of_le (Nat.le_of_lt_succ hk)).elim (h.1 k) (fun e => e ▸ h.2), fun h => ⟨fun k hk => h k (by omega), h n (by omega)⟩⟩
theorem oth_iff {l : List Call} {i : Nat} : ∀ n, othB l i n = true ↔ ∀ k, k < n → i ≠ k → pairOk (l.getD i default) (l.getD k default) = true
  | 0 => ⟨fun _ k hk => by omega, fun _ => rfl⟩
  | n + 1 => by
    rw [othB, Bool.and_eq_true, oth_iff n, Bool.or_eq_true, decide_eq_true_eq]
    refine ⟨fun h k hk hne => ?_, fun h => ⟨fun k hk => h k (by omega), ?_⟩⟩
    · rcases Nat.lt_or_eq_of_le (Nat.le_of_lt_succ hk) with q | q
      · exact h.1 k q hne
      · subst q; exact h.2.elim (fun e => absurd e hne) id
    · by_cases e : i = n
      · exact .inl e
      · exact .inr (h n (by omega) e)
/-- All pairs, or those behind one another: the same. -/
theorem hist_all {l : List Call} : histB l = true ↔ ∀ i, i < l.length → othB l i l.length = true ∧ callOk (l.getD i default) = true := by
  rw [histB, hist_iff]
  refine ⟨fun h i hi => ⟨(oth_iff _).2 fun k hk hne => ?_, (h i hi).1⟩, fun h i hi => ⟨(h i hi).2, fun k hk => (oth_iff _).1 (h i hi).1 k (by omega) (by omega)⟩⟩
  by_cases q : k < i
  · exact (h i hi).2 k q
  · rw [pair_sym]; exact (h k hk).2 i (by omega)
end Go.Proofs.Ythmifkibfpcncaa
