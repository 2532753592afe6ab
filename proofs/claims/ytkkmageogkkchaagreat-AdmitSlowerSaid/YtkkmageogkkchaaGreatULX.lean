/- What comes besides the texts that are packed. No condition. -/
import Derived.Test.YtkkmageogkkchaaGreatT1
import Derived.Test.YtkkmageogkkchaaGreatT2
import Derived.Test.YtkkmageogkkchaaGreatT3
import Derived.Test.YtkkmageogkkchaaGreatT4
import Derived.Test.YtkkmageogkkchaaGreatT5
import Derived.Test.YtkkmageogkkchaaGreatT6
import Derived.Test.YtkkmageogkkchaaGreatT7
import Derived.Test.YtkkmageogkkchaaGreatT8
import Derived.Test.YtkkmageogkkchaaGreatT9
import Derived.Test.YtkkmageogkkchaaGreatT10
import Derived.Test.YtkkmageogkkchaaGreatT11
import Derived.Test.YtkkmageogkkchaaGreatT12
import Derived.Test.YtkkmageogkkchaaGreatT13
import Derived.Test.YtkkmageogkkchaaGreatT14
import Derived.Test.YtkkmageogkkchaaGreatT15
import Derived.Test.YtkkmageogkkchaaGreatT16
import Derived.Test.YtkkmageogkkchaaGreatT17
import Derived.Test.YtkkmageogkkchaaGreatT18
import Derived.Test.YtkkmageogkkchaaGreatT19
import Derived.Test.YtkkmageogkkchaaGreatT20
import Derived.Test.YtkkmageogkkchaaGreatT21
import Derived.Test.YtkkmageogkkchaaGreatT22
import Derived.Test.YtkkmageogkkchaaGreatT23
import Derived.Test.YtkkmageogkkchaaGreatT24
set_option linter.unusedSimpArgs false
set_option linter.unusedVariables false
set_option maxHeartbeats 1000000
namespace Go.Proofs.YtkkmageogkkchaaGreat
set_option maxRecDepth 100000
open Go.RowKit Go.ChangeShapes Go.WideShapes

theorem open_int_arg {H : Type} {enc : TypeId × Value → H} {P : Program} {W : World} {t : TypeId} {r : Reach} {b0 : Nat} {k : IntKind} {v : Value} {d : DataW H} {p : List MemPlace} {sp : Nat → Bool}
    (ht : P.underlying t = some (.int k)) (hv : Value.okWide P W r b0 t v) (h : DataW.Trod enc P W 0 sp true t v d p) : ∃ x, v = .int k x ∧ (Lit.int k x).wf = true := by
  obtain ⟨a, rfl, _, _, w0⟩ := open_int ht hv h
  exact ⟨a, rfl, w0⟩
end Go.Proofs.YtkkmageogkkchaaGreat

namespace Go.Proofs.YtkkmageogkkchaaGreat
set_option maxRecDepth 100000
open Go.RowKit
theorem v_int {w : World} {k : IntKind} {x : Int} (h : (Lit.int k x).wf = true) : VR0 (sg w) (.int k x) (.int k x) := .int _ _ (rangeP_wf.2 h)
end Go.Proofs.YtkkmageogkkchaaGreat

namespace Go.Proofs.YtkkmageogkkchaaGreat
set_option maxRecDepth 100000
set_option maxRecDepth 100000
open Go.RowKit
theorem ceil_mono {a a' : Int} (b : Int) (h : a ≤ a') : ceilI a b ≤ ceilI a' b := by
  unfold ceilI
  by_cases h1 : a < 1 ∨ b < 1
  · rw [if_pos h1]
    split
    · omega
    · have := Int.ediv_nonneg (show 0 ≤ a' - 1 by omega) (show 0 ≤ b by omega); omega
  · rw [if_neg h1, if_neg (by omega)]
    have := Int.ediv_le_ediv (show 0 < b by omega) (show a - 1 ≤ a' - 1 by omega)
    omega
theorem ins_mono {a a' : Int} (h : a ≤ a') : insI a ≤ insI a' := by unfold insI; omega
theorem mul_mono {a a' b b' : Int} (h : a ≤ a') (h' : b ≤ b') : mulI a b ≤ mulI a' b' := by
  have h1 := Int.mul_le_mul (ins_mono h) (ins_mono h') (insB b).1 (insB a').1
  unfold mulI; omega
theorem add_mono {a a' b b' : Int} (h : a ≤ a') (h' : b ≤ b') : addI a b ≤ addI a' b' := by unfold addI insI; omega
theorem writes_mono (S : System) (i k : Int) {r r' : Int} (h : r ≤ r') : writesI S i k r ≤ writesI S i k r' := by
  unfold writesI; split
  · exact mul_mono (ceil_mono _ h) (Int.le_refl _)
  · omega
theorem failsO_mono (o : Object) {n n' : Int} (h0 : 0 ≤ n) (h : n ≤ n') : failsO o n ≤ failsO o n' := by
  unfold failsO
  by_cases h1 : n = 0
  · rw [if_pos h1]
    split
    · omega
    · split
      · omega
      · split
        · split
          · exact Int.ediv_nonneg (by omega) (by omega)
          · omega
        · omega
  · have h2 : ¬ n' = 0 := by omega
    rw [if_neg h1, if_neg h2]
    by_cases h3 : o.kind = 3 ∨ o.kind = 5
    · rw [if_pos h3, if_pos h3]; exact h
    · rw [if_neg h3, if_neg h3]
      by_cases h4 : o.kind = 4
      · rw [if_pos h4, if_pos h4]
        by_cases h5 : 2 < o.slots
        · rw [if_pos h5, if_pos h5]; exact Int.ediv_le_ediv (by omega) h
        · rw [if_neg h5, if_neg h5]; exact h
      · rw [if_neg h4, if_neg h4]; omega
theorem fails_mono (S : System) (i k : Int) {r r' : Int} (h : r ≤ r') : failsI S i k r ≤ failsI S i k r' := failsO_mono _ (writes_B S i k r).1 (writes_mono S i k h)
theorem jobTo_mono (S : System) (i : Int) {r r' : Int} (h : r ≤ r') : ∀ m, jobTo S i r m ≤ jobTo S i r' m
  | 0 => Int.le_refl _
  | m + 1 => add_mono (jobTo_mono S i h m) (mul_mono (fails_mono S i m h) (Int.le_refl _))
theorem job_mono (S : System) (i : Int) {r r' : Int} (h : r ≤ r') : jobI S i r ≤ jobI S i r' := by
  unfold jobI; split
  · omega
  · exact jobTo_mono S i h _
end Go.Proofs.YtkkmageogkkchaaGreat

namespace Go.Proofs.YtkkmageogkkchaaGreat
set_option maxRecDepth 100000
set_option maxRecDepth 100000
open Go.RowKit
section
variable {f g : Int → Int} {D : Int}
theorem iter_le (hf : ∀ a b, a ≤ b → f a ≤ f b) {q : Int} (hq : f q ≤ q) : ∀ n r, r ≤ q → (iterF f D n r).2 = 0 → (iterF f D n r).1 ≤ q
  | 0, _, _, h => by simp [iterF] at h
  | n + 1, r, hr, h => by
    rw [iterF] at h ⊢
    by_cases h1 : D < r
    · rw [if_pos h1] at h; simp at h
    rw [if_neg h1] at h ⊢
    by_cases h2 : f r = r
    · rw [if_pos h2] at h ⊢; exact hr
    · rw [if_neg h2] at h ⊢; exact iter_le hf hq n _ (Int.le_trans (hf _ _ hr) hq) h
theorem iter_ge (hf : ∀ a b, a ≤ b → f a ≤ f b) : ∀ n r, r ≤ f r → (iterF f D n r).2 = 0 → r ≤ (iterF f D n r).1
  | 0, _, _, h => by simp [iterF] at h
  | n + 1, r, hr, h => by
    rw [iterF] at h ⊢
    by_cases h1 : D < r
    · rw [if_pos h1] at h; simp at h
    rw [if_neg h1] at h ⊢
    by_cases h2 : f r = r
    · rw [if_pos h2] at h ⊢; exact Int.le_refl _
    · rw [if_neg h2] at h ⊢; exact Int.le_trans hr (iter_ge hf n _ (hf _ _ hr) h)
theorem iter_ok (hf : ∀ a b, a ≤ b → f a ≤ f b) {q : Int} (hq : f q ≤ q) (hD : q ≤ D) : ∀ (n : Nat) r, r ≤ f r → r ≤ q → q - r < n → (iterF f D n r).2 = 0
  | 0, r, _, hr, hn => by omega
  | n + 1, r, hr, hr2, hn => by
    rw [iterF, if_neg (by omega)]
    by_cases h2 : f r = r
    · rw [if_pos h2]
    · rw [if_neg h2]
      exact iter_ok hf hq hD n _ (hf _ _ hr) (Int.le_trans (hf _ _ hr2) hq) (by omega)
theorem iter_zero (hf : ∀ a b, a ≤ b → f a ≤ f b) (h0 : ∀ a, 0 ≤ f a) (h1 : f 1 < 1) (n : Nat) : iterF f D (n + 2) 1 = if D < 1 then (0, 13) else (0, 0) := by
  have e1 : f 1 = 0 := by have := h0 1; omega
  have e0 : f 0 = 0 := by have := h0 0; have := hf 0 1 (by omega); omega
  rw [iterF]
  by_cases hd : D < 1
  · rw [if_pos hd, if_pos hd]
  · rw [if_neg hd, if_neg hd, if_neg (by omega), e1, iterF, if_neg (by omega), if_pos e0]
theorem iter_more (hf : ∀ a b, a ≤ b → f a ≤ f b) (hg : ∀ a b, a ≤ b → g a ≤ g b) (h0 : ∀ a, 0 ≤ f a) (g0 : ∀ a, 0 ≤ g a) (hfg : ∀ a, f a ≤ g a) {n : Nat} (hn : D ≤ n) (he : (iterF g D (n + 2) 1).2 = 0) :
    (iterF f D (n + 2) 1).2 = 0 ∧ (iterF f D (n + 2) 1).1 ≤ (iterF g D (n + 2) 1).1 := by
  have hD : ¬ D < 1 := fun hd => by rw [iterF, if_pos hd] at he; simp at he
  obtain ⟨hq1, hq2⟩ := iter_fix _ _ he
  by_cases hg1 : g 1 < 1
  · rw [iter_zero hg g0 hg1, if_neg hD, iter_zero hf h0 (by have := hfg 1; omega), if_neg hD]
    exact ⟨rfl, Int.le_refl _⟩
  have hge := iter_ge hg _ _ (by omega) he
  generalize (iterF g D (n + 2) 1).1 = q at *
  have hfq : f q ≤ q := by have := hfg q; omega
  by_cases hf1 : f 1 < 1
  · rw [iter_zero hf h0 hf1, if_neg hD]
    exact ⟨rfl, by dsimp only; omega⟩
  have hok := iter_ok hf hfq hq2 (n + 2) 1 (by omega) hge (by omega)
  exact ⟨hok, iter_le hf hfq _ _ hge hok⟩
end
theorem loadTo_mono (S : System) (i : Int) (c : List Int) {r r' : Int} (h : r ≤ r') : ∀ m, loadTo S i r c m ≤ loadTo S i r' c m
  | 0 => job_mono S i h
  | m + 1 => by
    have ih := loadTo_mono S i c h m
    rw [loadTo, loadTo]
    split
    · exact add_mono ih (mul_mono (ceil_mono _ h) (Int.le_refl _))
    · exact ih
theorem load_mono (S : System) (i : Int) (c : List Int) {r r' : Int} (h : r ≤ r') : loadI S i r c ≤ loadI S i r' c := by
  unfold loadI
  split
  · exact Int.le_refl _
  · exact loadTo_mono S i c h _
theorem load_B {S : System} (h : OkS S) (i r : Int) (c : List Int) : 0 ≤ loadI S i r c ∧ loadI S i r c ≤ 1099511627776 := by
  unfold loadI
  split
  · omega
  · exact loadTo_B h i r c _
end Go.Proofs.YtkkmageogkkchaaGreat

