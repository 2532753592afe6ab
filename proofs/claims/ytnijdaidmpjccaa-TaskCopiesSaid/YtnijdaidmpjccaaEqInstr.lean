/- Whether two slices are the same; no condition. -/
import Derived.Test.YtnijdaidmpjccaaTyInstr
import Derived.Test.YtnijdaidmpjccaaOwn
namespace Go.Proofs.Ytnijdaidmpjccaa
set_option linter.unusedSimpArgs false
set_option linter.unusedVariables false
open Go.RowKit

set_option maxHeartbeats 1000000 in
theorem code_any (A B : Option Addr) (c d : Nat) (xs ys : List Instr) (w : World) (hx : Row Instr.cod 5 w A xs) (hy : Row Instr.cod 5 w B ys) (hn : xs.length ≤ 9223372036854775807) (hm : ys.length ≤ 9223372036854775807) :
   Calls Try.prog 43 #[.slice A xs.length c, .slice B ys.length d] w fun e w' => e = .returned (.bool (decide (xs = ys))) ∧ ∃ k, w' = w.drewN k := by
  by_cases hl : xs.length = ys.length
  · have hl' := bneF (show (xs.length : Int) = ys.length by omega)
    have Hl := hide hl; clear hl
    go_enter Try.func43, Try.ntmps43
    go_wp2
    go_loopw [5, 13] (fun _ i wr => ∃ k m : Nat, k ≤ xs.length ∧ i = .int .i64 k ∧ (∀ j, j < k → xs[j]? = ys[j]?) ∧ wr = w.drewN m) (fun _ i _ => xs.length - (intOf i).toNat)
    case atStart => exact ⟨0, 0, Nat.zero_le _, rfl, fun j hj => absurd hj (by omega), rfl⟩
    case round =>
      obtain ⟨k, m, hk, rfl, heq, rfl⟩ := hrel
      have Heq := hide heq; clear heq
      by_cases hlt : k < xs.length
      · have hlt2 : k < ys.length := by have := Hl.out; omega
        obtain ⟨b1, o1, rfl, hr1⟩ := hx (by omega)
        obtain ⟨b2, o2, rfl, hr2⟩ := hy (by omega)
        obtain ⟨a0, a1, a2, a3, a4, _⟩ := Instr.at hr1 k hlt
        obtain ⟨b0, b1, b2, b3, b4, _⟩ := Instr.at hr2 k hlt2
        generalize hu : xs[k] = u at *
        generalize hv : ys[k] = v at *
        have Hu := hide hu; have Hv := hide hv; clear hu hv
        by_cases he : u = v
        · subst he
          have eqv : ∀ W, _ := fun W => Instr.run_eqIn u u W
          have grd := fun op xo yo xs ys W => Instr.run_guard op xo yo xs ys W
          simp only [decide_true] at eqv
          go_wp2
          go_quiet (fail)
          go_wp2
          go_roundw
          case rel => exact ⟨k + 1, _, by omega, by go_num, fun j hj => by
            rcases Nat.lt_succ_iff_lt_or_eq.1 hj with h | rfl
            · exact Heq.out j h
            · rw [List.getElem?_eq_getElem hlt, List.getElem?_eq_getElem hlt2, Hu.out, Hv.out], by first | rfl | rw [World.drewN_drewN]⟩
          case measure => simp [intOf]; omega
        · have hne : xs ≠ ys := by
            intro h
            have h1 : xs[k]? = ys[k]? := by rw [h]
            rw [List.getElem?_eq_getElem hlt, List.getElem?_eq_getElem hlt2, Hu.out, Hv.out] at h1
            exact he (by simpa using h1)
          have eqv : ∀ W, _ := fun W => Instr.run_eqIn u v W
          have grd := fun op xo yo xs ys W => Instr.run_guard op xo yo xs ys W
          simp only [he, decide_false] at eqv
          go_wp2
          go_quiet (fail)
          go_wp2
          go_ret
          exact ⟨rbool (by simp [hne]), (by first | exact ⟨_, rfl⟩ | exact ⟨_, by rw [World.drewN_drewN]⟩)⟩
      · go_wp2
        go_ret
        exact ⟨rbool (by simp [eq_of_parts Hl.out fun j hj => Heq.out j (by omega)]), _, rfl⟩
  · have hl' := bneT (show ¬ (xs.length : Int) = ys.length by omega)
    have hne : xs ≠ ys := fun h => hl (by rw [h])
    go_enter Try.func43, Try.ntmps43
    go_wp2
    go_ret
    exact ⟨rbool (by simp [hne]), 0, rfl⟩
theorem code_n {A B : Option Addr} {n m c d : Nat} (xs ys : List Instr) {w : World} (hA : xs.length = n) (hB : ys.length = m) (hx : Row Instr.cod 5 w A xs) (hy : Row Instr.cod 5 w B ys) (hn : xs.length ≤ 9223372036854775807) (hm : ys.length ≤ 9223372036854775807) :
   Calls Try.prog 43 #[.slice A n c, .slice B m d] w fun e w' => e = .returned (.bool (decide (xs = ys))) ∧ ∃ k, w' = w.drewN k := by
  subst hA; subst hB; exact code_any A B c d xs ys w hx hy hn hm

set_option maxHeartbeats 1000000 in
theorem equalInstr_any (A B : Option Addr) (c d : Nat) (xs ys : List Instr) (w : World) (hx : Row Instr.cod 5 w A xs) (hy : Row Instr.cod 5 w B ys) (hn : xs.length ≤ 9223372036854775807) (hm : ys.length ≤ 9223372036854775807) :
   Calls Try.prog 44 #[.slice A xs.length c, .slice B ys.length d] w fun e w' => e = .returned (.bool (decide (xs = ys))) ∧ ∃ k, w' = w.drewN k := by
  by_cases hl : xs.length = ys.length
  · have hl' := bneF (show (xs.length : Int) = ys.length by omega)
    have Hl := hide hl; clear hl
    go_enter Try.func44, Try.ntmps44
    go_wp2
    go_loopw [5, 13] (fun _ i wr => ∃ k m : Nat, k ≤ xs.length ∧ i = .int .i64 k ∧ (∀ j, j < k → xs[j]? = ys[j]?) ∧ wr = w.drewN m) (fun _ i _ => xs.length - (intOf i).toNat)
    case atStart => exact ⟨0, 0, Nat.zero_le _, rfl, fun j hj => absurd hj (by omega), rfl⟩
    case round =>
      obtain ⟨k, m, hk, rfl, heq, rfl⟩ := hrel
      have Heq := hide heq; clear heq
      by_cases hlt : k < xs.length
      · have hlt2 : k < ys.length := by have := Hl.out; omega
        obtain ⟨b1, o1, rfl, hr1⟩ := hx (by omega)
        obtain ⟨b2, o2, rfl, hr2⟩ := hy (by omega)
        obtain ⟨a0, a1, a2, a3, a4, _⟩ := Instr.at hr1 k hlt
        obtain ⟨b0, b1, b2, b3, b4, _⟩ := Instr.at hr2 k hlt2
        generalize hu : xs[k] = u at *
        generalize hv : ys[k] = v at *
        have Hu := hide hu; have Hv := hide hv; clear hu hv
        by_cases he : u = v
        · subst he
          have eqv : ∀ W, _ := fun W => Instr.run_eqIn u u W
          have grd := fun op xo yo xs ys W => Instr.run_guard op xo yo xs ys W
          simp only [decide_true] at eqv
          go_wp2
          go_quiet (fail)
          go_wp2
          go_roundw
          case rel => exact ⟨k + 1, _, by omega, by go_num, fun j hj => by
            rcases Nat.lt_succ_iff_lt_or_eq.1 hj with h | rfl
            · exact Heq.out j h
            · rw [List.getElem?_eq_getElem hlt, List.getElem?_eq_getElem hlt2, Hu.out, Hv.out], by first | rfl | rw [World.drewN_drewN]⟩
          case measure => simp [intOf]; omega
        · have hne : xs ≠ ys := by
            intro h
            have h1 : xs[k]? = ys[k]? := by rw [h]
            rw [List.getElem?_eq_getElem hlt, List.getElem?_eq_getElem hlt2, Hu.out, Hv.out] at h1
            exact he (by simpa using h1)
          have eqv : ∀ W, _ := fun W => Instr.run_eqIn u v W
          have grd := fun op xo yo xs ys W => Instr.run_guard op xo yo xs ys W
          simp only [he, decide_false] at eqv
          go_wp2
          go_quiet (fail)
          go_wp2
          go_ret
          exact ⟨rbool (by simp [hne]), (by first | exact ⟨_, rfl⟩ | exact ⟨_, by rw [World.drewN_drewN]⟩)⟩
      · go_wp2
        go_ret
        exact ⟨rbool (by simp [eq_of_parts Hl.out fun j hj => Heq.out j (by omega)]), _, rfl⟩
  · have hl' := bneT (show ¬ (xs.length : Int) = ys.length by omega)
    have hne : xs ≠ ys := fun h => hl (by rw [h])
    go_enter Try.func44, Try.ntmps44
    go_wp2
    go_ret
    exact ⟨rbool (by simp [hne]), 0, rfl⟩
theorem equalInstr_n {A B : Option Addr} {n m c d : Nat} (xs ys : List Instr) {w : World} (hA : xs.length = n) (hB : ys.length = m) (hx : Row Instr.cod 5 w A xs) (hy : Row Instr.cod 5 w B ys) (hn : xs.length ≤ 9223372036854775807) (hm : ys.length ≤ 9223372036854775807) :
   Calls Try.prog 44 #[.slice A n c, .slice B m d] w fun e w' => e = .returned (.bool (decide (xs = ys))) ∧ ∃ k, w' = w.drewN k := by
  subst hA; subst hB; exact equalInstr_any A B c d xs ys w hx hy hn hm
end Go.Proofs.Ytnijdaidmpjccaa
