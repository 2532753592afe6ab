/- The agenda, its heap not told, of whatever length. No condition. -/
import Derived.Test.YtfjoaeghnfkdlaaSf
import Derived.Test.YtfjoaeghnfkdlaaLs5
import Derived.Test.YtfjoaeghnfkdlaaUn
import Derived.Test.YtfjoaeghnfkdlaaEx
import Derived.Test.YtfjoaeghnfkdlaaAg6
namespace Go.Proofs.Ytfjoaeghnfkdlaa
set_option linter.unusedSimpArgs false
set_option linter.unusedVariables false
set_option maxRecDepth 100000
set_option linter.unusedSimpArgs false
set_option linter.unusedVariables false
set_option maxRecDepth 100000
open Go.RowKit
theorem list05A_fn (room : Int) (xs : List Due) (hl : xs.length ≤ 1000000) : FnH Try.prog 31 [.ptr 0 0] (agH 4 room xs) (fun r h' => r = .lst 2 ((sortD xs).map eDue) ∧ h' = agH 4 room xs) := by
  by_cases h0 : xs.length ≤ 12
  · exact list05_fn room xs h0
  refine (fnhb Try.func31 (entered_of (by kernel_rfl)) rfl rfl ?_).drop
  repeat' (first | (show W _ _ _ _ _ _; first | apply kA | refine kB rfl ?_ | refine kC rfl rfl ?_ | refine kD rfl rfl ?_ | apply kE | apply kF | apply kG | apply kH | refine kI (by kernel_rfl) (by kernel_rfl) ?_) | (show O _ _ _ _ _ _ _; first | (show O _ _ _ _ (⟨_, .store _ _ _, _, _, _, _⟩ :: _) _ _; refine kJ rfl rfl rfl rfl rfl rfl rfl rfl rfl rfl rfl ?_) | apply kK) | apply kL | ((first | apply kM | apply kN); (iterate 3 (· exact rfl)); (· first | exact ya)) | refine kO rfl rfl rfl rfl rfl ?_ | refine kP rfl rfl rfl ?_ | ((first | refine kQ rfl rfl ?_ ?_ | refine kR rfl rfl rfl rfl rfl ?_ ?_ | refine kS rfl rfl rfl ?_ ?_) <;> intro hc <;> (try simp only [KL, cond_true, cond_false, beq_iff_eq, bne_iff_ne, ne_eq, reduceCtorEq] at hc) <;> (try (have hT : True := hc; clear hT hc)) <;> (try (exfalso; omega))) | apply kT | apply kU | apply kV | apply kW | refine kX rfl ?_ | apply kY | apply kZ)
  refine oturn (turn_dummy eDue 11 41 2 (by omega) rfl) ?_
  refine zcall (fun i => ρ4b i) (cloneO_fn xs hl) rfl rfl leh rfl rfl rfl rfl rfl rfl (fun r h' hR => ?_)
  obtain ⟨rfl, rfl⟩ := hR
  refine ⟨rfl, rfl, ?_⟩
  repeat' (first | (show W _ _ _ _ _ _; first | apply kA | refine kB rfl ?_ | refine kC rfl rfl ?_ | refine kD rfl rfl ?_ | apply kE | apply kF | apply kG | apply kH | refine kI (by kernel_rfl) (by kernel_rfl) ?_) | (show O _ _ _ _ _ _ _; first | (show O _ _ _ _ (⟨_, .store _ _ _, _, _, _, _⟩ :: _) _ _; refine kJ rfl rfl rfl rfl rfl rfl rfl rfl rfl rfl rfl ?_) | apply kK) | apply kL | ((first | apply kM | apply kN); (iterate 3 (· exact rfl)); (· first | exact ya)) | refine kO rfl rfl rfl rfl rfl ?_ | refine kP rfl rfl rfl ?_ | ((first | refine kQ rfl rfl ?_ ?_ | refine kR rfl rfl rfl rfl rfl ?_ ?_ | refine kS rfl rfl rfl ?_ ?_) <;> intro hc <;> (try simp only [KL, cond_true, cond_false, beq_iff_eq, bne_iff_ne, ne_eq, reduceCtorEq] at hc) <;> (try (have hT : True := hc; clear hT hc)) <;> (try (exfalso; omega))) | apply kT | apply kU | apply kV | apply kW | refine kX rfl ?_ | apply kY | apply kZ)
  refine zcall (fun i => ρ4c i) (sortL_Due sortFD rfl rfl 56 (entered_of (by kernel_rfl)) (fun W x y => listC_any x y W) xs (by omega) hl) rfl rfl leh rfl rfl rfl rfl rfl rfl (fun r h' hR => ?_)
  obtain ⟨rfl, rfl⟩ := hR
  refine ⟨rfl, rfl, ?_⟩
  repeat' (first | (show W _ _ _ _ _ _; first | apply kA | refine kB rfl ?_ | refine kC rfl rfl ?_ | refine kD rfl rfl ?_ | apply kE | apply kF | apply kG | apply kH | refine kI (by kernel_rfl) (by kernel_rfl) ?_) | (show O _ _ _ _ _ _ _; first | (show O _ _ _ _ (⟨_, .store _ _ _, _, _, _, _⟩ :: _) _ _; refine kJ rfl rfl rfl rfl rfl rfl rfl rfl rfl rfl rfl ?_) | apply kK) | apply kL | ((first | apply kM | apply kN); (iterate 3 (· exact rfl)); (· first | exact ya)) | refine kO rfl rfl rfl rfl rfl ?_ | refine kP rfl rfl rfl ?_ | ((first | refine kQ rfl rfl ?_ ?_ | refine kR rfl rfl rfl rfl rfl ?_ ?_ | refine kS rfl rfl rfl ?_ ?_) <;> intro hc <;> (try simp only [KL, cond_true, cond_false, beq_iff_eq, bne_iff_ne, ne_eq, reduceCtorEq] at hc) <;> (try (have hT : True := hc; clear hT hc)) <;> (try (exfalso; omega))) | apply kT | apply kU | apply kV | apply kW | refine kX rfl ?_ | apply kY | apply kZ)
  refine retT (fun _ => turn_freeze (t := 2) rfl rfl rfl) ?_
  exact retq rfl ⟨agH 4 room xs, leh, rfl, rfl⟩
/-! The heap not told. -/
def agΨ (S : List Due) : List (List AV) → Prop := fun xs => ∃ l : List Due, xs = l.map eDue ∧ HpA l ∧ l.Perm S
abbrev agB (S : List Due) : Chunk := .sem (exC 41 2 (agΨ S))
/-- .. under a row's name. -/
abbrev agR (r : Nat) (room : Int) (S : List Due) : Heap := [(r, agB S), (0, .blk 99 [.int .i64 room, .own r])]
theorem agB_congr {S S' : List Due} (h : S.Perm S') : agB S = agB S' := by
  have : agΨ S = agΨ S' := by
    funext xs
    exact propext ⟨fun ⟨l, a, b, c⟩ => ⟨l, a, b, c.trans h⟩, fun ⟨l, a, b, c⟩ => ⟨l, a, b, c.trans h.symm⟩⟩
  unfold agB
  rw [this]
theorem push5_fn (room : Int) (S : List Due) (d : Due) (hl : S.length ≤ 10000) : FnH Try.prog 23 [.ptr 0 0, .agg (eDue d)] (agR 5 room S) (fun r h' => r = .int .i64 (pushE room S.length d) ∧ h' = agR 5 room (if pushE room S.length d = 0 then S ++ [d] else S)) := by
  refine FnH.exOpen 5 (entered_of (by kernel_rfl)) (fun xs hx => ?_) rfl
  obtain ⟨l, rfl, h1, h2⟩ := hx
  have hll := h2.length_eq
  refine FnH.exPack 5 (e := 41) (sz := 2) (FnH.mono (FnH.leIn (push05_fn room l d (by omega) h1) leh) ?_)
  rintro r h' ⟨rfl, ys, h3, h4, rfl⟩
  rw [hll] at h4 ⊢
  refine ⟨ys.map eDue, agΨ (if pushE room S.length d = 0 then S ++ [d] else S), rfl, ⟨ys, rfl, h3, h4.trans ?_⟩, agR 5 room (if pushE room S.length d = 0 then S ++ [d] else S), leh, rfl, rfl⟩
  split
  · exact h2.append_right _
  · exact h2
theorem pop5_fn (room : Int) (S : List Due) (hl : S.length ≤ 10000) : FnH Try.prog 25 [.ptr 0 0] (agR 5 room S) (fun r h' => r = .tup [.agg (eDue (dG (sortD S) 0)), .bool (decide (0 < S.length))] ∧ h' = agR 5 room (sortD S).tail) := by
  refine FnH.exOpen 5 (entered_of (by kernel_rfl)) (fun xs hx => ?_) rfl
  obtain ⟨l, rfl, h1, h2⟩ := hx
  have hll := h2.length_eq
  refine FnH.exPack 5 (e := 41) (sz := 2) (FnH.mono (FnH.leIn (pop05_fn room l (by omega) h1) leh) ?_)
  rintro r h' ⟨rfl, ys, h3, h4, h5, rfl⟩
  rw [hll] at h4 h5 ⊢
  have hs : sortD S = sortD l := sortD_congr h2.symm
  by_cases h0 : 0 < S.length
  · have e := sort_pop h1 (h4 h0)
    have e1 : dG (sortD S) 0 = dG l 0 := by rw [hs, e]; rfl
    have e2 : (sortD S).tail = sortD ys := by rw [hs, e]; rfl
    rw [e1, e2]
    exact ⟨ys.map eDue, agΨ (sortD ys), rfl, ⟨ys, rfl, h3, (sortD_perm ys).symm⟩, agR 5 room (sortD ys), leh, rfl, rfl⟩
  · have e0 : S = [] := List.eq_nil_of_length_eq_zero (by omega)
    have el : l = [] := List.eq_nil_of_length_eq_zero (by omega)
    have ey := h5 (by omega)
    subst e0 el ey
    exact ⟨([] : List Due).map eDue, agΨ [], rfl, ⟨[], rfl, h3, List.Perm.refl _⟩, agR 5 room [], leh, rfl, rfl⟩
theorem until5_fn (t room : Int) (S : List Due) (hl : S.length ≤ 10000) : FnH Try.prog 29 [.ptr 0 0, .int .i64 t] (agR 5 room S) (fun r h' => r = .lst 2 ((dueU t (sortD S)).map eDue) ∧ h' = agR 5 room (restU t (sortD S))) := by
  refine FnH.exOpen 5 (entered_of (by kernel_rfl)) (fun xs hx => ?_) rfl
  obtain ⟨l, rfl, h1, h2⟩ := hx
  have hll := h2.length_eq
  refine FnH.exPack 5 (e := 41) (sz := 2) (FnH.mono (FnH.leIn (until05_fn t room l h1 (by omega)) leh) ?_)
  rintro r h' ⟨rfl, ys, h3, h4, rfl⟩
  rw [sortD_congr h2] at h4 ⊢
  exact ⟨ys.map eDue, agΨ (restU t (sortD S)), rfl, ⟨ys, rfl, h3, h4⟩, agR 5 room (restU t (sortD S)), leh, rfl, rfl⟩
theorem peek5_fn (room : Int) (S : List Due) : FnH Try.prog 30 [.ptr 0 0] (agR 4 room S) (fun r h' => r = .tup [.agg (eDue (dG (sortD S) 0)), .bool (decide (0 < S.length))] ∧ h' = agR 4 room S) := by
  refine FnH.exOpen 4 (entered_of (by kernel_rfl)) (fun xs hx => ?_) rfl
  obtain ⟨l, rfl, h1, h2⟩ := hx
  have hll := h2.length_eq
  refine FnH.exPack 4 (e := 41) (sz := 2) (FnH.mono (FnH.leIn (peek05_fn room l) leh) ?_)
  rintro r h' ⟨rfl, rfl⟩
  have hs : sortD S = sortD l := sortD_congr h2.symm
  have e1 : dG (sortD S) 0 = dG l 0 := by
    by_cases h0 : 0 < l.length
    · rw [hs, sort_pop h1 (popD_perm h0)]; rfl
    · have el : l = [] := List.eq_nil_of_length_eq_zero (by omega)
      rw [hs, el]; rfl
  rw [e1, ← hll]
  exact ⟨l.map eDue, agΨ S, rfl, ⟨l, rfl, h1, h2⟩, agR 4 room S, leh, rfl, rfl⟩
theorem len5_fn (room : Int) (S : List Due) : FnH Try.prog 26 [.ptr 0 0] (agR 4 room S) (fun r h' => r = .int .i64 S.length ∧ h' = agR 4 room S) := by
  refine FnH.exOpen 4 (entered_of (by kernel_rfl)) (fun xs hx => ?_) rfl
  obtain ⟨l, rfl, h1, h2⟩ := hx
  refine FnH.exPack 4 (e := 41) (sz := 2) (FnH.mono (FnH.leIn (len05_fn room l) leh) ?_)
  rintro r h' ⟨rfl, rfl⟩
  rw [h2.length_eq]
  exact ⟨l.map eDue, agΨ S, rfl, ⟨l, rfl, h1, h2⟩, agR 4 room S, leh, rfl, rfl⟩
theorem list5_fn (room : Int) (S : List Due) (hl : S.length ≤ 10000) : FnH Try.prog 31 [.ptr 0 0] (agR 4 room S) (fun r h' => r = .lst 2 ((sortD S).map eDue) ∧ h' = agR 4 room S) := by
  refine FnH.exOpen 4 (entered_of (by kernel_rfl)) (fun xs hx => ?_) rfl
  obtain ⟨l, rfl, h1, h2⟩ := hx
  have hll := h2.length_eq
  refine FnH.exPack 4 (e := 41) (sz := 2) (FnH.mono (FnH.leIn (list05A_fn room l (by omega)) leh) ?_)
  rintro r h' ⟨rfl, rfl⟩
  rw [sortD_congr h2]
  exact ⟨l.map eDue, agΨ S, rfl, ⟨l, rfl, h1, h2⟩, agR 4 room S, leh, rfl, rfl⟩
end Go.Proofs.Ytfjoaeghnfkdlaa
