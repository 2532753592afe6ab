/- The members of a set, one after the other: the iterator, and who is picked. No condition. -/
import Derived.Test.YtnijdaidmpjccaaDoorTz
import Derived.Test.YtnijdaidmpjccaaDoorAvTop
import Derived.Test.YtnijdaidmpjccaaDoorAvI2
namespace Go.Proofs.YtnijdaidmpjccaaDoor
set_option linter.unusedSimpArgs false
set_option linter.unusedVariables false
set_option maxRecDepth 100000
set_option linter.unusedSimpArgs false
set_option linter.unusedVariables false
set_option maxRecDepth 100000
open Go.RowKit
theorem all_fn (m : Nat) : FnH Tryd.prog 40 [.int .u64 m] [(5, .row 3 1 [])] (fun v h' => v = .fn (.func 62) [] [.ptr 5 0] ∧ h' = [(5, .blk 22 [.int .u64 m])]) := by
  refine fnhb Tryd.func40 (entered_of (by kernel_rfl)) rfl rfl ?_
  refine wle (s' := [(0, .int .u64 m)]) (h' := []) les (LeH.nil _) ?_
  repeat' (first | (show W _ _ _ _ _ _; first | apply kA | refine kB rfl ?_ | refine kC rfl rfl ?_ | refine kD rfl rfl ?_ | apply kE | apply kF | apply kG | apply kH | refine kI (by kernel_rfl) (by kernel_rfl) ?_) | (show O _ _ _ _ _ _ _; first | (show O _ _ _ _ (⟨_, .box _ _, _, _, _, _⟩ :: _) _ _; first | refine ao_box (id := 5) rfl rfl rfl rfl rfl rfl rfl rfl ?_) | (show O _ _ _ _ (⟨_, .store _ _ _, _, _, _, _⟩ :: _) _ _; refine kJ rfl rfl rfl rfl rfl rfl rfl rfl rfl rfl rfl ?_) | apply kK) | apply kL | ((first | apply kM | apply kN); (iterate 3 (· exact rfl)); (· first | exact yab)) | refine kO rfl rfl rfl rfl rfl ?_ | refine kP rfl rfl rfl ?_ | ((first | refine kQ rfl rfl ?_ ?_ | refine kR rfl rfl rfl rfl rfl ?_ ?_ | refine kS rfl rfl rfl ?_ ?_) <;> intro hc <;> (try simp only [KL, cond_true, cond_false, beq_iff_eq, bne_iff_ne, ne_eq, reduceCtorEq] at hc) <;> (try (have hT : True := hc; clear hT hc)) <;> (try (exfalso; omega))) | apply kT | apply kU | apply kV | apply kW | refine kX rfl ?_ | apply kY | apply kZ)
  exact retq rfl ⟨rfl, rfl⟩

def ρp (i : Nat) : Nat := [11, 10, 2, 3, 4, 5, 6, 9, 21, 22].getD i i
/-- What is known while the rounds of a loop over a set are gone through. -/
abbrev setH (l : Nat) (r : Loop) (σ0 : Sig) (m : Nat) (rest : Heap) : Heap := (8, .sem (objC l (.loop r))) :: (9, .sem (knowC σ0)) :: (0, .blk 22 [.int .u64 m]) :: rest
def pickN (prio : List Int) (best i : Int) : Int := if best < 0 ∨ prio.getD best.toNat 0 < prio.getD i.toNat 0 then i else best
theorem pick_rd (prio : List Int) (l : Nat) (r : Loop) (σ0 : Sig) (pins : List (Nat × Value)) (best : Int) (m i : Nat) (hr : r.state = .ready) (hpd : r.pending = none) (hab : rfOf Tryd.f23.body = some (r.params, r.assign, r.body)) (hk : r.tmps.size = Tryd.f23.ntmps)
    (hs : SlotsOk σ0 pins [(2, .ref [.lst 1 (prio.map eI)]), (6, .ptr 1 0)] r.tmps) (hbest : best < prio.length) :
    YF Tryd.prog l pins [.int .i64 i] (setH l r σ0 m [(1, .blk 3 [.int .i64 best]), (7, .sem (thatC tabK))]) (fun b h' => (b = true ∧ i < prio.length ∧ h' = setH l { r with state := .ready, pending := none } σ0 m [(1, .blk 3 [.int .i64 (pickN prio best i)]), (7, .sem (thatC tabK))]) ∨
      (b = false ∧ prio.length ≤ i ∧ h' = setH l { r with state := .done, pending := some (.exit 0) } σ0 m [(1, .blk 3 [.int .i64 best]), (7, .sem (thatC tabK))])) := by
  change Option.some (_, _, _) = some _ at hab
  injection hab with hab
  injection hab with h1 hab
  injection hab with h2 h3
  refine yf_le (yf_body (R := fun b h' => (b = true ∧ i < prio.length ∧ LeH h' (setH l { r with state := .ready, pending := none } σ0 m [(1, .blk 3 [.int .i64 (pickN prio best i)]), (7, .sem (thatC tabK))])) ∨
      (b = false ∧ prio.length ≤ i ∧ LeH h' (setH l { r with state := .done, pending := some (.exit 0) } σ0 m [(1, .blk 3 [.int .i64 best]), (7, .sem (thatC tabK))]))) (idL := 8) (idK := 9) (σ0 := σ0) rfl rfl hr h1.symm hk (by decide) hs ?_) ?_
  · refine wcode h2 ?_
    repeat' (first | (show W _ _ _ _ _ _; first | apply kA | refine kB rfl ?_ | refine kC rfl rfl ?_ | refine kD rfl rfl ?_ | apply kE | apply kF | apply kG | apply kH | refine kI (by kernel_rfl) (by kernel_rfl) ?_) | (show O _ _ _ _ _ _ _; first | (show O _ _ _ _ (⟨_, .store _ _ _, _, _, _, _⟩ :: _) _ _; refine kJ rfl rfl rfl rfl rfl rfl rfl rfl rfl rfl rfl ?_) | apply kK) | apply kL | ((first | apply kM | apply kN); (iterate 3 (· exact rfl)); (· first | exact ya)) | refine kO rfl rfl rfl rfl rfl ?_ | refine kP rfl rfl rfl ?_ | ((first | refine kQ rfl rfl ?_ ?_ | refine kR rfl rfl rfl rfl rfl ?_ ?_ | refine kS rfl rfl rfl ?_ ?_) <;> intro hc <;> (try simp only [KL, cond_true, cond_false, beq_iff_eq, bne_iff_ne, ne_eq, reduceCtorEq] at hc) <;> (try (have hT : True := hc; clear hT hc)) <;> (try (exfalso; omega))) | apply kT | apply kU | apply kV | apply kW | refine kX rfl ?_ | apply kY | apply kZ)
    refine ⟨rfl, ?_⟩
    refine wcode h3 ?_
    repeat' (first | (show W _ _ _ _ _ _; first | apply kA | refine kB rfl ?_ | refine kC rfl rfl ?_ | refine kD rfl rfl ?_ | apply kE | apply kF | apply kG | apply kH | refine kI (by kernel_rfl) (by kernel_rfl) ?_) | (show O _ _ _ _ _ _ _; first | (show O _ _ _ _ (⟨_, .store _ _ _, _, _, _, _⟩ :: _) _ _; refine kJ rfl rfl rfl rfl rfl rfl rfl rfl rfl rfl rfl ?_) | apply kK) | apply kL | ((first | apply kM | apply kN); (iterate 3 (· exact rfl)); (· first | exact ya)) | refine kO rfl rfl rfl rfl rfl ?_ | refine kP rfl rfl rfl ?_ | ((first | refine kQ rfl rfl ?_ ?_ | refine kR rfl rfl rfl rfl rfl ?_ ?_ | refine kS rfl rfl rfl ?_ ?_) <;> intro hc <;> (try simp only [KL, cond_true, cond_false, beq_iff_eq, bne_iff_ne, ne_eq, reduceCtorEq] at hc) <;> (try (have hT : True := hc; clear hT hc)) <;> (try (exfalso; omega))) | apply kT | apply kU | apply kV | apply kW | refine kX rfl ?_ | apply kY | apply kZ)
    · exact ⟨rfl, .inr ⟨rfl, by omega, leh⟩⟩
    · have e : pickN prio best i = i := by unfold pickN; rw [if_pos (.inr (by simpa using hc))]
      exact ⟨rfl, .inl ⟨rfl, by omega, by rw [e]; exact leh⟩⟩
    · have e : pickN prio best i = best := by unfold pickN; rw [if_neg (by intro h; rcases h with h | h; omega; simp at hc h; omega)]
      exact ⟨rfl, .inl ⟨rfl, by omega, by rw [e]; exact leh⟩⟩
    · have e : pickN prio best i = i := by unfold pickN; rw [if_pos (.inl hc)]
      exact ⟨rfl, .inl ⟨rfl, by omega, by rw [e]; exact leh⟩⟩
  · rintro b h' (⟨rfl, h4, h5⟩ | ⟨rfl, h4, h5⟩)
    · exact ⟨_, h5, .inl ⟨rfl, h4, rfl⟩⟩
    · exact ⟨_, h5, .inr ⟨rfl, h4, rfl⟩⟩
def pickF (prio : List Int) : List Nat → Int → Int × Bool
  | [], b => (b, true)
  | i :: r, b => if i < prio.length then pickF prio r (pickN prio b i) else (b, false)
theorem pickN_lt {prio : List Int} {b : Int} {i : Nat} (hb : b < prio.length) (hi : i < prio.length) : pickN prio b i < prio.length := by unfold pickN; split <;> omega
theorem and_lt {x : Nat} (h : 0 < x) : x &&& (x - 1) < x := Nat.lt_of_le_of_lt Nat.and_le_right (by omega)
theorem pick_it (prio : List Int) (m : Nat) (hm : m < 2 ^ 64) (hn : prio.length ≤ 1000000) (l : Nat) (r : Loop) (σ0 : Sig) (pins : List (Nat × Value)) (hr : r.state = .ready) (hpd : r.pending = none) (hab : rfOf Tryd.f23.body = some (r.params, r.assign, r.body)) (hk : r.tmps.size = Tryd.f23.ntmps)
    (hs : SlotsOk σ0 pins [(2, .ref [.lst 1 (prio.map eI)]), (6, .ptr 1 0)] r.tmps) (hp5 : ∀ p ∈ pins, p.1 < 5) :
    FnHp Tryd.prog pins 62 (.fn (.yield l) [] [] :: [.ptr 0 0]) (setH l r σ0 m [(1, .blk 3 [.int .i64 (-1)]), (7, .sem (thatC tabK))]) (fun v h' => v = .tup [] ∧ ∃ m', h' = setH l (if (pickF prio (bitsL m) (-1)).2 then r else { r with state := .done, pending := some (.exit 0) }) σ0 m' [(1, .blk 3 [.int .i64 (pickF prio (bitsL m) (-1)).1]), (7, .sem (thatC tabK))]) := by
  refine fnhbp Tryd.func62 (entered_of (by kernel_rfl)) rfl rfl ?_
  repeat' (first | (show W _ _ _ _ _ _; first | apply kA | refine kB rfl ?_ | refine kC rfl rfl ?_ | refine kD rfl rfl ?_ | apply kE | apply kF | apply kG | apply kH | refine kI (by kernel_rfl) (by kernel_rfl) ?_) | (show O _ _ _ _ _ _ _; first | (show O _ _ _ _ (⟨_, .store _ _ _, _, _, _, _⟩ :: _) _ _; refine kJ rfl rfl rfl rfl rfl rfl rfl rfl rfl rfl rfl ?_) | apply kK) | apply kL | ((first | apply kM | apply kN); (iterate 3 (· exact rfl)); (· first | exact ya)) | refine kO rfl rfl rfl rfl rfl ?_ | refine kP rfl rfl rfl ?_ | ((first | refine kQ rfl rfl ?_ ?_ | refine kR rfl rfl rfl rfl rfl ?_ ?_ | refine kS rfl rfl rfl ?_ ?_) <;> intro hc <;> (try simp only [KL, cond_true, cond_false, beq_iff_eq, bne_iff_ne, ne_eq, reduceCtorEq] at hc) <;> (try (have hT : True := hc; clear hT hc)) <;> (try (exfalso; omega))) | apply kT | apply kU | apply kV | apply kW | refine kX rfl ?_ | apply kY | apply kZ)
  refine wloop (fun x : Nat × Int => ([(0, .fn (.yield l) [] []), (1, .ptr 0 0)], setH l r σ0 x.1 [(1, .blk 3 [.int .i64 x.2]), (7, .sem (thatC tabK))])) (fun x => x.1 < 2 ^ 64 ∧ x.2 < prio.length ∧ pickF prio (bitsL x.1) x.2 = pickF prio (bitsL m) (-1)) (fun x => x.1) (m, -1) ⟨hm, by simp only; omega, rfl⟩ les leh (fun x hx => ?_)
  obtain ⟨x, b⟩ := x
  obtain ⟨h1, h2, h3⟩ := hx
  simp only at h1 h2 h3 ⊢
  repeat' (first | (show W _ _ _ _ _ _; first | apply kA | refine kB rfl ?_ | refine kC rfl rfl ?_ | refine kD rfl rfl ?_ | apply kE | apply kF | apply kG | apply kH | refine kI (by kernel_rfl) (by kernel_rfl) ?_) | (show O _ _ _ _ _ _ _; first | (show O _ _ _ _ (⟨_, .store _ _ _, _, _, _, _⟩ :: _) _ _; refine kJ rfl rfl rfl rfl rfl rfl rfl rfl rfl rfl rfl ?_) | apply kK) | apply kL | ((first | apply kM | apply kN); (iterate 3 (· exact rfl)); (· first | exact ya | exact Y.mk (ok_callT (id := 7) (tz_fn x h1) rfl rfl))) | refine kO rfl rfl rfl rfl rfl ?_ | refine kP rfl rfl rfl ?_ | ((first | refine kQ rfl rfl ?_ ?_ | refine kR rfl rfl rfl rfl rfl ?_ ?_ | refine kS rfl rfl rfl ?_ ?_) <;> intro hc <;> (try simp only [KL, cond_true, cond_false, beq_iff_eq, bne_iff_ne, ne_eq, reduceCtorEq] at hc) <;> (try (have hT : True := hc; clear hT hc)) <;> (try (exfalso; omega))) | apply kT | apply kU | apply kV | apply kW | refine kX rfl ?_ | apply kY | apply kZ)
  · obtain ⟨e1, e2, _⟩ := bits_step (by omega) h1
    have hrd := rdy hr hpd
    refine ycall (fun i => i) (pick_rd prio l r σ0 pins b x (tzN x) hr hpd hab hk hs h2) (fun p hp => hp) hp5 rfl rfl rfl rfl leh rfl rfl rfl rfl rfl rfl (fun r1 h' hR => ?_)
    rw [hrd] at hR
    rcases hR with ⟨rfl, h4, rfl⟩ | ⟨rfl, h4, rfl⟩
    · refine ⟨rfl, ?_⟩
      refine ole (h' := setH l r σ0 x [(1, .blk 3 [.int .i64 (pickN prio b (tzN x))]), (7, .sem (thatC tabK))]) (LeS.refl _) leh ?_
      repeat' (first | (show W _ _ _ _ _ _; first | apply kA | refine kB rfl ?_ | refine kC rfl rfl ?_ | refine kD rfl rfl ?_ | apply kE | apply kF | apply kG | apply kH | refine kI (by kernel_rfl) (by kernel_rfl) ?_) | (show O _ _ _ _ _ _ _; first | (show O _ _ _ _ (⟨_, .store _ _ _, _, _, _, _⟩ :: _) _ _; refine kJ rfl rfl rfl rfl rfl rfl rfl rfl rfl rfl rfl ?_) | apply kK) | apply kL | ((first | apply kM | apply kN); (iterate 3 (· exact rfl)); (· first | exact ya | exact q_w rfl)) | refine kO rfl rfl rfl rfl rfl ?_ | refine kP rfl rfl rfl ?_ | ((first | refine kQ rfl rfl ?_ ?_ | refine kR rfl rfl rfl rfl rfl ?_ ?_ | refine kS rfl rfl rfl ?_ ?_) <;> intro hc <;> (try simp only [KL, cond_true, cond_false, beq_iff_eq, bne_iff_ne, ne_eq, reduceCtorEq] at hc) <;> (try (have hT : True := hc; clear hT hc)) <;> (try (exfalso; omega))) | apply kT | apply kU | apply kV | apply kW | refine kX rfl ?_ | apply kY | apply kZ)
      have e4 : bitsV .and .u64 (x : Int) ((x : Int) - 1) = ((x &&& (x - 1) : Nat) : Int) := by rw [show (x : Int) - 1 = ((x - 1 : Nat) : Int) by omega, and64 h1 (by omega)]
      refine ⟨(x &&& (x - 1), pickN prio b (tzN x)), ⟨Nat.lt_trans (and_lt (by omega)) h1, pickN_lt h2 h4, ?_⟩, and_lt (by omega), les, ?_⟩
      · rw [← h3, e1, pickF, if_pos h4]
      · show LeH _ ((8, _) :: (9, _) :: (0, .blk _ [.int .u64 ((x &&& (x - 1) : Nat) : Int)]) :: _)
        rw [← e4]
        exact leh
    · refine ⟨rfl, ?_⟩
      refine ole (h' := setH l { r with state := .done, pending := some (.exit 0) } σ0 x [(1, .blk 3 [.int .i64 b]), (7, .sem (thatC tabK))]) (LeS.refl _) leh ?_
      repeat' (first | (show W _ _ _ _ _ _; first | apply kA | refine kB rfl ?_ | refine kC rfl rfl ?_ | refine kD rfl rfl ?_ | apply kE | apply kF | apply kG | apply kH | refine kI (by kernel_rfl) (by kernel_rfl) ?_) | (show O _ _ _ _ _ _ _; first | (show O _ _ _ _ (⟨_, .store _ _ _, _, _, _, _⟩ :: _) _ _; refine kJ rfl rfl rfl rfl rfl rfl rfl rfl rfl rfl rfl ?_) | apply kK) | apply kL | ((first | apply kM | apply kN); (iterate 3 (· exact rfl)); (· first | exact ya)) | refine kO rfl rfl rfl rfl rfl ?_ | refine kP rfl rfl rfl ?_ | ((first | refine kQ rfl rfl ?_ ?_ | refine kR rfl rfl rfl rfl rfl ?_ ?_ | refine kS rfl rfl rfl ?_ ?_) <;> intro hc <;> (try simp only [KL, cond_true, cond_false, beq_iff_eq, bne_iff_ne, ne_eq, reduceCtorEq] at hc) <;> (try (have hT : True := hc; clear hT hc)) <;> (try (exfalso; omega))) | apply kT | apply kU | apply kV | apply kW | refine kX rfl ?_ | apply kY | apply kZ)
      have e3 : pickF prio (bitsL m) (-1) = (b, false) := by rw [← h3, e1, pickF, if_neg (by omega)]
      refine retq rfl ⟨rfl, x, ?_⟩
      rw [e3]; rfl
  · obtain rfl : x = 0 := by omega
    have e3 : pickF prio (bitsL m) (-1) = (b, true) := by rw [← h3, bits_zero]; rfl
    refine retn rfl ⟨rfl, 0, ?_⟩
    rw [e3]; rfl
theorem pick_fn (prio : List Int) (m : Nat) (hm : m < 2 ^ 64) (hn : prio.length ≤ 1000000) : FnT Tryd.prog tabK 23 [.lst 1 (prio.map eI), .int .u64 m] (.tup [.int .i64 (max (pickF prio (bitsL m) (-1)).1 0), .bool (decide (0 ≤ (pickF prio (bitsL m) (-1)).1))]) := by
  refine fnt Tryd.func23 (entered_of (by kernel_rfl)) rfl rfl rfl rfl ?_
  refine v_seq (v_w ?_)
  repeat' (first | (show W _ _ _ _ _ _; first | apply kA | refine kB rfl ?_ | refine kC rfl rfl ?_ | refine kD rfl rfl ?_ | apply kE | apply kF | apply kG | apply kH | refine kI (by kernel_rfl) (by kernel_rfl) ?_) | (show O _ _ _ _ _ _ _; first | (show O _ _ _ _ (⟨_, .store _ _ _, _, _, _, _⟩ :: _) _ _; refine kJ rfl rfl rfl rfl rfl rfl rfl rfl rfl rfl rfl ?_) | apply kK) | apply kL | ((first | apply kM | apply kN); (iterate 3 (· exact rfl)); (· first | exact ya)) | refine kO rfl rfl rfl rfl rfl ?_ | refine kP rfl rfl rfl ?_ | ((first | refine kQ rfl rfl ?_ ?_ | refine kR rfl rfl rfl rfl rfl ?_ ?_ | refine kS rfl rfl rfl ?_ ?_) <;> intro hc <;> (try simp only [KL, cond_true, cond_false, beq_iff_eq, bne_iff_ne, ne_eq, reduceCtorEq] at hc) <;> (try (have hT : True := hc; clear hT hc)) <;> (try (exfalso; omega))) | apply kT | apply kU | apply kV | apply kW | refine kX rfl ?_ | apply kY | apply kZ)
  refine vThenN ?_
  refine v_seq (v_w ?_)
  repeat' (first | (show W _ _ _ _ _ _; first | apply kA | refine kB rfl ?_ | refine kC rfl rfl ?_ | refine kD rfl rfl ?_ | apply kE | apply kF | apply kG | apply kH | refine kI (by kernel_rfl) (by kernel_rfl) ?_) | (show O _ _ _ _ _ _ _; first | (show O _ _ _ _ (⟨_, .alloc _, _, _, _, _⟩ :: _) _ _; first | refine ao_alloc (id := 10) rfl rfl rfl rfl rfl rfl rfl ?_) | (show O _ _ _ _ (⟨_, .store _ _ _, _, _, _, _⟩ :: _) _ _; refine kJ rfl rfl rfl rfl rfl rfl rfl rfl rfl rfl rfl ?_) | apply kK) | apply kL | ((first | apply kM | apply kN); (iterate 3 (· exact rfl)); (· first | exact ya)) | refine kO rfl rfl rfl rfl rfl ?_ | refine kP rfl rfl rfl ?_ | ((first | refine kQ rfl rfl ?_ ?_ | refine kR rfl rfl rfl rfl rfl ?_ ?_ | refine kS rfl rfl rfl ?_ ?_) <;> intro hc <;> (try simp only [KL, cond_true, cond_false, beq_iff_eq, bne_iff_ne, ne_eq, reduceCtorEq] at hc) <;> (try (have hT : True := hc; clear hT hc)) <;> (try (exfalso; omega))) | apply kT | apply kU | apply kV | apply kW | refine kX rfl ?_ | apply kY | apply kZ)
  refine vThenN ?_
  refine v_mid (fun D : Nat => ([mark D], [(6, .ptr 10 0)], [(10, .blk 3 [.int .i64 (pickF prio (bitsL m) (-1)).1]), (20, .sem (objC D (.deferred (some []))))])) (v_seq (v_w ?_)) (fun D => ?_)
  repeat' (first | (show W _ _ _ _ _ _; first | apply kA | refine kB rfl ?_ | refine kC rfl rfl ?_ | refine kD rfl rfl ?_ | apply kE | apply kF | apply kG | apply kH | refine kI (by kernel_rfl) (by kernel_rfl) ?_) | (show O _ _ _ _ _ _ _; first | (show O _ _ _ _ (⟨_, .store _ _ _, _, _, _, _⟩ :: _) _ _; refine kJ rfl rfl rfl rfl rfl rfl rfl rfl rfl rfl rfl ?_) | apply kK) | apply kL | ((first | apply kM | apply kN); (iterate 3 (· exact rfl)); (· first | exact ya)) | refine kO rfl rfl rfl rfl rfl ?_ | refine kP rfl rfl rfl ?_ | ((first | refine kQ rfl rfl ?_ ?_ | refine kR rfl rfl rfl rfl rfl ?_ ?_ | refine kS rfl rfl rfl ?_ ?_) <;> intro hc <;> (try simp only [KL, cond_true, cond_false, beq_iff_eq, bne_iff_ne, ne_eq, reduceCtorEq] at hc) <;> (try (have hT : True := hc; clear hT hc)) <;> (try (exfalso; omega))) | apply kT | apply kU | apply kV | apply kW | refine kX rfl ?_ | apply kY | apply kZ)
  refine oturn (turn_dummy eI 11 3 1 (by omega) rfl) ?_
  refine zcall (fun i => i + 6) (all_fn m) rfl rfl leh rfl rfl rfl rfl rfl rfl (fun r h' hR => ?_)
  obtain ⟨rfl, rfl⟩ := hR
  refine ⟨rfl, rfl, ?_⟩
  repeat' (first | (show W _ _ _ _ _ _; first | apply kA | refine kB rfl ?_ | refine kC rfl rfl ?_ | refine kD rfl rfl ?_ | apply kE | apply kF | apply kG | apply kH | refine kI (by kernel_rfl) (by kernel_rfl) ?_) | (show O _ _ _ _ _ _ _; first | (show O _ _ _ _ (⟨_, .store _ _ _, _, _, _, _⟩ :: _) _ _; refine kJ rfl rfl rfl rfl rfl rfl rfl rfl rfl rfl rfl ?_) | apply kK) | apply kL | ((first | apply kM | apply kN); (iterate 3 (· exact rfl)); (· first | exact ya)) | refine kO rfl rfl rfl rfl rfl ?_ | refine kP rfl rfl rfl ?_ | ((first | refine kQ rfl rfl ?_ ?_ | refine kR rfl rfl rfl rfl rfl ?_ ?_ | refine kS rfl rfl rfl ?_ ?_) <;> intro hc <;> (try simp only [KL, cond_true, cond_false, beq_iff_eq, bne_iff_ne, ne_eq, reduceCtorEq] at hc) <;> (try (have hT : True := hc; clear hT hc)) <;> (try (exfalso; omega))) | apply kT | apply kU | apply kV | apply kW | refine kX rfl ?_ | apply kY | apply kZ)
  refine vThenN (v_block ?_)
  refine v_le (s' := [(2, .ref [.lst 1 (prio.map eI)]), (6, .ptr 10 0), (9, .fn (.func 62) [] [.ptr 11 0])]) (h' := [(10, .blk 3 [.int .i64 (-1)]), (11, .blk 22 [.int .u64 m]), (9, .sem (thatC tabK))]) les leh ?_
  refine v_range (ρp) (caps0 := [.ptr 0 0]) (s0 := [(2, .ref [.lst 1 (prio.map eI)]), (6, .ptr 1 0)]) (hin0 := [(0, .blk 22 [.int .u64 m]), (1, .blk 3 [.int .i64 (-1)]), (7, .sem (thatC tabK))]) 20 21 22 (R := fun l r v h' => r.state = .ready ∧ r.pending = none ∧ v = .tup [] ∧ ∃ σ0 m', h' = setH l (if (pickF prio (bitsL m) (-1)).2 then r else { r with state := .done, pending := some (.exit 0) }) σ0 m' [(1, .blk 3 [.int .i64 (pickF prio (bitsL m) (-1)).1]), (7, .sem (thatC tabK))])
    rfl rfl rfl rfl (fun _ => rfl) (fun _ _ _ => rfl) (fun _ _ _ _ => leh) rfl rfl rfl (fun _ _ _ _ => rfl) les rfl (fun l D r σ0 pins q1 q2 q3 q4 q5 q6 q7 q8 => ?_) (fun l D r σ0 v h' hR => ?_) rfl
  · exact fnhp_mono (pick_it prio m hm hn l r σ0 pins q1 q2 (by rw [q3, q4, q5]; rfl) q6 q7 q8) fun v h' ⟨e1, m', e2⟩ => ⟨q1, q2, e1, σ0, m', e2⟩
  · obtain ⟨q1, q2, rfl, σ1, m', rfl⟩ := hR
    cases hp : (pickF prio (bitsL m) (-1)).2 with
    | true =>
      rw [if_pos rfl]
      refine ⟨rfl, r, rfl, by rw [q1]; simp, fun _ => ?_, fun c e => by rw [q2] at e; cases e⟩
      exact vInN (vThenN ⟨D, rfl, les, leh⟩)
    | false =>
      refine ⟨rfl, { r with state := .done, pending := some (.exit 0) }, rfl, by simp, fun e => by simp at e, fun c e => ?_⟩
      injection e with e
      subst e
      refine v_w (wexit (vInE (vThenN ⟨D, rfl, les, leh⟩)))
  · refine v_seq (v_w ?_)
    repeat' (first | (show W _ _ _ _ _ _; first | apply kA | refine kB rfl ?_ | refine kC rfl rfl ?_ | refine kD rfl rfl ?_ | apply kE | apply kF | apply kG | apply kH | refine kI (by kernel_rfl) (by kernel_rfl) ?_) | (show O _ _ _ _ _ _ _; first | (show O _ _ _ _ (⟨_, .store _ _ _, _, _, _, _⟩ :: _) _ _; refine kJ rfl rfl rfl rfl rfl rfl rfl rfl rfl rfl rfl ?_) | apply kK) | apply kL | ((first | apply kM | apply kN); (iterate 3 (· exact rfl)); (· first | exact ya)) | refine kO rfl rfl rfl rfl rfl ?_ | refine kP rfl rfl rfl ?_ | ((first | refine kQ rfl rfl ?_ ?_ | refine kR rfl rfl rfl rfl rfl ?_ ?_ | refine kS rfl rfl rfl ?_ ?_) <;> intro hc <;> (try simp only [KL, cond_true, cond_false, beq_iff_eq, bne_iff_ne, ne_eq, reduceCtorEq] at hc) <;> (try (have hT : True := hc; clear hT hc)) <;> (try (exfalso; omega))) | apply kT | apply kU | apply kV | apply kW | refine kX rfl ?_ | apply kY | apply kZ)
    refine vThenN (v_w (wret ?_))
    refine retv1 (id := 20) rfl rfl (h0 := []) (LeH.nil _) rfl rfl
end Go.Proofs.YtnijdaidmpjccaaDoor
