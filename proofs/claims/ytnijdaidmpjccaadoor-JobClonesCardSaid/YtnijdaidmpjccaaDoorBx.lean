/- What a set has, with one more and one less. No condition. -/
import Derived.Test.YtnijdaidmpjccaaDoorBl
import Derived.Test.YtnijdaidmpjccaaDoorBp
import Derived.Test.YtnijdaidmpjccaaDoorAvTl
namespace Go.Proofs.YtnijdaidmpjccaaDoor
set_option linter.unusedSimpArgs false
set_option linter.unusedVariables false
set_option maxRecDepth 100000
set_option linter.unusedSimpArgs false
set_option linter.unusedVariables false
set_option maxRecDepth 100000
open Go.RowKit
def putN (m : Nat) (i : Int) : Nat := m ||| bitN i
def dropN (m : Nat) (i : Int) : Nat := m &&& (2 ^ 64 - (bitN i + 1))
theorem putN_lt {m : Nat} (hm : m < 2 ^ 64) (i : Int) : putN m i < 2 ^ 64 := Nat.or_lt_two_pow hm (bitN_lt i)
theorem dropN_lt {m : Nat} (hm : m < 2 ^ 64) (i : Int) : dropN m i < 2 ^ 64 := Nat.lt_of_le_of_lt Nat.and_le_left hm
theorem or64 {a b : Nat} (ha : a < 2 ^ 64) (hb : b < 2 ^ 64) : bitsV .or .u64 (a : Int) (b : Int) = ((a ||| b : Nat) : Int) := by
  unfold bitsV
  have e : (BitVec.ofInt IntKind.u64.bits (a : Int) ||| BitVec.ofInt IntKind.u64.bits (b : Int)).toNat = a ||| b := by
    rw [BitVec.ofInt_natCast, BitVec.ofInt_natCast, BitVec.toNat_or, BitVec.toNat_ofNat, BitVec.toNat_ofNat]
    show (a % 2 ^ 64) ||| (b % 2 ^ 64) = _
    rw [Nat.mod_eq_of_lt ha, Nat.mod_eq_of_lt hb]
  simp only [e]
  have : a ||| b < 2 ^ 64 := Nat.or_lt_two_pow ha hb
  exact wrap_in (by simp only [rangeP]; omega)
theorem not64 {a b : Nat} (ha : a < 2 ^ 64) (hb : b < 2 ^ 64) : bitsV .andNot .u64 (a : Int) (b : Int) = ((a &&& (2 ^ 64 - (b + 1)) : Nat) : Int) := by
  unfold bitsV
  have e : (BitVec.ofInt IntKind.u64.bits (a : Int) &&& ~~~BitVec.ofInt IntKind.u64.bits (b : Int)).toNat = a &&& (2 ^ 64 - (b + 1)) := by
    rw [BitVec.ofInt_natCast, BitVec.ofInt_natCast, BitVec.toNat_and, BitVec.toNat_not, BitVec.toNat_ofNat, BitVec.toNat_ofNat]
    show (a % 2 ^ 64) &&& (2 ^ 64 - 1 - b % 2 ^ 64) = _
    rw [Nat.mod_eq_of_lt ha, Nat.mod_eq_of_lt hb, Nat.sub_sub, Nat.add_comm 1 b]
  simp only [e]
  have : a &&& (2 ^ 64 - (b + 1)) < 2 ^ 64 := Nat.lt_of_le_of_lt Nat.and_le_left ha
  exact wrap_in (by simp only [rangeP]; omega)
theorem bitN_bit (i : Int) (j : Nat) : (bitN i).testBit j = decide (0 ≤ i ∧ i ≤ 63 ∧ i = (j : Int)) := by
  unfold bitN
  by_cases h : 0 ≤ i ∧ i ≤ 63
  · rw [if_pos h, Nat.testBit_two_pow]
    rw [Bool.eq_iff_iff]
    simp only [decide_eq_true_eq]
    omega
  · rw [if_neg h, Nat.zero_testBit]
    rw [Bool.eq_iff_iff]
    simp only [decide_eq_true_eq, Bool.false_eq_true, false_iff]
    omega
theorem mem_setL {m : Nat} {i : Int} : i ∈ setL m ↔ 0 ≤ i ∧ i ≤ 63 ∧ m.testBit i.toNat = true := by
  unfold setL bitsL
  constructor
  · intro h
    obtain ⟨k, hk, rfl⟩ := List.mem_map.1 h
    obtain ⟨h1, h2⟩ := List.mem_filter.1 hk
    rw [List.mem_range] at h1
    exact ⟨by omega, by omega, by simpa using h2⟩
  · rintro ⟨h1, h2, h3⟩
    exact List.mem_map.2 ⟨i.toNat, List.mem_filter.2 ⟨List.mem_range.2 (by omega), h3⟩, by omega⟩
theorem putN_bit (m : Nat) (i : Int) (j : Nat) : (putN m i).testBit j = (m.testBit j || decide (0 ≤ i ∧ i ≤ 63 ∧ i = (j : Int))) := by
  unfold putN; rw [Nat.testBit_or, bitN_bit]
theorem dropN_bit (m : Nat) (i : Int) (j : Nat) : (dropN m i).testBit j = (m.testBit j && (decide (j < 64) && !decide (0 ≤ i ∧ i ≤ 63 ∧ i = (j : Int)))) := by
  unfold dropN; rw [Nat.testBit_and, Nat.testBit_two_pow_sub_succ (bitN_lt i), bitN_bit]
theorem hasN_eq (m : Nat) (i : Int) : hasN m i = decide (i ∈ setL m) := by
  unfold hasN
  rw [Bool.eq_iff_iff]
  simp only [decide_eq_true_eq]
  rw [mem_setL]
  constructor
  · intro h
    obtain ⟨j, hj⟩ := Nat.exists_testBit_of_ne_zero h
    rw [Nat.testBit_and, bitN_bit, Bool.and_eq_true, decide_eq_true_eq] at hj
    refine ⟨hj.2.1, hj.2.2.1, ?_⟩
    rw [show i.toNat = j by omega]; exact hj.1
  · rintro ⟨h1, h2, h3⟩ h4
    have : (m &&& bitN i).testBit i.toNat = true := by
      rw [Nat.testBit_and, bitN_bit, h3]; simp only [Bool.true_and, decide_eq_true_eq]; omega
    rw [h4, Nat.zero_testBit] at this
    cases this
/-- The set of some numbers. -/
def ofTo (l : List Int) : Nat → Nat
  | 0 => 0
  | k + 1 => 2 * ofTo l k + if (63 - (k : Int)) ∈ l then 1 else 0
/-- Is it among the first of these? -/
def cTo (l : List Int) (v : Int) (j : Nat) : Nat := if v ∈ l.take j then 1 else 0
theorem cTo_le (l : List Int) (v : Int) (j : Nat) : cTo l v j ≤ 1 := by unfold cTo; split <;> omega
theorem cTo_next (l : List Int) (v : Int) {j : Nat} (h : j < l.length) : cTo l v (j + 1) = if l.getD j default = v ∧ cTo l v j = 0 then 1 else cTo l v j := by
  have e : l.getD j default = l[j] := by simp [h]
  have e2 : v ∈ l.take (j + 1) ↔ v ∈ l.take j ∨ v = l[j] := by rw [List.take_succ_eq_append_getElem h, List.mem_append, List.mem_singleton]
  unfold cTo
  rw [e]
  simp only [e2]
  by_cases h1 : v ∈ l.take j
  · simp [h1]
  · by_cases h2 : v = l[j]
    · simp [h1, h2]
    · simp [h1, h2, Ne.symm h2]
theorem ofTo_bit (l : List Int) : ∀ (k j : Nat), k ≤ 64 → (ofTo l k).testBit j = decide (j < k ∧ ((64 - k + j : Nat) : Int) ∈ l)
  | 0, j, h => by rw [ofTo, Nat.zero_testBit]; simp
  | k + 1, j, h => by
    have ih := ofTo_bit l k
    rw [ofTo]
    cases j with
    | zero =>
      have e : ((64 - (k + 1) + 0 : Nat) : Int) = 63 - (k : Int) := by omega
      rw [e]
      by_cases hm : (63 - (k : Int)) ∈ l
      · rw [if_pos hm, odd_bit0]; simp [hm]
      · rw [if_neg hm, Nat.add_zero, ev_bit0]; simp [hm]
    | succ j =>
      have e : (64 - (k + 1) + (j + 1) : Nat) = 64 - k + j := by omega
      rw [e]
      have : (2 * ofTo l k + if (63 - (k : Int)) ∈ l then 1 else 0).testBit (j + 1) = (ofTo l k).testBit j := by
        split
        · exact odd_bit _ _
        · exact ev_bit _ _
      rw [this, ih j (by omega)]
      simp
theorem ofTo_lt (l : List Int) : ∀ k, ofTo l k < 2 ^ k
  | 0 => by simp [ofTo]
  | k + 1 => by
    have := ofTo_lt l k
    rw [ofTo, Nat.pow_succ]; split <;> omega
theorem of_ext {x : Nat} {l : List Int} (hx : x < 2 ^ 64) (h : ∀ j, j < 64 → (x.testBit j = true ↔ (j : Int) ∈ l)) : x = ofTo l 64 := by
  apply Nat.eq_of_testBit_eq
  intro j
  rw [ofTo_bit l 64 j (Nat.le_refl _)]
  by_cases hj : j < 64
  · have := h j hj
    rw [Bool.eq_iff_iff, this]
    simp [hj]
  · rw [Nat.testBit_lt_two_pow (Nat.lt_of_lt_of_le hx (Nat.pow_le_pow_right (by omega) (by omega)))]
    simp [hj]
theorem put_of {m : Nat} (hm : m < 2 ^ 64) (i : Int) : putN m i = ofTo (i :: setL m) 64 :=
  of_ext (putN_lt hm i) fun j hj => by
    rw [putN_bit, Bool.or_eq_true, List.mem_cons, mem_setL, decide_eq_true_eq]
    simp only [Int.toNat_natCast]
    constructor
    · rintro (h | h)
      · exact .inr ⟨by omega, by omega, h⟩
      · exact .inl h.2.2.symm
    · rintro (h | h)
      · exact .inr ⟨by omega, by omega, h.symm⟩
      · exact .inl h.2.2
theorem drop_of {m : Nat} (hm : m < 2 ^ 64) (i : Int) : dropN m i = ofTo ((setL m).filter fun n => !decide (n = i)) 64 :=
  of_ext (dropN_lt hm i) fun j hj => by
    rw [dropN_bit, Bool.and_eq_true, Bool.and_eq_true, List.mem_filter, mem_setL]
    simp only [Int.toNat_natCast, decide_eq_true_eq, Bool.not_eq_true', decide_eq_false_iff_not]
    constructor
    · rintro ⟨h1, h2, h3⟩
      exact ⟨⟨by omega, by omega, h1⟩, fun h4 => h3 ⟨by omega, by omega, h4.symm⟩⟩
    · rintro ⟨⟨h1, h2, h3⟩, h4⟩
      exact ⟨h3, hj, fun h5 => h4 h5.2.2.symm⟩
theorem has_put (m : Nat) (k : Int) : hasN (putN m k) k = (decide (0 ≤ k) && decide (k < 64)) := by
  rw [hasN_eq, Bool.eq_iff_iff]
  simp only [decide_eq_true_eq, Bool.and_eq_true]
  rw [mem_setL, putN_bit]
  simp only [Bool.or_eq_true, decide_eq_true_eq]
  omega
theorem has_drop (m : Nat) (k : Int) : hasN (dropN m k) k = false := by
  rw [hasN_eq, decide_eq_false_iff_not, mem_setL, dropN_bit]
  rintro ⟨h1, h2, h3⟩
  simp only [Bool.and_eq_true, Bool.not_eq_true', decide_eq_false_iff_not] at h3
  exact h3.2.2 ⟨h1, h2, by omega⟩
theorem put_fn (m : Nat) (hm : m < 2 ^ 64) (i : Int) : Fn Tryd.prog 16 [.int .u64 m, .int .i64 i] (.int .u64 (putN m i)) := by
  refine fnb Tryd.func16 (entered_of (by kernel_rfl)) rfl rfl rfl ?_
  repeat' (first | (show W _ _ _ _ _ _; first | apply kA | refine kB rfl ?_ | refine kC rfl rfl ?_ | refine kD rfl rfl ?_ | apply kE | apply kF | apply kG | apply kH | refine kI (by kernel_rfl) (by kernel_rfl) ?_) | (show O _ _ _ _ _ _ _; first | (show O _ _ _ _ (⟨_, .store _ _ _, _, _, _, _⟩ :: _) _ _; refine kJ rfl rfl rfl rfl rfl rfl rfl rfl rfl rfl rfl ?_) | apply kK) | apply kL | ((first | apply kM | apply kN); (iterate 3 (· exact rfl)); (· first | (show Y _ ⟨_, .call ⟨.value _, _, _⟩, _, _, _, _⟩ _ _ _; first | exact q_c (bit_fn i) rfl) | exact ya)) | refine kO rfl rfl rfl rfl rfl ?_ | refine kP rfl rfl rfl ?_ | ((first | refine kQ rfl rfl ?_ ?_ | refine kR rfl rfl rfl rfl rfl ?_ ?_ | refine kS rfl rfl rfl ?_ ?_) <;> intro hc <;> (try simp only [KL, cond_true, cond_false, beq_iff_eq, bne_iff_ne, ne_eq, reduceCtorEq] at hc) <;> (try (have hT : True := hc; clear hT hc)) <;> (try (exfalso; omega))) | apply kT | apply kU | apply kV | apply kW | refine kX rfl ?_ | apply kY | apply kZ)
  exact retq rfl (congrArg (AV.int .u64) (or64 hm (bitN_lt i)))
theorem drop_fn (m : Nat) (hm : m < 2 ^ 64) (i : Int) : Fn Tryd.prog 14 [.int .u64 m, .int .i64 i] (.int .u64 (dropN m i)) := by
  refine fnb Tryd.func14 (entered_of (by kernel_rfl)) rfl rfl rfl ?_
  repeat' (first | (show W _ _ _ _ _ _; first | apply kA | refine kB rfl ?_ | refine kC rfl rfl ?_ | refine kD rfl rfl ?_ | apply kE | apply kF | apply kG | apply kH | refine kI (by kernel_rfl) (by kernel_rfl) ?_) | (show O _ _ _ _ _ _ _; first | (show O _ _ _ _ (⟨_, .store _ _ _, _, _, _, _⟩ :: _) _ _; refine kJ rfl rfl rfl rfl rfl rfl rfl rfl rfl rfl rfl ?_) | apply kK) | apply kL | ((first | apply kM | apply kN); (iterate 3 (· exact rfl)); (· first | (show Y _ ⟨_, .call ⟨.value _, _, _⟩, _, _, _, _⟩ _ _ _; first | exact q_c (bit_fn i) rfl) | exact ya)) | refine kO rfl rfl rfl rfl rfl ?_ | refine kP rfl rfl rfl ?_ | ((first | refine kQ rfl rfl ?_ ?_ | refine kR rfl rfl rfl rfl rfl ?_ ?_ | refine kS rfl rfl rfl ?_ ?_) <;> intro hc <;> (try simp only [KL, cond_true, cond_false, beq_iff_eq, bne_iff_ne, ne_eq, reduceCtorEq] at hc) <;> (try (have hT : True := hc; clear hT hc)) <;> (try (exfalso; omega))) | apply kT | apply kU | apply kV | apply kW | refine kX rfl ?_ | apply kY | apply kZ)
  exact retq rfl (congrArg (AV.int .u64) (not64 hm (bitN_lt i)))
theorem first_fn (m : Nat) (hm : m < 2 ^ 64) : FnT Tryd.prog tabK 9 [.int .u64 m] (.tup [.int .i64 (if m = 0 then 0 else (tzN m : Int)), .bool (!decide (m = 0))]) := by
  refine fntw Tryd.func9 (entered_of (by kernel_rfl)) rfl rfl rfl rfl ?_
  repeat' (first | (show W _ _ _ _ _ _; first | apply kA | refine kB rfl ?_ | refine kC rfl rfl ?_ | refine kD rfl rfl ?_ | apply kE | apply kF | apply kG | apply kH | refine kI (by kernel_rfl) (by kernel_rfl) ?_) | (show O _ _ _ _ _ _ _; first | (show O _ _ _ _ (⟨_, .store _ _ _, _, _, _, _⟩ :: _) _ _; refine kJ rfl rfl rfl rfl rfl rfl rfl rfl rfl rfl rfl ?_) | apply kK) | apply kL | ((first | apply kM | apply kN); (iterate 3 (· exact rfl)); (· first | exact ya | exact Y.mk (ok_callT (id := 9) (tz_fn m hm) rfl rfl))) | refine kO rfl rfl rfl rfl rfl ?_ | refine kP rfl rfl rfl ?_ | ((first | refine kQ rfl rfl ?_ ?_ | refine kR rfl rfl rfl rfl rfl ?_ ?_ | refine kS rfl rfl rfl ?_ ?_) <;> intro hc <;> (try simp only [KL, cond_true, cond_false, beq_iff_eq, bne_iff_ne, ne_eq, reduceCtorEq] at hc) <;> (try (have hT : True := hc; clear hT hc)) <;> (try (exfalso; omega))) | apply kT | apply kU | apply kV | apply kW | refine kX rfl ?_ | apply kY | apply kZ)
  · have e : m = 0 := by omega
    exact retq rfl (by simp [e])
  · have e : ¬ m = 0 := by omega
    exact retq rfl (by simp [e])
theorem of3_fn (l : List Int) (hl : l.length ≤ 1000) : Fn Tryd.prog 15 [.lst 1 (l.map eI)] (.int .u64 (ofTo l 64)) := by
  refine fnb Tryd.func15 (entered_of (by kernel_rfl)) rfl rfl rfl ?_
  repeat' (first | (show W _ _ _ _ _ _; first | apply kA | refine kB rfl ?_ | refine kC rfl rfl ?_ | refine kD rfl rfl ?_ | apply kE | apply kF | apply kG | apply kH | refine kI (by kernel_rfl) (by kernel_rfl) ?_) | (show O _ _ _ _ _ _ _; first | (show O _ _ _ _ (⟨_, .store _ _ _, _, _, _, _⟩ :: _) _ _; refine kJ rfl rfl rfl rfl rfl rfl rfl rfl rfl rfl rfl ?_) | apply kK) | apply kL | ((first | apply kM | apply kN); (iterate 3 (· exact rfl)); (· first | exact ya)) | refine kO rfl rfl rfl rfl rfl ?_ | refine kP rfl rfl rfl ?_ | ((first | refine kQ rfl rfl ?_ ?_ | refine kR rfl rfl rfl rfl rfl ?_ ?_ | refine kS rfl rfl rfl ?_ ?_) <;> intro hc <;> (try simp only [KL, cond_true, cond_false, beq_iff_eq, bne_iff_ne, ne_eq, reduceCtorEq] at hc) <;> (try (have hT : True := hc; clear hT hc)) <;> (try (exfalso; omega))) | apply kT | apply kU | apply kV | apply kW | refine kX rfl ?_ | apply kY | apply kZ)
  refine wloop (fun k : Nat => ([(0, .lst 1 (l.map eI)), (3, .int .u64 (ofTo l k)), (4, .int .i64 (63 - (k : Int)))], [])) (fun k => k ≤ 64) (fun k => 64 - k) 0 (Nat.zero_le _) les leh (fun k hk => ?_)
  have hlt := ofTo_lt l k
  have hle : k < 64 → ofTo l k < 2 ^ 63 := fun h => Nat.lt_of_lt_of_le hlt (Nat.pow_le_pow_right (by omega) (by omega))
  repeat' (first | (show W _ _ _ _ _ _; first | apply kA | refine kB rfl ?_ | refine kC rfl rfl ?_ | refine kD rfl rfl ?_ | apply kE | apply kF | apply kG | apply kH | refine kI (by kernel_rfl) (by kernel_rfl) ?_) | (show O _ _ _ _ _ _ _; first | (show O _ _ _ _ (⟨_, .store _ _ _, _, _, _, _⟩ :: _) _ _; refine kJ rfl rfl rfl rfl rfl rfl rfl rfl rfl rfl rfl ?_) | apply kK) | apply kL | ((first | apply kM | apply kN); (iterate 3 (· exact rfl)); (· first | exact ya)) | refine kO rfl rfl rfl rfl rfl ?_ | refine kP rfl rfl rfl ?_ | ((first | refine kQ rfl rfl ?_ ?_ | refine kR rfl rfl rfl rfl rfl ?_ ?_ | refine kS rfl rfl rfl ?_ ?_) <;> intro hc <;> (try simp only [KL, cond_true, cond_false, beq_iff_eq, bne_iff_ne, ne_eq, reduceCtorEq] at hc) <;> (try (have hT : True := hc; clear hT hc)) <;> (try (exfalso; omega))) | apply kT | apply kU | apply kV | apply kW | refine kX rfl ?_ | apply kY | apply kZ)
  · obtain ⟨x, hx⟩ : ∃ x, x = ofTo l k := ⟨_, rfl⟩
    have hx2 := hle (by omega)
    have hn : ofTo l (k + 1) = 2 * x + cTo l (63 - (k : Int)) l.length := by rw [ofTo, cTo, List.take_length, hx]
    rw [← hx] at hx2 ⊢
    generalize hv : 63 - (k : Int) = v at hn
    have hc0 : cTo l v 0 = 0 := by simp [cTo]
    refine wloop (fun j : Nat => ([(0, .lst 1 (l.map eI)), (3, .int .u64 ((2 * x + cTo l v j : Nat) : Int)), (4, .int .i64 v), (13, .lst 1 (l.map eI)), (14, .int .i64 l.length), (15, .int .i64 j)], [])) (fun j => j ≤ l.length) (fun j => l.length - j) 0 (Nat.zero_le _) les leh (fun j hj => ?_)
    have hc1 := cTo_le l v j
    rcases Nat.lt_or_eq_of_le hj with hj' | hj'
    · have hc2 := cTo_next l v hj'
      repeat' (first | (show W _ _ _ _ _ _; first | apply kA | refine kB rfl ?_ | refine kC rfl rfl ?_ | refine kD rfl rfl ?_ | apply kE | apply kF | apply kG | apply kH | refine kI (by kernel_rfl) (by kernel_rfl) ?_) | (show O _ _ _ _ _ _ _; first | (show O _ _ _ _ (⟨_, .store _ _ _, _, _, _, _⟩ :: _) _ _; refine kJ rfl rfl rfl rfl rfl rfl rfl rfl rfl rfl rfl ?_) | apply kK) | apply kL | ((first | apply kM | apply kN); (iterate 3 (· exact rfl)); (· first | exact ya)) | refine kO rfl rfl rfl rfl rfl ?_ | refine kP rfl rfl rfl ?_ | ((first | refine kQ rfl rfl ?_ ?_ | refine kR rfl rfl rfl rfl rfl ?_ ?_ | refine kS rfl rfl rfl ?_ ?_) <;> intro hc <;> (try simp only [KL, cond_true, cond_false, beq_iff_eq, bne_iff_ne, ne_eq, reduceCtorEq] at hc) <;> (try (have hT : True := hc; clear hT hc)) <;> (try (exfalso; omega))) | apply kT | apply kU | apply kV | apply kW | refine kX rfl ?_ | apply kY | apply kZ)
      · rw [if_pos ⟨by assumption, by omega⟩] at hc2
        exact ⟨j + 1, by omega, by omega, les, leh⟩
      · rw [if_neg (by omega)] at hc2
        exact ⟨j + 1, by omega, by omega, les, leh⟩
      · rw [if_neg (by omega)] at hc2
        exact ⟨j + 1, by omega, by omega, les, leh⟩
    · subst hj'
      repeat' (first | (show W _ _ _ _ _ _; first | apply kA | refine kB rfl ?_ | refine kC rfl rfl ?_ | refine kD rfl rfl ?_ | apply kE | apply kF | apply kG | apply kH | refine kI (by kernel_rfl) (by kernel_rfl) ?_) | (show O _ _ _ _ _ _ _; first | (show O _ _ _ _ (⟨_, .store _ _ _, _, _, _, _⟩ :: _) _ _; refine kJ rfl rfl rfl rfl rfl rfl rfl rfl rfl rfl rfl ?_) | apply kK) | apply kL | ((first | apply kM | apply kN); (iterate 3 (· exact rfl)); (· first | exact ya)) | refine kO rfl rfl rfl rfl rfl ?_ | refine kP rfl rfl rfl ?_ | ((first | refine kQ rfl rfl ?_ ?_ | refine kR rfl rfl rfl rfl rfl ?_ ?_ | refine kS rfl rfl rfl ?_ ?_) <;> intro hc <;> (try simp only [KL, cond_true, cond_false, beq_iff_eq, bne_iff_ne, ne_eq, reduceCtorEq] at hc) <;> (try (have hT : True := hc; clear hT hc)) <;> (try (exfalso; omega))) | apply kT | apply kU | apply kV | apply kW | refine kX rfl ?_ | apply kY | apply kZ)
      all_goals first | (exfalso; omega) | skip
      exact ⟨k + 1, by omega, by omega, les, leh⟩
  · obtain rfl : k = 64 := by omega
    exact retq rfl rfl
end Go.Proofs.YtnijdaidmpjccaaDoor
