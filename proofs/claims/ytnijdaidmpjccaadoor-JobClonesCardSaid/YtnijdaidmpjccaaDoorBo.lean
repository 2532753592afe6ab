/- Sets of numbers: put, drop, has, count, first; the waking calls. No condition. -/
import Derived.Test.YtnijdaidmpjccaaDoorCnt
import Derived.Test.YtnijdaidmpjccaaDoorIt
import Derived.Test.YtnijdaidmpjccaaDoorBm1
import Derived.Test.YtnijdaidmpjccaaDoorPlain
namespace Go.Proofs.YtnijdaidmpjccaaDoor
set_option linter.unusedSimpArgs false
set_option linter.unusedVariables false
set_option maxRecDepth 100000
set_option linter.unusedSimpArgs false
set_option linter.unusedVariables false
set_option maxRecDepth 100000
open Go.RowKit
def bitN (i : Int) : Nat := if 0 ≤ i ∧ i ≤ 63 then 2 ^ i.toNat else 0
theorem bitN_lt (i : Int) : bitN i < 2 ^ 64 := by
  unfold bitN; split
  · exact Nat.pow_lt_pow_right (by omega) (by omega)
  · omega
theorem ok_shlN {P : Program} {s : Slots} {h : Heap} {o : Oper} {t yt : TypeId} {x y : Operand} {k k' : IntKind} {a b : Int} (ho : o.op = .binOp .shl t x y yt) (hx : evA s x = .int k a) (hy : evA s y = .int k' b) (h0 : 0 ≤ b) : OkO P o s h (.int k (k.wrap (a * 2 ^ min b.toNat k.bits))) := by
  have hb : binA .shl (.int k a) (.int k' b) = some (0 ≤ b, .int k (k.wrap (a * 2 ^ min b.toNat k.bits))) := rfl
  have hs : stepO P s h o = some (0 ≤ b, .int k (k.wrap (a * 2 ^ min b.toNat k.bits))) := by
    unfold stepO; simp only [ho, hx, hy, hb]
  exact stepO_sound hs h0
theorem bit_e {i : Int} (h0 : 0 ≤ i) (h1 : i ≤ 63) : IntKind.u64.wrap (1 * 2 ^ min i.toNat IntKind.u64.bits) = (bitN i : Int) := by
  have h := bitN_lt i
  have e : (1 : Int) * 2 ^ min i.toNat IntKind.u64.bits = (bitN i : Int) := by
    unfold bitN
    rw [if_pos ⟨h0, h1⟩, show min i.toNat IntKind.u64.bits = i.toNat by simp [IntKind.bits]; omega]
    simp
  rw [e]
  exact wrap_in (by simp only [rangeP]; omega)
theorem bit_fn (i : Int) : Fn Tryd.prog 42 [.int .i64 i] (.int .u64 (bitN i)) := by
  refine fnb Tryd.func42 (entered_of (by kernel_rfl)) rfl rfl rfl ?_
  repeat' (first | (show W _ _ _ _ _ _; first | apply kA | refine kB rfl ?_ | refine kC rfl rfl ?_ | refine kD rfl rfl ?_ | apply kE | apply kF | apply kG | apply kH | refine kI (by kernel_rfl) (by kernel_rfl) ?_) | (show O _ _ _ _ _ _ _; first | (show O _ _ _ _ (⟨_, .store _ _ _, _, _, _, _⟩ :: _) _ _; refine kJ rfl rfl rfl rfl rfl rfl rfl rfl rfl rfl rfl ?_) | apply kK) | apply kL | ((first | apply kM | apply kN); (iterate 3 (· exact rfl)); (· first | exact ya | exact Y.mk (ok_shlN rfl rfl rfl (by omega)))) | refine kO rfl rfl rfl rfl rfl ?_ | refine kP rfl rfl rfl ?_ | ((first | refine kQ rfl rfl ?_ ?_ | refine kR rfl rfl rfl rfl rfl ?_ ?_ | refine kS rfl rfl rfl ?_ ?_) <;> intro hc <;> (try simp only [KL, cond_true, cond_false, beq_iff_eq, bne_iff_ne, ne_eq, reduceCtorEq] at hc) <;> (try (have hT : True := hc; clear hT hc)) <;> (try (exfalso; omega))) | apply kT | apply kU | apply kV | apply kW | refine kX rfl ?_ | apply kY | apply kZ)
  · exact retq rfl (congrArg (AV.int .u64) (by rw [bitN, if_neg (by omega)]; rfl))
  · exact retq rfl (congrArg (AV.int .u64) (bit_e (by omega) (by omega)))
  · exact retq rfl (congrArg (AV.int .u64) (by rw [bitN, if_neg (by omega)]; rfl))
def hasN (m : Nat) (i : Int) : Bool := decide (m &&& bitN i ≠ 0)
theorem has_fn (m : Nat) (hm : m < 2 ^ 64) (i : Int) : Fn Tryd.prog 13 [.int .u64 m, .int .i64 i] (.bool (hasN m i)) := by
  refine fnb Tryd.func13 (entered_of (by kernel_rfl)) rfl rfl rfl ?_
  repeat' (first | (show W _ _ _ _ _ _; first | apply kA | refine kB rfl ?_ | refine kC rfl rfl ?_ | refine kD rfl rfl ?_ | apply kE | apply kF | apply kG | apply kH | refine kI (by kernel_rfl) (by kernel_rfl) ?_) | (show O _ _ _ _ _ _ _; first | (show O _ _ _ _ (⟨_, .store _ _ _, _, _, _, _⟩ :: _) _ _; refine kJ rfl rfl rfl rfl rfl rfl rfl rfl rfl rfl rfl ?_) | apply kK) | apply kL | ((first | apply kM | apply kN); (iterate 3 (· exact rfl)); (· first | (show Y _ ⟨_, .call ⟨.value _, _, _⟩, _, _, _, _⟩ _ _ _; first | exact q_c (bit_fn i) rfl) | exact ya)) | refine kO rfl rfl rfl rfl rfl ?_ | refine kP rfl rfl rfl ?_ | ((first | refine kQ rfl rfl ?_ ?_ | refine kR rfl rfl rfl rfl rfl ?_ ?_ | refine kS rfl rfl rfl ?_ ?_) <;> intro hc <;> (try simp only [KL, cond_true, cond_false, beq_iff_eq, bne_iff_ne, ne_eq, reduceCtorEq] at hc) <;> (try (have hT : True := hc; clear hT hc)) <;> (try (exfalso; omega))) | apply kT | apply kU | apply kV | apply kW | refine kX rfl ?_ | apply kY | apply kZ)
  refine retq rfl (congrArg AV.bool ?_)
  rw [and64 hm (bitN_lt i)]
  unfold hasN
  rw [decide_not]
  congr 1
  rw [Bool.eq_iff_iff]
  simp
theorem count_fn (m : Nat) (hm : m < 2 ^ 64) : Fn Tryd.prog 12 [.int .u64 m] (.int .i64 ((bitsL m).length)) := by
  have c1 := ones_fn m hm
  rw [← bitsL_len] at c1
  refine fnb Tryd.func12 (entered_of (by kernel_rfl)) rfl rfl rfl ?_
  repeat' (first | (show W _ _ _ _ _ _; first | apply kA | refine kB rfl ?_ | refine kC rfl rfl ?_ | refine kD rfl rfl ?_ | apply kE | apply kF | apply kG | apply kH | refine kI (by kernel_rfl) (by kernel_rfl) ?_) | (show O _ _ _ _ _ _ _; first | (show O _ _ _ _ (⟨_, .store _ _ _, _, _, _, _⟩ :: _) _ _; refine kJ rfl rfl rfl rfl rfl rfl rfl rfl rfl rfl rfl ?_) | apply kK) | apply kL | ((first | apply kM | apply kN); (iterate 3 (· exact rfl)); (· first | (show Y _ ⟨_, .call ⟨.value _, _, _⟩, _, _, _, _⟩ _ _ _; first | exact q_c (c1) rfl) | exact ya)) | refine kO rfl rfl rfl rfl rfl ?_ | refine kP rfl rfl rfl ?_ | ((first | refine kQ rfl rfl ?_ ?_ | refine kR rfl rfl rfl rfl rfl ?_ ?_ | refine kS rfl rfl rfl ?_ ?_) <;> intro hc <;> (try simp only [KL, cond_true, cond_false, beq_iff_eq, bne_iff_ne, ne_eq, reduceCtorEq] at hc) <;> (try (have hT : True := hc; clear hT hc)) <;> (try (exfalso; omega))) | apply kT | apply kU | apply kV | apply kW | refine kX rfl ?_ | apply kY | apply kZ)
  exact retq rfl rfl
theorem awake03_fn : FnT Tryd.prog tabK 17 [] (.bool true) := by
  have c1 := pick_fn [1, 5, 5] 5 (by omega) (by decide)
  rw [show (pickF [1, 5, 5] (bitsL 5) (-1)) = (2, true) by decide] at c1
  have c2 := order_fn [1, 5, 5] (by decide)
  rw [show ordL [1, 5, 5] ([1, 5, 5] : List Int).length = [1, 2, 0] by decide] at c2
  have c3 := pl_Ints [1, 2, 0] [1, 2, 0]
  have c4 := has_fn 5 (by omega) 2
  rw [show hasN 5 2 = true by decide] at c4
  have c5 := count_fn 5 (by omega)
  rw [show ((bitsL 5).length : Int) = 2 by decide] at c5
  refine fntw Tryd.func17 (entered_of (by kernel_rfl)) rfl rfl rfl rfl ?_
  repeat' (first | (show W _ _ _ _ _ _; first | apply kA | refine kB rfl ?_ | refine kC rfl rfl ?_ | refine kD rfl rfl ?_ | apply kE | apply kF | apply kG | apply kH | refine kI (by kernel_rfl) (by kernel_rfl) ?_) | (show O _ _ _ _ _ _ _; first | (show O _ _ _ _ (⟨_, .store _ _ _, _, _, _, _⟩ :: _) _ _; refine kJ rfl rfl rfl rfl rfl rfl rfl rfl rfl rfl rfl ?_) | apply kK) | apply kL | ((first | apply kM | apply kN); (iterate 3 (· exact rfl)); (· first | (show Y _ ⟨_, .call ⟨.value _, _, _⟩, _, _, _, _⟩ _ _ _; first | exact q_c (c2) rfl | exact q_c (c3) rfl | exact q_c (c4) rfl | exact q_c (c5) rfl) | exact ya | exact Y.mk (ok_callT (id := 9) c1 rfl rfl))) | refine kO rfl rfl rfl rfl rfl ?_ | refine kP rfl rfl rfl ?_ | ((first | refine kQ rfl rfl ?_ ?_ | refine kR rfl rfl rfl rfl rfl ?_ ?_ | refine kS rfl rfl rfl ?_ ?_) <;> intro hc <;> (try simp only [KL, cond_true, cond_false, beq_iff_eq, bne_iff_ne, ne_eq, reduceCtorEq] at hc) <;> (try (have hT : True := hc; clear hT hc)) <;> (try (exfalso; omega))) | apply kT | apply kU | apply kV | apply kW | refine kX rfl ?_ | apply kY | apply kZ)
  exact retq rfl rfl
end Go.Proofs.YtnijdaidmpjccaaDoor
namespace Go.Proofs.YtnijdaidmpjccaaDoor
set_option linter.unusedSimpArgs false
set_option linter.unusedVariables false
set_option maxRecDepth 100000
set_option linter.unusedSimpArgs false
set_option linter.unusedVariables false
set_option maxRecDepth 100000
open Go.RowKit
theorem rk_zero (prio : List Int) (i : Int) : rk prio 0 i = 0 := rfl
theorem rk_next (prio : List Int) (j : Nat) (i : Int) : rk prio (j + 1) i = rk prio j i + if befB prio (j : Int) i then 1 else 0 := by
  unfold rk idx
  rw [List.range_succ, List.map_append, List.countP_append]
  congr 1
  cases h : befB prio (j : Int) i <;> simp [h]
theorem rk_le (prio : List Int) (j : Nat) (i : Int) : rk prio j i ≤ j := by
  have := List.countP_le_length (l := idx j) (p := fun k => befB prio k i)
  rw [idx_len] at this
  exact this
def rkTo (prio : List Int) (k : Nat) : List Int := (List.range k).map fun j : Nat => (rk prio prio.length (j : Int) : Int)
theorem rkTo_next (prio : List Int) (k : Nat) : rkTo prio (k + 1) = rkTo prio k ++ [(rk prio prio.length (k : Int) : Int)] := by simp [rkTo, List.range_succ]
theorem rkTo_all (prio : List Int) : rkTo prio prio.length = rkL prio prio.length := rfl
theorem rkTo_len (prio : List Int) (k : Nat) : (rkTo prio k).length = k := by simp [rkTo]
theorem bef_fn (prio : List Int) (a b : Int) (ha : 0 ≤ a ∧ a < prio.length) (hb : 0 ≤ b ∧ b < prio.length) : Fn Tryd.prog 43 [.lst 1 (prio.map eI), .int .i64 a, .int .i64 b] (.bool (befB prio a b)) := by
  refine fnb Tryd.func43 (entered_of (by kernel_rfl)) rfl rfl rfl ?_
  repeat' (first | (show W _ _ _ _ _ _; first | apply kA | refine kB rfl ?_ | refine kC rfl rfl ?_ | refine kD rfl rfl ?_ | apply kE | apply kF | apply kG | apply kH | refine kI (by kernel_rfl) (by kernel_rfl) ?_) | (show O _ _ _ _ _ _ _; first | (show O _ _ _ _ (⟨_, .store _ _ _, _, _, _, _⟩ :: _) _ _; refine kJ rfl rfl rfl rfl rfl rfl rfl rfl rfl rfl rfl ?_) | apply kK) | apply kL | ((first | apply kM | apply kN); (iterate 3 (· exact rfl)); (· first | exact ya)) | refine kO rfl rfl rfl rfl rfl ?_ | refine kP rfl rfl rfl ?_ | ((first | refine kQ rfl rfl ?_ ?_ | refine kR rfl rfl rfl rfl rfl ?_ ?_ | refine kS rfl rfl rfl ?_ ?_) <;> intro hc <;> (try simp only [KL, cond_true, cond_false, beq_iff_eq, bne_iff_ne, ne_eq, reduceCtorEq] at hc) <;> (try (have hT : True := hc; clear hT hc)) <;> (try (exfalso; omega))) | apply kT | apply kU | apply kV | apply kW | refine kX rfl ?_ | apply kY | apply kZ)
  all_goals exact retq rfl (congrArg AV.bool (by unfold befB pr; rw [Bool.eq_iff_iff]; simp only [cond_true, cond_false, decide_eq_true_eq, true_iff, false_iff, Bool.false_eq_true, Bool.false_and, Bool.true_and, iff_true, iff_false]; omega))
theorem rranks3_fn (prio : List Int) (hn : prio.length ≤ 1000000) : Fn Tryd.prog 19 [.lst 1 (prio.map eI)] (.lst 1 ((rkL prio prio.length).map eI)) := by
  refine fnb Tryd.func19 (entered_of (by kernel_rfl)) rfl rfl rfl ?_
  repeat' (first | (show W _ _ _ _ _ _; first | apply kA | refine kB rfl ?_ | refine kC rfl rfl ?_ | refine kD rfl rfl ?_ | apply kE | apply kF | apply kG | apply kH | refine kI (by kernel_rfl) (by kernel_rfl) ?_) | (show O _ _ _ _ _ _ _; first | (show O _ _ _ _ (⟨_, .store _ _ _, _, _, _, _⟩ :: _) _ _; refine kJ rfl rfl rfl rfl rfl rfl rfl rfl rfl rfl rfl ?_) | apply kK) | apply kL | ((first | apply kM | apply kN); (iterate 3 (· exact rfl)); (· first | exact ya)) | refine kO rfl rfl rfl rfl rfl ?_ | refine kP rfl rfl rfl ?_ | ((first | refine kQ rfl rfl ?_ ?_ | refine kR rfl rfl rfl rfl rfl ?_ ?_ | refine kS rfl rfl rfl ?_ ?_) <;> intro hc <;> (try simp only [KL, cond_true, cond_false, beq_iff_eq, bne_iff_ne, ne_eq, reduceCtorEq] at hc) <;> (try (have hT : True := hc; clear hT hc)) <;> (try (exfalso; omega))) | apply kT | apply kU | apply kV | apply kW | refine kX rfl ?_ | apply kY | apply kZ)
  refine wturn (turn_own eI (t := 3) rfl 10 3 1 (by omega) rfl) ?_
  refine wloop (fun k : Nat => ([(0, .lst 1 (prio.map eI)), (3, .own 10), (8, .int .i64 prio.length), (9, .int .i64 k)], [(10, .row 3 1 ((rkTo prio k).map eI))])) (fun k => k ≤ prio.length) (fun k => prio.length - k) 0 (Nat.zero_le _) les leh (fun k hk => ?_)
  have hl := rkTo_len prio k
  repeat' (first | (show W _ _ _ _ _ _; first | apply kA | refine kB rfl ?_ | refine kC rfl rfl ?_ | refine kD rfl rfl ?_ | apply kE | apply kF | apply kG | apply kH | refine kI (by kernel_rfl) (by kernel_rfl) ?_) | (show O _ _ _ _ _ _ _; first | (show O _ _ _ _ (⟨_, .store _ _ _, _, _, _, _⟩ :: _) _ _; refine kJ rfl rfl rfl rfl rfl rfl rfl rfl rfl rfl rfl ?_) | apply kK) | apply kL | ((first | apply kM | apply kN); (iterate 3 (· exact rfl)); (· first | exact ya)) | refine kO rfl rfl rfl rfl rfl ?_ | refine kP rfl rfl rfl ?_ | ((first | refine kQ rfl rfl ?_ ?_ | refine kR rfl rfl rfl rfl rfl ?_ ?_ | refine kS rfl rfl rfl ?_ ?_) <;> intro hc <;> (try simp only [KL, cond_true, cond_false, beq_iff_eq, bne_iff_ne, ne_eq, reduceCtorEq] at hc) <;> (try (have hT : True := hc; clear hT hc)) <;> (try (exfalso; omega))) | apply kT | apply kU | apply kV | apply kW | refine kX rfl ?_ | apply kY | apply kZ)
  · refine wloop (fun j : Nat => ([(0, .lst 1 (prio.map eI)), (3, .own 10), (4, .int .i64 k), (5, .int .i64 (rk prio j k)), (8, .int .i64 prio.length), (9, .int .i64 k), (13, .int .i64 prio.length), (14, .int .i64 j)], [(10, .row 3 1 ((rkTo prio k).map eI))])) (fun j => j ≤ prio.length) (fun j => prio.length - j) 0 (Nat.zero_le _) les leh (fun j hj => ?_)
    have h1 := rk_le prio j k
    have h2 := rk_next prio j k
    rcases Nat.lt_or_eq_of_le hj with hj' | hj'
    · have c1 := bef_fn prio j k (by omega) (by omega)
      repeat' (first | (show W _ _ _ _ _ _; first | apply kA | refine kB rfl ?_ | refine kC rfl rfl ?_ | refine kD rfl rfl ?_ | apply kE | apply kF | apply kG | apply kH | refine kI (by kernel_rfl) (by kernel_rfl) ?_) | (show O _ _ _ _ _ _ _; first | (show O _ _ _ _ (⟨_, .store _ _ _, _, _, _, _⟩ :: _) _ _; refine kJ rfl rfl rfl rfl rfl rfl rfl rfl rfl rfl rfl ?_) | apply kK) | apply kL | ((first | apply kM | apply kN); (iterate 3 (· exact rfl)); (· first | (show Y _ ⟨_, .call ⟨.value _, _, _⟩, _, _, _, _⟩ _ _ _; first | exact q_c (c1) rfl) | exact ya)) | refine kO rfl rfl rfl rfl rfl ?_ | refine kP rfl rfl rfl ?_ | ((first | refine kQ rfl rfl ?_ ?_ | refine kR rfl rfl rfl rfl rfl ?_ ?_ | refine kS rfl rfl rfl ?_ ?_) <;> intro hc <;> (try simp only [KL, cond_true, cond_false, beq_iff_eq, bne_iff_ne, ne_eq, reduceCtorEq] at hc) <;> (try (have hT : True := hc; clear hT hc)) <;> (try (exfalso; omega))) | apply kT | apply kU | apply kV | apply kW | refine kX rfl ?_ | apply kY | apply kZ)
      · rw [if_pos hc] at h2
        exact ⟨j + 1, by omega, by omega, les, leh⟩
      · rw [if_neg (by simp [hc])] at h2
        exact ⟨j + 1, by omega, by omega, les, leh⟩
      all_goals omega
    · subst hj'
      repeat' (first | (show W _ _ _ _ _ _; first | apply kA | refine kB rfl ?_ | refine kC rfl rfl ?_ | refine kD rfl rfl ?_ | apply kE | apply kF | apply kG | apply kH | refine kI (by kernel_rfl) (by kernel_rfl) ?_) | (show O _ _ _ _ _ _ _; first | (show O _ _ _ _ (⟨_, .store _ _ _, _, _, _, _⟩ :: _) _ _; refine kJ rfl rfl rfl rfl rfl rfl rfl rfl rfl rfl rfl ?_) | apply kK) | apply kL | ((first | apply kM | apply kN); (iterate 3 (· exact rfl)); (· first | exact ya)) | refine kO rfl rfl rfl rfl rfl ?_ | refine kP rfl rfl rfl ?_ | ((first | refine kQ rfl rfl ?_ ?_ | refine kR rfl rfl rfl rfl rfl ?_ ?_ | refine kS rfl rfl rfl ?_ ?_) <;> intro hc <;> (try simp only [KL, cond_true, cond_false, beq_iff_eq, bne_iff_ne, ne_eq, reduceCtorEq] at hc) <;> (try (have hT : True := hc; clear hT hc)) <;> (try (exfalso; omega))) | apply kT | apply kU | apply kV | apply kW | refine kX rfl ?_ | apply kY | apply kZ)
      all_goals first | (exfalso; omega) | skip
      · (refine ao_ap (id := 10) (ys := [(rk prio prio.length (k : Int) : Int)]) (by_ := 8) rfl rfl rfl rfl rfl rfl rfl rfl rfl rfl (fun _ _ => rfl) ?_ ?_ rfl rfl rfl rfl rfl ?_; (· (first | omega | ((try simp only [List.length_cons, List.length_nil, List.length_append, List.length_map]) <;> omega))); (· (first | omega | ((try simp only [List.length_cons, List.length_nil, List.length_append, List.length_map]) <;> omega))))
        repeat' (first | (show W _ _ _ _ _ _; first | apply kA | refine kB rfl ?_ | refine kC rfl rfl ?_ | refine kD rfl rfl ?_ | apply kE | apply kF | apply kG | apply kH | refine kI (by kernel_rfl) (by kernel_rfl) ?_) | (show O _ _ _ _ _ _ _; first | (show O _ _ _ _ (⟨_, .store _ _ _, _, _, _, _⟩ :: _) _ _; refine kJ rfl rfl rfl rfl rfl rfl rfl rfl rfl rfl rfl ?_) | apply kK) | apply kL | ((first | apply kM | apply kN); (iterate 3 (· exact rfl)); (· first | exact ya)) | refine kO rfl rfl rfl rfl rfl ?_ | refine kP rfl rfl rfl ?_ | ((first | refine kQ rfl rfl ?_ ?_ | refine kR rfl rfl rfl rfl rfl ?_ ?_ | refine kS rfl rfl rfl ?_ ?_) <;> intro hc <;> (try simp only [KL, cond_true, cond_false, beq_iff_eq, bne_iff_ne, ne_eq, reduceCtorEq] at hc) <;> (try (have hT : True := hc; clear hT hc)) <;> (try (exfalso; omega))) | apply kT | apply kU | apply kV | apply kW | refine kX rfl ?_ | apply kY | apply kZ)
        exact ⟨k + 1, by omega, by omega, les, by simp only [rkTo_next]; exact leh⟩
  · obtain rfl : k = prio.length := by omega
    rw [rkTo_all]
    refine retT (fun _ => turn_freeze (t := 2) rfl rfl rfl) ?_
    exact retq rfl rfl
/-- Everybody laid at its rank. -/
theorem rord_next {prio : List Int} {n : Nat} {o out : List Int} (h : Ord prio n o) {k : Nat} (hk : k < n) (hl : out.length = n) (hj : ∀ j, j < k → out.getD (rk prio n (j : Int)) default = (j : Int)) :
    ∀ j, j < k + 1 → (out.set (rk prio n (k : Int)) (k : Int)).getD (rk prio n (j : Int)) default = (j : Int) := by
  intro j hjk
  have hm := h.back (i := (k : Int)) (by omega)
  by_cases e : j = k
  · subst e
    rw [List.getD_eq_getElem?_getD (l := out.set _ _), List.getElem?_set_self (by omega)]; rfl
  · have hm2 := h.back (i := (j : Int)) (by omega)
    have hne : rk prio n (k : Int) ≠ rk prio n (j : Int) := fun e2 => by
      have h1 := hm.2
      rw [e2, hm2.2] at h1
      omega
    have := hj j (by omega)
    simp only [List.getD_eq_getElem?_getD] at *
    rw [List.getElem?_set_ne hne]
    exact this
theorem rord_done {prio : List Int} {n : Nat} {o out : List Int} (h : Ord prio n o) (hl : out.length = n) (hj : ∀ j, j < n → out.getD (rk prio n (j : Int)) default = (j : Int)) : out = ordL prio n := by
  rw [← h.eq]
  refine List.ext_getElem (by rw [hl, h.len]) fun k h1 h2 => ?_
  have hk : k < n := by rw [← hl]; exact h1
  have h3 := h.at hk
  have h5 := hj (o.getD k default).toNat (by omega)
  rw [show (((o.getD k default).toNat : Nat) : Int) = o.getD k default by omega, h.rank hk] at h5
  have e : out.getD k default = out[k] := by simp [h1]
  have e2 : o.getD k default = o[k] := by simp [h2]
  rw [e, e2] at h5
  exact h5
theorem rorder3_fn (prio : List Int) (hn : prio.length ≤ 1000000) : Fn Tryd.prog 21 [.lst 1 (prio.map eI)] (.lst 1 ((ordL prio prio.length).map eI)) := by
  obtain ⟨o, ho⟩ := ord_ex prio prio.length
  have c1 := rranks3_fn prio hn
  refine fnb Tryd.func21 (entered_of (by kernel_rfl)) rfl rfl rfl ?_
  repeat' (first | (show W _ _ _ _ _ _; first | apply kA | refine kB rfl ?_ | refine kC rfl rfl ?_ | refine kD rfl rfl ?_ | apply kE | apply kF | apply kG | apply kH | refine kI (by kernel_rfl) (by kernel_rfl) ?_) | (show O _ _ _ _ _ _ _; first | (show O _ _ _ _ (⟨_, .store _ _ _, _, _, _, _⟩ :: _) _ _; refine kJ rfl rfl rfl rfl rfl rfl rfl rfl rfl rfl rfl ?_) | apply kK) | apply kL | ((first | apply kM | apply kN); (iterate 3 (· exact rfl)); (· first | exact ya)) | refine kO rfl rfl rfl rfl rfl ?_ | refine kP rfl rfl rfl ?_ | ((first | refine kQ rfl rfl ?_ ?_ | refine kR rfl rfl rfl rfl rfl ?_ ?_ | refine kS rfl rfl rfl ?_ ?_) <;> intro hc <;> (try simp only [KL, cond_true, cond_false, beq_iff_eq, bne_iff_ne, ne_eq, reduceCtorEq] at hc) <;> (try (have hT : True := hc; clear hT hc)) <;> (try (exfalso; omega))) | apply kT | apply kU | apply kV | apply kW | refine kX rfl ?_ | apply kY | apply kZ)
  (refine ao_mk (f := eI) (d := (0 : Int)) (id := 10) (by_ := 8) (sz := 1) rfl rfl rfl rfl rfl rfl rfl rfl rfl rfl ?_ ?_ rfl rfl rfl rfl ?_; (· omega); (· omega))
  repeat' (first | (show W _ _ _ _ _ _; first | apply kA | refine kB rfl ?_ | refine kC rfl rfl ?_ | refine kD rfl rfl ?_ | apply kE | apply kF | apply kG | apply kH | refine kI (by kernel_rfl) (by kernel_rfl) ?_) | (show O _ _ _ _ _ _ _; first | (show O _ _ _ _ (⟨_, .store _ _ _, _, _, _, _⟩ :: _) _ _; refine kJ rfl rfl rfl rfl rfl rfl rfl rfl rfl rfl rfl ?_) | apply kK) | apply kL | ((first | apply kM | apply kN); (iterate 3 (· exact rfl)); (· first | (show Y _ ⟨_, .call ⟨.value _, _, _⟩, _, _, _, _⟩ _ _ _; first | exact q_c (c1) rfl) | exact ya)) | refine kO rfl rfl rfl rfl rfl ?_ | refine kP rfl rfl rfl ?_ | ((first | refine kQ rfl rfl ?_ ?_ | refine kR rfl rfl rfl rfl rfl ?_ ?_ | refine kS rfl rfl rfl ?_ ?_) <;> intro hc <;> (try simp only [KL, cond_true, cond_false, beq_iff_eq, bne_iff_ne, ne_eq, reduceCtorEq] at hc) <;> (try (have hT : True := hc; clear hT hc)) <;> (try (exfalso; omega))) | apply kT | apply kU | apply kV | apply kW | refine kX rfl ?_ | apply kY | apply kZ)
  have hlr := rkL_len prio prio.length
  refine wloop (fun x : Nat × List Int => ([(3, .own 10), (10, .lst 1 ((rkL prio prio.length).map eI)), (11, .int .i64 prio.length), (12, .int .i64 x.1)], [(10, .row 3 1 (x.2.map eI))])) (fun x => x.1 ≤ prio.length ∧ x.2.length = prio.length ∧ ∀ j, j < x.1 → x.2.getD (rk prio prio.length (j : Int)) default = (j : Int)) (fun x => prio.length - x.1) (0, List.replicate prio.length 0) ⟨Nat.zero_le _, by simp, fun j hj => by simp at hj⟩ les leh (fun x hx => ?_)
  obtain ⟨k, out⟩ := x
  obtain ⟨k1, k2, k3⟩ := hx
  simp only at k1 k2 k3 ⊢
  rcases Nat.lt_or_eq_of_le k1 with hk | hk
  · have h1 := ho.back (i := (k : Int)) (by omega)
    have h2 := rord_next ho hk k2 k3
    have h3 := rkL_at prio hk
    repeat' (first | (show W _ _ _ _ _ _; first | apply kA | refine kB rfl ?_ | refine kC rfl rfl ?_ | refine kD rfl rfl ?_ | apply kE | apply kF | apply kG | apply kH | refine kI (by kernel_rfl) (by kernel_rfl) ?_) | (show O _ _ _ _ _ _ _; first | (show O _ _ _ _ (⟨_, .store _ _ _, _, _, _, _⟩ :: _) _ _; refine kJ rfl rfl rfl rfl rfl rfl rfl rfl rfl rfl rfl ?_) | apply kK) | apply kL | ((first | apply kM | apply kN); (iterate 3 (· exact rfl)); (· first | exact ya)) | refine kO rfl rfl rfl rfl rfl ?_ | refine kP rfl rfl rfl ?_ | ((first | refine kQ rfl rfl ?_ ?_ | refine kR rfl rfl rfl rfl rfl ?_ ?_ | refine kS rfl rfl rfl ?_ ?_) <;> intro hc <;> (try simp only [KL, cond_true, cond_false, beq_iff_eq, bne_iff_ne, ne_eq, reduceCtorEq] at hc) <;> (try (have hT : True := hc; clear hT hc)) <;> (try (exfalso; omega))) | apply kT | apply kU | apply kV | apply kW | refine kX rfl ?_ | apply kY | apply kZ)
    all_goals first | (exfalso; omega) | skip
    (refine ao_se (x' := (k : Int)) rfl rfl rfl rfl rfl rfl rfl rfl rfl ?_ rfl rfl rfl ?_; (· (first | omega | ((try simp only [List.length_set, List.length_cons, List.length_nil, List.length_append, List.length_map]) <;> omega))))
    repeat' (first | (show W _ _ _ _ _ _; first | apply kA | refine kB rfl ?_ | refine kC rfl rfl ?_ | refine kD rfl rfl ?_ | apply kE | apply kF | apply kG | apply kH | refine kI (by kernel_rfl) (by kernel_rfl) ?_) | (show O _ _ _ _ _ _ _; first | (show O _ _ _ _ (⟨_, .store _ _ _, _, _, _, _⟩ :: _) _ _; refine kJ rfl rfl rfl rfl rfl rfl rfl rfl rfl rfl rfl ?_) | apply kK) | apply kL | ((first | apply kM | apply kN); (iterate 3 (· exact rfl)); (· first | exact ya)) | refine kO rfl rfl rfl rfl rfl ?_ | refine kP rfl rfl rfl ?_ | ((first | refine kQ rfl rfl ?_ ?_ | refine kR rfl rfl rfl rfl rfl ?_ ?_ | refine kS rfl rfl rfl ?_ ?_) <;> intro hc <;> (try simp only [KL, cond_true, cond_false, beq_iff_eq, bne_iff_ne, ne_eq, reduceCtorEq] at hc) <;> (try (have hT : True := hc; clear hT hc)) <;> (try (exfalso; omega))) | apply kT | apply kU | apply kV | apply kW | refine kX rfl ?_ | apply kY | apply kZ)
    rw [h3, Int.toNat_natCast]
    exact ⟨(k + 1, out.set (rk prio prio.length (k : Int)) (k : Int)), ⟨hk, by simpa using k2, h2⟩, by simp only; omega, les, leh⟩
  · subst hk
    have h2 := rord_done ho k2 k3
    subst h2
    repeat' (first | (show W _ _ _ _ _ _; first | apply kA | refine kB rfl ?_ | refine kC rfl rfl ?_ | refine kD rfl rfl ?_ | apply kE | apply kF | apply kG | apply kH | refine kI (by kernel_rfl) (by kernel_rfl) ?_) | (show O _ _ _ _ _ _ _; first | (show O _ _ _ _ (⟨_, .store _ _ _, _, _, _, _⟩ :: _) _ _; refine kJ rfl rfl rfl rfl rfl rfl rfl rfl rfl rfl rfl ?_) | apply kK) | apply kL | ((first | apply kM | apply kN); (iterate 3 (· exact rfl)); (· first | exact ya)) | refine kO rfl rfl rfl rfl rfl ?_ | refine kP rfl rfl rfl ?_ | ((first | refine kQ rfl rfl ?_ ?_ | refine kR rfl rfl rfl rfl rfl ?_ ?_ | refine kS rfl rfl rfl ?_ ?_) <;> intro hc <;> (try simp only [KL, cond_true, cond_false, beq_iff_eq, bne_iff_ne, ne_eq, reduceCtorEq] at hc) <;> (try (have hT : True := hc; clear hT hc)) <;> (try (exfalso; omega))) | apply kT | apply kU | apply kV | apply kW | refine kX rfl ?_ | apply kY | apply kZ)
    all_goals first | (exfalso; omega) | skip
    refine retT (fun _ => turn_freeze (t := 2) rfl rfl rfl) ?_
    exact retq rfl rfl
/-- The members, each as a number. -/
def setL (m : Nat) : List Int := (bitsL m).map fun i : Nat => (i : Int)
def bitsTo (m k : Nat) : List Int := ((List.range k).filter m.testBit).map fun i : Nat => (i : Int)
theorem bitsTo_next (m k : Nat) : bitsTo m (k + 1) = bitsTo m k ++ (if m / 2 ^ k % 2 = 1 then [(k : Int)] else []) := by
  unfold bitsTo
  rw [List.range_succ, List.filter_append, List.map_append]
  congr 1
  have e : m.testBit k = decide (m / 2 ^ k % 2 = 1) := Nat.testBit_eq_decide_div_mod_eq
  rw [List.filter_cons, e]
  by_cases h : m / 2 ^ k % 2 = 1 <;> simp [h]
theorem bitsTo_len (m k : Nat) : (bitsTo m k).length ≤ k := by
  unfold bitsTo
  rw [List.length_map]
  refine Nat.le_trans (List.length_filter_le _ _) (by simp)
theorem list3_fn (m : Nat) (hm : m < 2 ^ 64) : Fn Tryd.prog 8 [.int .u64 m] (.lst 1 ((setL m).map eI)) := by
  refine fnb Tryd.func8 (entered_of (by kernel_rfl)) rfl rfl rfl ?_
  repeat' (first | (show W _ _ _ _ _ _; first | apply kA | refine kB rfl ?_ | refine kC rfl rfl ?_ | refine kD rfl rfl ?_ | apply kE | apply kF | apply kG | apply kH | refine kI (by kernel_rfl) (by kernel_rfl) ?_) | (show O _ _ _ _ _ _ _; first | (show O _ _ _ _ (⟨_, .store _ _ _, _, _, _, _⟩ :: _) _ _; refine kJ rfl rfl rfl rfl rfl rfl rfl rfl rfl rfl rfl ?_) | apply kK) | apply kL | ((first | apply kM | apply kN); (iterate 3 (· exact rfl)); (· first | exact ya)) | refine kO rfl rfl rfl rfl rfl ?_ | refine kP rfl rfl rfl ?_ | ((first | refine kQ rfl rfl ?_ ?_ | refine kR rfl rfl rfl rfl rfl ?_ ?_ | refine kS rfl rfl rfl ?_ ?_) <;> intro hc <;> (try simp only [KL, cond_true, cond_false, beq_iff_eq, bne_iff_ne, ne_eq, reduceCtorEq] at hc) <;> (try (have hT : True := hc; clear hT hc)) <;> (try (exfalso; omega))) | apply kT | apply kU | apply kV | apply kW | refine kX rfl ?_ | apply kY | apply kZ)
  refine wturn (turn_own eI (t := 3) rfl 10 3 1 (by omega) rfl) ?_
  refine wloop (fun k : Nat => ([(0, .int .u64 (m / 2 ^ k : Nat)), (3, .own 10), (4, .int .i64 k)], [(10, .row 3 1 ((bitsTo m k).map eI))])) (fun k => k ≤ 64) (fun k => 64 - k) 0 (Nat.zero_le _) les leh (fun k hk => ?_)
  have hl := bitsTo_len m k
  have h1 := bitsTo_next m k
  have h2 : m / 2 ^ (k + 1) = m / 2 ^ k / 2 := by rw [Nat.pow_succ, Nat.div_div_eq_div_mul]
  have h3 : m / 2 ^ k < 2 ^ 64 := Nat.lt_of_le_of_lt (Nat.div_le_self _ _) hm
  generalize hx : m / 2 ^ k = x at h1 h2 h3 ⊢
  repeat' (first | (show W _ _ _ _ _ _; first | apply kA | refine kB rfl ?_ | refine kC rfl rfl ?_ | refine kD rfl rfl ?_ | apply kE | apply kF | apply kG | apply kH | refine kI (by kernel_rfl) (by kernel_rfl) ?_) | (show O _ _ _ _ _ _ _; first | (show O _ _ _ _ (⟨_, .store _ _ _, _, _, _, _⟩ :: _) _ _; refine kJ rfl rfl rfl rfl rfl rfl rfl rfl rfl rfl rfl ?_) | apply kK) | apply kL | ((first | apply kM | apply kN); (iterate 3 (· exact rfl)); (· first | exact ya)) | refine kO rfl rfl rfl rfl rfl ?_ | refine kP rfl rfl rfl ?_ | ((first | refine kQ rfl rfl ?_ ?_ | refine kR rfl rfl rfl rfl rfl ?_ ?_ | refine kS rfl rfl rfl ?_ ?_) <;> intro hc <;> (try simp only [KL, cond_true, cond_false, beq_iff_eq, bne_iff_ne, ne_eq, reduceCtorEq] at hc) <;> (try (have hT : True := hc; clear hT hc)) <;> (try (exfalso; omega))) | apply kT | apply kU | apply kV | apply kW | refine kX rfl ?_ | apply kY | apply kZ)
  · rw [if_pos (by omega)] at h1
    (refine ao_ap (id := 10) (ys := [(k : Int)]) (by_ := 8) rfl rfl rfl rfl rfl rfl rfl rfl rfl rfl (fun _ _ => rfl) ?_ ?_ rfl rfl rfl rfl rfl ?_; (· (first | omega | ((try simp only [List.length_cons, List.length_nil, List.length_append, List.length_map]) <;> omega))); (· (first | omega | ((try simp only [List.length_cons, List.length_nil, List.length_append, List.length_map]) <;> omega))))
    repeat' (first | (show W _ _ _ _ _ _; first | apply kA | refine kB rfl ?_ | refine kC rfl rfl ?_ | refine kD rfl rfl ?_ | apply kE | apply kF | apply kG | apply kH | refine kI (by kernel_rfl) (by kernel_rfl) ?_) | (show O _ _ _ _ _ _ _; first | (show O _ _ _ _ (⟨_, .store _ _ _, _, _, _, _⟩ :: _) _ _; refine kJ rfl rfl rfl rfl rfl rfl rfl rfl rfl rfl rfl ?_) | apply kK) | apply kL | ((first | apply kM | apply kN); (iterate 3 (· exact rfl)); (· first | exact ya)) | refine kO rfl rfl rfl rfl rfl ?_ | refine kP rfl rfl rfl ?_ | ((first | refine kQ rfl rfl ?_ ?_ | refine kR rfl rfl rfl rfl rfl ?_ ?_ | refine kS rfl rfl rfl ?_ ?_) <;> intro hc <;> (try simp only [KL, cond_true, cond_false, beq_iff_eq, bne_iff_ne, ne_eq, reduceCtorEq] at hc) <;> (try (have hT : True := hc; clear hT hc)) <;> (try (exfalso; omega))) | apply kT | apply kU | apply kV | apply kW | refine kX rfl ?_ | apply kY | apply kZ)
    exact ⟨k + 1, by omega, by omega, by simp only [h2]; exact les, by simp only [h1]; exact leh⟩
  · rw [if_neg (by omega), List.append_nil] at h1
    exact ⟨k + 1, by omega, by omega, by simp only [h2]; exact les, by simp only [h1]; exact leh⟩
  · obtain rfl : k = 64 := by omega
    show RetQ _ _ (fun v _ => v = .lst 1 ((bitsTo m 64).map eI)) _ _ _
    refine retT (fun _ => turn_freeze (t := 2) rfl rfl rfl) ?_
    exact retq rfl rfl
/-- The document's pick, step by step. -/
def pick1 (prio : List Int) (b i : Int) : Int := if 0 ≤ i ∧ i < prio.length ∧ (b < 0 ∨ befB prio i b = true) then i else b
def pickTo (prio l : List Int) (k : Nat) : Int := (l.take k).foldl (pick1 prio) (-1)
theorem pickTo_next (prio : List Int) {l : List Int} {k : Nat} (h : k < l.length) : pickTo prio l (k + 1) = pick1 prio (pickTo prio l k) (l.getD k default) := by
  unfold pickTo
  rw [List.take_succ_eq_append_getElem h, List.foldl_append]
  simp [h]
theorem pickTo_lt (prio l : List Int) (k : Nat) : -1 ≤ pickTo prio l k ∧ pickTo prio l k < prio.length := by
  unfold pickTo
  have : ∀ (q : List Int) (b : Int), -1 ≤ b ∧ b < prio.length → -1 ≤ q.foldl (pick1 prio) b ∧ q.foldl (pick1 prio) b < prio.length := by
    intro q
    induction q with
    | nil => intro b h; exact h
    | cons x q ih =>
      intro b h
      rw [List.foldl_cons]
      refine ih _ ?_
      unfold pick1; split <;> omega
  exact this _ _ (by omega)
theorem rpick3_fn (prio l : List Int) (hn : prio.length ≤ 1000000) (hl : l.length ≤ 1000000) : Fn Tryd.prog 22 [.lst 1 (prio.map eI), .lst 1 (l.map eI)] (.int .i64 (pickTo prio l l.length)) := by
  refine fnb Tryd.func22 (entered_of (by kernel_rfl)) rfl rfl rfl ?_
  repeat' (first | (show W _ _ _ _ _ _; first | apply kA | refine kB rfl ?_ | refine kC rfl rfl ?_ | refine kD rfl rfl ?_ | apply kE | apply kF | apply kG | apply kH | refine kI (by kernel_rfl) (by kernel_rfl) ?_) | (show O _ _ _ _ _ _ _; first | (show O _ _ _ _ (⟨_, .store _ _ _, _, _, _, _⟩ :: _) _ _; refine kJ rfl rfl rfl rfl rfl rfl rfl rfl rfl rfl rfl ?_) | apply kK) | apply kL | ((first | apply kM | apply kN); (iterate 3 (· exact rfl)); (· first | exact ya)) | refine kO rfl rfl rfl rfl rfl ?_ | refine kP rfl rfl rfl ?_ | ((first | refine kQ rfl rfl ?_ ?_ | refine kR rfl rfl rfl rfl rfl ?_ ?_ | refine kS rfl rfl rfl ?_ ?_) <;> intro hc <;> (try simp only [KL, cond_true, cond_false, beq_iff_eq, bne_iff_ne, ne_eq, reduceCtorEq] at hc) <;> (try (have hT : True := hc; clear hT hc)) <;> (try (exfalso; omega))) | apply kT | apply kU | apply kV | apply kW | refine kX rfl ?_ | apply kY | apply kZ)
  refine wloop (fun k : Nat => ([(0, .lst 1 (prio.map eI)), (5, .int .i64 (pickTo prio l k)), (8, .lst 1 (l.map eI)), (9, .int .i64 l.length), (10, .int .i64 k)], [])) (fun k => k ≤ l.length) (fun k => l.length - k) 0 (Nat.zero_le _) les leh (fun k hk => ?_)
  have h1 := pickTo_lt prio l k
  rcases Nat.lt_or_eq_of_le hk with hk' | hk'
  · have h2 := pickTo_next prio hk'
    unfold pick1 at h2
    generalize pickTo prio l k = b at h1 h2 ⊢
    repeat' (first | (show W _ _ _ _ _ _; first | apply kA | refine kB rfl ?_ | refine kC rfl rfl ?_ | refine kD rfl rfl ?_ | apply kE | apply kF | apply kG | apply kH | refine kI (by kernel_rfl) (by kernel_rfl) ?_) | (show O _ _ _ _ _ _ _; first | (show O _ _ _ _ (⟨_, .store _ _ _, _, _, _, _⟩ :: _) _ _; refine kJ rfl rfl rfl rfl rfl rfl rfl rfl rfl rfl rfl ?_) | apply kK) | apply kL | ((first | apply kM | apply kN); (iterate 3 (· exact rfl)); (· first | (show Y _ ⟨_, .call ⟨.value _, _, _⟩, _, _, _, _⟩ _ _ _; first | exact q_c (bef_fn prio (l.getD k default) b (by omega) (by omega)) rfl) | exact ya)) | refine kO rfl rfl rfl rfl rfl ?_ | refine kP rfl rfl rfl ?_ | ((first | refine kQ rfl rfl ?_ ?_ | refine kR rfl rfl rfl rfl rfl ?_ ?_ | refine kS rfl rfl rfl ?_ ?_) <;> intro hc <;> (try simp only [KL, cond_true, cond_false, beq_iff_eq, bne_iff_ne, ne_eq, reduceCtorEq] at hc) <;> (try (have hT : True := hc; clear hT hc)) <;> (try (exfalso; omega))) | apply kT | apply kU | apply kV | apply kW | refine kX rfl ?_ | apply kY | apply kZ)
    · rw [if_pos ⟨by omega, by omega, .inr (by simpa using hc)⟩] at h2
      exact ⟨k + 1, by omega, by omega, by simp only [h2]; exact les, leh⟩
    · rw [if_neg (fun h => by rcases h.2.2 with h3 | h3; omega; rw [h3] at hc; simp at hc)] at h2
      exact ⟨k + 1, by omega, by omega, by simp only [h2]; exact les, leh⟩
    · rw [if_pos ⟨by omega, by omega, .inl hc⟩] at h2
      exact ⟨k + 1, by omega, by omega, by simp only [h2]; exact les, leh⟩
    · rw [if_neg (fun h => by omega)] at h2
      exact ⟨k + 1, by omega, by omega, by simp only [h2]; exact les, leh⟩
    · rw [if_neg (fun h => by omega)] at h2
      exact ⟨k + 1, by omega, by omega, by simp only [h2]; exact les, leh⟩
  · subst hk'
    repeat' (first | (show W _ _ _ _ _ _; first | apply kA | refine kB rfl ?_ | refine kC rfl rfl ?_ | refine kD rfl rfl ?_ | apply kE | apply kF | apply kG | apply kH | refine kI (by kernel_rfl) (by kernel_rfl) ?_) | (show O _ _ _ _ _ _ _; first | (show O _ _ _ _ (⟨_, .store _ _ _, _, _, _, _⟩ :: _) _ _; refine kJ rfl rfl rfl rfl rfl rfl rfl rfl rfl rfl rfl ?_) | apply kK) | apply kL | ((first | apply kM | apply kN); (iterate 3 (· exact rfl)); (· first | exact ya)) | refine kO rfl rfl rfl rfl rfl ?_ | refine kP rfl rfl rfl ?_ | ((first | refine kQ rfl rfl ?_ ?_ | refine kR rfl rfl rfl rfl rfl ?_ ?_ | refine kS rfl rfl rfl ?_ ?_) <;> intro hc <;> (try simp only [KL, cond_true, cond_false, beq_iff_eq, bne_iff_ne, ne_eq, reduceCtorEq] at hc) <;> (try (have hT : True := hc; clear hT hc)) <;> (try (exfalso; omega))) | apply kT | apply kU | apply kV | apply kW | refine kX rfl ?_ | apply kY | apply kZ)
    all_goals first | (exfalso; omega) | skip
    exact retq rfl rfl
end Go.Proofs.YtnijdaidmpjccaaDoor
namespace Go.Proofs.YtnijdaidmpjccaaDoor
set_option linter.unusedSimpArgs false
set_option linter.unusedVariables false
set_option maxRecDepth 100000
set_option linter.unusedSimpArgs false
set_option linter.unusedVariables false
set_option maxRecDepth 100000
open Go.RowKit
theorem fnt_call {P : Program} {kn : Know} {f : FuncId} {args : List AV} {r : AV} (h : FnT P kn f args r) : FnT P kn f args r := h
theorem orders_law (prio : List Int) : FnT Tryd.prog tabK 4 [.lst 1 (prio.map eI)] (.bool true) := by
  refine fntw Tryd.func4 (entered_of (by kernel_rfl)) rfl rfl rfl rfl ?_
  have c0 := awake03_fn
  repeat' (first | (show W _ _ _ _ _ _; first | apply kA | refine kB rfl ?_ | refine kC rfl rfl ?_ | refine kD rfl rfl ?_ | apply kE | apply kF | apply kG | apply kH | refine kI (by kernel_rfl) (by kernel_rfl) ?_) | (show O _ _ _ _ _ _ _; first | (show O _ _ _ _ (⟨_, .store _ _ _, _, _, _, _⟩ :: _) _ _; refine kJ rfl rfl rfl rfl rfl rfl rfl rfl rfl rfl rfl ?_) | apply kK) | apply kL | ((first | apply kM | apply kN); (iterate 3 (· exact rfl)); (· first | exact ya | exact Y.mk (ok_callT (id := 9) c0 rfl rfl))) | refine kO rfl rfl rfl rfl rfl ?_ | refine kP rfl rfl rfl ?_ | ((first | refine kQ rfl rfl ?_ ?_ | refine kR rfl rfl rfl rfl rfl ?_ ?_ | refine kS rfl rfl rfl ?_ ?_) <;> intro hc <;> (try simp only [KL, cond_true, cond_false, beq_iff_eq, bne_iff_ne, ne_eq, reduceCtorEq] at hc) <;> (try (have hT : True := hc; clear hT hc)) <;> (try (exfalso; omega))) | apply kT | apply kU | apply kV | apply kW | refine kX rfl ?_ | apply kY | apply kZ)
  · exact retq rfl rfl
  · have hn : prio.length ≤ 1000000 := by omega
    have c1 := ranks_fn prio hn
    have c2 := rranks3_fn prio hn
    have c3 := order_fn prio hn
    have c4 := rorder3_fn prio hn
    have c5 := pl_Ints (rkL prio prio.length) (rkL prio prio.length)
    rw [show (decide (rkL prio prio.length = rkL prio prio.length)) = true by simp] at c5
    have c6 := pl_Ints (ordL prio prio.length) (ordL prio prio.length)
    rw [show (decide (ordL prio prio.length = ordL prio prio.length)) = true by simp] at c6
    repeat' (first | (show W _ _ _ _ _ _; first | apply kA | refine kB rfl ?_ | refine kC rfl rfl ?_ | refine kD rfl rfl ?_ | apply kE | apply kF | apply kG | apply kH | refine kI (by kernel_rfl) (by kernel_rfl) ?_) | (show O _ _ _ _ _ _ _; first | (show O _ _ _ _ (⟨_, .store _ _ _, _, _, _, _⟩ :: _) _ _; refine kJ rfl rfl rfl rfl rfl rfl rfl rfl rfl rfl rfl ?_) | apply kK) | apply kL | ((first | apply kM | apply kN); (iterate 3 (· exact rfl)); (· first | (show Y _ ⟨_, .call ⟨.value _, _, _⟩, _, _, _, _⟩ _ _ _; first | exact q_c (c1) rfl | exact q_c (c2) rfl | exact q_c (c3) rfl | exact q_c (c4) rfl | exact q_c (c5) rfl | exact q_c (c6) rfl) | exact ya | exact Y.mk (ok_callT (id := 9) c0 rfl rfl))) | refine kO rfl rfl rfl rfl rfl ?_ | refine kP rfl rfl rfl ?_ | ((first | refine kQ rfl rfl ?_ ?_ | refine kR rfl rfl rfl rfl rfl ?_ ?_ | refine kS rfl rfl rfl ?_ ?_) <;> intro hc <;> (try simp only [KL, cond_true, cond_false, beq_iff_eq, bne_iff_ne, ne_eq, reduceCtorEq] at hc) <;> (try (have hT : True := hc; clear hT hc)) <;> (try (exfalso; omega))) | apply kT | apply kU | apply kV | apply kW | refine kX rfl ?_ | apply kY | apply kZ)
    exact retq rfl rfl
end Go.Proofs.YtnijdaidmpjccaaDoor
