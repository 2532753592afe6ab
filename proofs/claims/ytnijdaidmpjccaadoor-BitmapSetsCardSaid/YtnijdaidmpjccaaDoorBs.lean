/- Sets of numbers: put, drop, has, count, first; the waking calls. No condition. -/
import Derived.Test.YtnijdaidmpjccaaDoorCnt
import Derived.Test.YtnijdaidmpjccaaDoorIt
import Derived.Test.YtnijdaidmpjccaaDoorBm1
import Derived.Test.YtnijdaidmpjccaaDoorPlain
namespace Go.Proofs.YtnijdaidmpjccaaDoor
set_option linter.unusedSimpArgs false
set_option linter.unusedVariables false
set_option maxRecDepth 100000
set_option linter.unusedSimpArgs false
set_option linter.unusedVariables false
set_option maxRecDepth 100000
open Go.RowKit
def bitN (i : Int) : Nat := if 0 ≤ i ∧ i ≤ 63 then 2 ^ i.toNat else 0
theorem bitN_lt (i : Int) : bitN i < 2 ^ 64 := by
  unfold bitN; split
  · exact Nat.pow_lt_pow_right (by omega) (by omega)
  · omega
theorem ok_shlN {P : Program} {s : Slots} {h : Heap} {o : Oper} {t yt : TypeId} {x y : Operand} {k k' : IntKind} {a b : Int} (ho : o.op = .binOp .shl t x y yt) (hx : evA s x = .int k a) (hy : evA s y = .int k' b) (h0 : 0 ≤ b) : OkO P o s h (.int k (k.wrap (a * 2 ^ min b.toNat k.bits))) := by
  have hb : binA .shl (.int k a) (.int k' b) = some (0 ≤ b, .int k (k.wrap (a * 2 ^ min b.toNat k.bits))) := rfl
  have hs : stepO P s h o = some (0 ≤ b, .int k (k.wrap (a * 2 ^ min b.toNat k.bits))) := by
    unfold stepO; simp only [ho, hx, hy, hb]
  exact stepO_sound hs h0
theorem bit_e {i : Int} (h0 : 0 ≤ i) (h1 : i ≤ 63) : IntKind.u64.wrap (1 * 2 ^ min i.toNat IntKind.u64.bits) = (bitN i : Int) := by
  have h := bitN_lt i
  have e : (1 : Int) * 2 ^ min i.toNat IntKind.u64.bits = (bitN i : Int) := by
    unfold bitN
    rw [if_pos ⟨h0, h1⟩, show min i.toNat IntKind.u64.bits = i.toNat by simp [IntKind.bits]; omega]
    simp
  rw [e]
  exact wrap_in (by simp only [rangeP]; omega)
theorem bit_fn (i : Int) : Fn Tryd.prog 42 [.int .i64 i] (.int .u64 (bitN i)) := by
  refine fnb Tryd.func42 (entered_of (by kernel_rfl)) rfl rfl rfl ?_
  repeat' (first | (show W _ _ _ _ _ _; first | refine wseq ?_ | refine wregion rfl ?_ | refine wcondT rfl rfl ?_ | refine wcondF rfl rfl ?_ | (refine wcond rfl rfl (fun hc => ?_) (fun hc => ?_) <;> (try simp only [KL, cond_true, cond_false, beq_iff_eq, bne_iff_ne, ne_eq, reduceCtorEq] at hc) <;> (try (have hT : True := hc; clear hT hc)) <;> (try (exfalso; omega))) | refine wblock ?_ | refine wskip ?_ | refine wexit ?_ | refine wret ?_ | refine wdraw (by kernel_rfl) (by kernel_rfl) ?_) | (show O _ _ _ _ _ _ _; first | (show O _ _ _ _ (⟨_, .store _ _ _, _, _, _, _⟩ :: _) _ _; refine ao_st rfl rfl rfl rfl rfl rfl rfl rfl rfl rfl rfl ?_) | refine onil ?_) | refine dnil ?_ | ((first | apply ao_k | apply ad_k); (· exact rfl); (· exact rfl); (· exact rfl); (· first | (show Y _ ⟨_, .indexAddr _ _ _, _, _, _, _⟩ _ _ _; first | exact q_i rfl rfl rfl rfl rfl (by omega) | exact q_iz rfl rfl rfl rfl rfl (by omega) (by omega) | exact q_io rfl rfl rfl rfl rfl rfl (by omega) | exact q_ioz rfl rfl rfl rfl rfl rfl (by omega) (by omega)) | (show Y _ ⟨_, .slice _ _ _ _ none, _, _, _, _⟩ _ _ _; first | exact q_sl rfl rfl rfl rfl rfl (Exists.intro _ rfl) (by omega) (by omega) | exact q_sl rfl rfl rfl rfl rfl rfl (by omega) (by omega) | exact q_sl rfl rfl rfl rfl (Exists.intro _ rfl) (Exists.intro _ rfl) (by omega) (by omega) | exact q_sl rfl rfl rfl rfl (Exists.intro _ rfl) rfl (by omega) (by omega)) | (show Y _ ⟨_, .call ⟨.builtin .len, _, _⟩, _, _, _, _⟩ _ _ _; first | exact q_l rfl rfl rfl | exact q_lo rfl rfl rfl rfl | exact q_n rfl rfl rfl) | (refine q_s rfl ?_ <;> (first | trivial | exact Nat.le_of_ble_eq_true rfl | (simp only [rangeP]; omega) | omega)) | (refine q_p rfl rfl rfl rfl ?_ ?_ <;> (first | trivial | exact Nat.le_of_ble_eq_true rfl | (simp only [rangeP]; omega) | omega)) | exact q_u rfl rfl | exact q_b rfl rfl rfl rfl | exact q_g rfl rfl rfl rfl rfl rfl rfl rfl rfl | exact Y.mk (ok_shlN rfl rfl rfl (by omega)))) | refine ogrdN rfl rfl rfl rfl rfl ?_ | refine dgrdN rfl rfl rfl ?_ | ((first | refine ogrd rfl rfl rfl rfl rfl (fun hc => ?_) (fun hc => ?_) | refine dgrd rfl rfl rfl (fun hc => ?_) (fun hc => ?_)) <;> (try simp only [KL, cond_true, cond_false, beq_iff_eq, bne_iff_ne, ne_eq, reduceCtorEq] at hc) <;> (try (have hT : True := hc; clear hT hc)) <;> (try (exfalso; omega))) | refine nThen ?_ | refine nIn ?_ | refine eThen ?_ | refine eIn ?_ | refine eInNe rfl ?_ | refine rThen ?_ | refine rIn ?_)
  · exact retq rfl (congrArg (AV.int .u64) (by rw [bitN, if_neg (by omega)]; rfl))
  · exact retq rfl (congrArg (AV.int .u64) (bit_e (by omega) (by omega)))
  · exact retq rfl (congrArg (AV.int .u64) (by rw [bitN, if_neg (by omega)]; rfl))
def hasN (m : Nat) (i : Int) : Bool := decide (m &&& bitN i ≠ 0)
theorem has_fn (m : Nat) (hm : m < 2 ^ 64) (i : Int) : Fn Tryd.prog 13 [.int .u64 m, .int .i64 i] (.bool (hasN m i)) := by
  refine fnb Tryd.func13 (entered_of (by kernel_rfl)) rfl rfl rfl ?_
  repeat' (first | (show W _ _ _ _ _ _; first | refine wseq ?_ | refine wregion rfl ?_ | refine wcondT rfl rfl ?_ | refine wcondF rfl rfl ?_ | (refine wcond rfl rfl (fun hc => ?_) (fun hc => ?_) <;> (try simp only [KL, cond_true, cond_false, beq_iff_eq, bne_iff_ne, ne_eq, reduceCtorEq] at hc) <;> (try (have hT : True := hc; clear hT hc)) <;> (try (exfalso; omega))) | refine wblock ?_ | refine wskip ?_ | refine wexit ?_ | refine wret ?_ | refine wdraw (by kernel_rfl) (by kernel_rfl) ?_) | (show O _ _ _ _ _ _ _; first | (show O _ _ _ _ (⟨_, .store _ _ _, _, _, _, _⟩ :: _) _ _; refine ao_st rfl rfl rfl rfl rfl rfl rfl rfl rfl rfl rfl ?_) | refine onil ?_) | refine dnil ?_ | ((first | apply ao_k | apply ad_k); (· exact rfl); (· exact rfl); (· exact rfl); (· first | (show Y _ ⟨_, .indexAddr _ _ _, _, _, _, _⟩ _ _ _; first | exact q_i rfl rfl rfl rfl rfl (by omega) | exact q_iz rfl rfl rfl rfl rfl (by omega) (by omega) | exact q_io rfl rfl rfl rfl rfl rfl (by omega) | exact q_ioz rfl rfl rfl rfl rfl rfl (by omega) (by omega)) | (show Y _ ⟨_, .slice _ _ _ _ none, _, _, _, _⟩ _ _ _; first | exact q_sl rfl rfl rfl rfl rfl (Exists.intro _ rfl) (by omega) (by omega) | exact q_sl rfl rfl rfl rfl rfl rfl (by omega) (by omega) | exact q_sl rfl rfl rfl rfl (Exists.intro _ rfl) (Exists.intro _ rfl) (by omega) (by omega) | exact q_sl rfl rfl rfl rfl (Exists.intro _ rfl) rfl (by omega) (by omega)) | (show Y _ ⟨_, .call ⟨.builtin .len, _, _⟩, _, _, _, _⟩ _ _ _; first | exact q_l rfl rfl rfl | exact q_lo rfl rfl rfl rfl | exact q_n rfl rfl rfl) | (show Y _ ⟨_, .call ⟨.value _, _, _⟩, _, _, _, _⟩ _ _ _; first | exact q_c (bit_fn i) rfl) | (refine q_s rfl ?_ <;> (first | trivial | exact Nat.le_of_ble_eq_true rfl | (simp only [rangeP]; omega) | omega)) | (refine q_p rfl rfl rfl rfl ?_ ?_ <;> (first | trivial | exact Nat.le_of_ble_eq_true rfl | (simp only [rangeP]; omega) | omega)) | exact q_u rfl rfl | exact q_b rfl rfl rfl rfl | exact q_g rfl rfl rfl rfl rfl rfl rfl rfl rfl)) | refine ogrdN rfl rfl rfl rfl rfl ?_ | refine dgrdN rfl rfl rfl ?_ | ((first | refine ogrd rfl rfl rfl rfl rfl (fun hc => ?_) (fun hc => ?_) | refine dgrd rfl rfl rfl (fun hc => ?_) (fun hc => ?_)) <;> (try simp only [KL, cond_true, cond_false, beq_iff_eq, bne_iff_ne, ne_eq, reduceCtorEq] at hc) <;> (try (have hT : True := hc; clear hT hc)) <;> (try (exfalso; omega))) | refine nThen ?_ | refine nIn ?_ | refine eThen ?_ | refine eIn ?_ | refine eInNe rfl ?_ | refine rThen ?_ | refine rIn ?_)
  refine retq rfl (congrArg AV.bool ?_)
  rw [and64 hm (bitN_lt i)]
  unfold hasN
  rw [decide_not]
  congr 1
  rw [Bool.eq_iff_iff]
  simp
theorem count_fn (m : Nat) (hm : m < 2 ^ 64) : Fn Tryd.prog 12 [.int .u64 m] (.int .i64 ((bitsL m).length)) := by
  have c1 := ones_fn m hm
  rw [← bitsL_len] at c1
  refine fnb Tryd.func12 (entered_of (by kernel_rfl)) rfl rfl rfl ?_
  repeat' (first | (show W _ _ _ _ _ _; first | refine wseq ?_ | refine wregion rfl ?_ | refine wcondT rfl rfl ?_ | refine wcondF rfl rfl ?_ | (refine wcond rfl rfl (fun hc => ?_) (fun hc => ?_) <;> (try simp only [KL, cond_true, cond_false, beq_iff_eq, bne_iff_ne, ne_eq, reduceCtorEq] at hc) <;> (try (have hT : True := hc; clear hT hc)) <;> (try (exfalso; omega))) | refine wblock ?_ | refine wskip ?_ | refine wexit ?_ | refine wret ?_ | refine wdraw (by kernel_rfl) (by kernel_rfl) ?_) | (show O _ _ _ _ _ _ _; first | (show O _ _ _ _ (⟨_, .store _ _ _, _, _, _, _⟩ :: _) _ _; refine ao_st rfl rfl rfl rfl rfl rfl rfl rfl rfl rfl rfl ?_) | refine onil ?_) | refine dnil ?_ | ((first | apply ao_k | apply ad_k); (· exact rfl); (· exact rfl); (· exact rfl); (· first | (show Y _ ⟨_, .indexAddr _ _ _, _, _, _, _⟩ _ _ _; first | exact q_i rfl rfl rfl rfl rfl (by omega) | exact q_iz rfl rfl rfl rfl rfl (by omega) (by omega) | exact q_io rfl rfl rfl rfl rfl rfl (by omega) | exact q_ioz rfl rfl rfl rfl rfl rfl (by omega) (by omega)) | (show Y _ ⟨_, .slice _ _ _ _ none, _, _, _, _⟩ _ _ _; first | exact q_sl rfl rfl rfl rfl rfl (Exists.intro _ rfl) (by omega) (by omega) | exact q_sl rfl rfl rfl rfl rfl rfl (by omega) (by omega) | exact q_sl rfl rfl rfl rfl (Exists.intro _ rfl) (Exists.intro _ rfl) (by omega) (by omega) | exact q_sl rfl rfl rfl rfl (Exists.intro _ rfl) rfl (by omega) (by omega)) | (show Y _ ⟨_, .call ⟨.builtin .len, _, _⟩, _, _, _, _⟩ _ _ _; first | exact q_l rfl rfl rfl | exact q_lo rfl rfl rfl rfl | exact q_n rfl rfl rfl) | (show Y _ ⟨_, .call ⟨.value _, _, _⟩, _, _, _, _⟩ _ _ _; first | exact q_c (c1) rfl) | (refine q_s rfl ?_ <;> (first | trivial | exact Nat.le_of_ble_eq_true rfl | (simp only [rangeP]; omega) | omega)) | (refine q_p rfl rfl rfl rfl ?_ ?_ <;> (first | trivial | exact Nat.le_of_ble_eq_true rfl | (simp only [rangeP]; omega) | omega)) | exact q_u rfl rfl | exact q_b rfl rfl rfl rfl | exact q_g rfl rfl rfl rfl rfl rfl rfl rfl rfl)) | refine ogrdN rfl rfl rfl rfl rfl ?_ | refine dgrdN rfl rfl rfl ?_ | ((first | refine ogrd rfl rfl rfl rfl rfl (fun hc => ?_) (fun hc => ?_) | refine dgrd rfl rfl rfl (fun hc => ?_) (fun hc => ?_)) <;> (try simp only [KL, cond_true, cond_false, beq_iff_eq, bne_iff_ne, ne_eq, reduceCtorEq] at hc) <;> (try (have hT : True := hc; clear hT hc)) <;> (try (exfalso; omega))) | refine nThen ?_ | refine nIn ?_ | refine eThen ?_ | refine eIn ?_ | refine eInNe rfl ?_ | refine rThen ?_ | refine rIn ?_)
  exact retq rfl rfl
theorem awake03_fn : FnT Tryd.prog tabK 17 [] (.bool true) := by
  have c1 := pick_fn [1, 5, 5] 5 (by omega) (by decide)
  rw [show (pickF [1, 5, 5] (bitsL 5) (-1)) = (2, true) by decide] at c1
  have c2 := order_fn [1, 5, 5] (by decide)
  rw [show ordL [1, 5, 5] ([1, 5, 5] : List Int).length = [1, 2, 0] by decide] at c2
  have c3 := pl_Ints [1, 2, 0] [1, 2, 0]
  have c4 := has_fn 5 (by omega) 2
  rw [show hasN 5 2 = true by decide] at c4
  have c5 := count_fn 5 (by omega)
  rw [show ((bitsL 5).length : Int) = 2 by decide] at c5
  refine fntw Tryd.func17 (entered_of (by kernel_rfl)) rfl rfl rfl rfl ?_
  repeat' (first | (show W _ _ _ _ _ _; first | refine wseq ?_ | refine wregion rfl ?_ | refine wcondT rfl rfl ?_ | refine wcondF rfl rfl ?_ | (refine wcond rfl rfl (fun hc => ?_) (fun hc => ?_) <;> (try simp only [KL, cond_true, cond_false, beq_iff_eq, bne_iff_ne, ne_eq, reduceCtorEq] at hc) <;> (try (have hT : True := hc; clear hT hc)) <;> (try (exfalso; omega))) | refine wblock ?_ | refine wskip ?_ | refine wexit ?_ | refine wret ?_ | refine wdraw (by kernel_rfl) (by kernel_rfl) ?_) | (show O _ _ _ _ _ _ _; first | (show O _ _ _ _ (⟨_, .store _ _ _, _, _, _, _⟩ :: _) _ _; refine ao_st rfl rfl rfl rfl rfl rfl rfl rfl rfl rfl rfl ?_) | refine onil ?_) | refine dnil ?_ | ((first | apply ao_k | apply ad_k); (· exact rfl); (· exact rfl); (· exact rfl); (· first | (show Y _ ⟨_, .indexAddr _ _ _, _, _, _, _⟩ _ _ _; first | exact q_i rfl rfl rfl rfl rfl (by omega) | exact q_iz rfl rfl rfl rfl rfl (by omega) (by omega) | exact q_io rfl rfl rfl rfl rfl rfl (by omega) | exact q_ioz rfl rfl rfl rfl rfl rfl (by omega) (by omega)) | (show Y _ ⟨_, .slice _ _ _ _ none, _, _, _, _⟩ _ _ _; first | exact q_sl rfl rfl rfl rfl rfl (Exists.intro _ rfl) (by omega) (by omega) | exact q_sl rfl rfl rfl rfl rfl rfl (by omega) (by omega) | exact q_sl rfl rfl rfl rfl (Exists.intro _ rfl) (Exists.intro _ rfl) (by omega) (by omega) | exact q_sl rfl rfl rfl rfl (Exists.intro _ rfl) rfl (by omega) (by omega)) | (show Y _ ⟨_, .call ⟨.builtin .len, _, _⟩, _, _, _, _⟩ _ _ _; first | exact q_l rfl rfl rfl | exact q_lo rfl rfl rfl rfl | exact q_n rfl rfl rfl) | (show Y _ ⟨_, .call ⟨.value _, _, _⟩, _, _, _, _⟩ _ _ _; first | exact q_c (c2) rfl | exact q_c (c3) rfl | exact q_c (c4) rfl | exact q_c (c5) rfl) | (refine q_s rfl ?_ <;> (first | trivial | exact Nat.le_of_ble_eq_true rfl | (simp only [rangeP]; omega) | omega)) | (refine q_p rfl rfl rfl rfl ?_ ?_ <;> (first | trivial | exact Nat.le_of_ble_eq_true rfl | (simp only [rangeP]; omega) | omega)) | exact q_u rfl rfl | exact q_b rfl rfl rfl rfl | exact q_g rfl rfl rfl rfl rfl rfl rfl rfl rfl | exact Y.mk (ok_callT (id := 9) c1 rfl rfl))) | refine ogrdN rfl rfl rfl rfl rfl ?_ | refine dgrdN rfl rfl rfl ?_ | ((first | refine ogrd rfl rfl rfl rfl rfl (fun hc => ?_) (fun hc => ?_) | refine dgrd rfl rfl rfl (fun hc => ?_) (fun hc => ?_)) <;> (try simp only [KL, cond_true, cond_false, beq_iff_eq, bne_iff_ne, ne_eq, reduceCtorEq] at hc) <;> (try (have hT : True := hc; clear hT hc)) <;> (try (exfalso; omega))) | refine nThen ?_ | refine nIn ?_ | refine eThen ?_ | refine eIn ?_ | refine eInNe rfl ?_ | refine rThen ?_ | refine rIn ?_)
  exact retq rfl rfl
end Go.Proofs.YtnijdaidmpjccaaDoor
