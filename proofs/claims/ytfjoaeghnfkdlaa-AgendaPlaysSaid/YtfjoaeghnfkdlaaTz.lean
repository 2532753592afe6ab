/- How many low bits of a word are not set, by the package's table. No condition. -/
import Derived.Test.YtfjoaeghnfkdlaaAvI2
import Derived.Test.YtfjoaeghnfkdlaaAvLend
namespace Go.Proofs.Ytfjoaeghnfkdlaa
set_option linter.unusedSimpArgs false
set_option linter.unusedVariables false
set_option maxRecDepth 100000
set_option linter.unusedVariables false
set_option linter.unusedSimpArgs false
open Go.RowKit
/-- The members of a set. -/
def bitsL (m : Nat) : List Nat := (List.range 64).filter m.testBit
def tzN (m : Nat) : Nat := (bitsL m).headD 64
def tabL : List Nat := [0, 1, 56, 2, 57, 49, 28, 3, 61, 58, 42, 50, 38, 29, 17, 4, 62, 47, 59, 36, 45, 43, 51, 22, 53, 39, 33, 30, 24, 18, 12, 5, 63, 55, 48, 27, 60, 41, 37, 16, 46, 35, 44, 21, 52, 32, 23, 11, 54, 26, 40, 15, 34, 20, 31, 10, 25, 14, 19, 9, 13, 8, 7, 6]
theorem odd_bit (q i : Nat) : (2 * q + 1).testBit (i + 1) = q.testBit i := by rw [Nat.testBit_add_one]; congr 1; omega
theorem ev_bit (q i : Nat) : (2 * q).testBit (i + 1) = q.testBit i := by rw [Nat.testBit_add_one]; congr 1; omega
theorem odd_bit0 (q : Nat) : (2 * q + 1).testBit 0 = true := by simp [Nat.testBit_zero]
theorem ev_bit0 (q : Nat) : (2 * q).testBit 0 = false := by simp [Nat.testBit_zero]
theorem low_of : ∀ (n x : Nat), 0 < x → x < 2 ^ n → ∃ k, k < n ∧ x.testBit k = true ∧ (∀ i, i < k → x.testBit i = false) ∧ x &&& (2 ^ n - x) = 2 ^ k ∧ ∀ i, (x &&& (x - 1)).testBit i = (x.testBit i && decide (k < i))
  | 0, x, h0, h1 => by simp at h1; omega
  | n + 1, x, h0, h1 => by
    rw [Nat.pow_succ] at h1
    rcases Nat.mod_two_eq_zero_or_one x with h | h
    · obtain ⟨y, rfl⟩ : ∃ y, x = 2 * y := ⟨x / 2, by omega⟩
      obtain ⟨k, k1, k2, k3, k4, k5⟩ := low_of n y (by omega) (by omega)
      refine ⟨k + 1, by omega, by rw [ev_bit]; exact k2, fun i hi => ?_, ?_, fun i => ?_⟩
      · cases i with
        | zero => exact ev_bit0 y
        | succ i => rw [ev_bit]; exact k3 i (by omega)
      · have e : 2 ^ (n + 1) - 2 * y = 2 * (2 ^ n - y) := by rw [Nat.pow_succ]; omega
        rw [e, Nat.pow_succ, ← k4]
        apply Nat.eq_of_testBit_eq
        intro i
        rw [Nat.mul_comm (y &&& (2 ^ n - y)) 2]
        cases i with
        | zero => rw [Nat.testBit_and, ev_bit0, ev_bit0, ev_bit0]; rfl
        | succ i => rw [Nat.testBit_and, ev_bit, ev_bit, ev_bit, Nat.testBit_and]
      · obtain ⟨z, hz⟩ : ∃ z, z = y - 1 := ⟨_, rfl⟩
        have e : 2 * y - 1 = 2 * z + 1 := by omega
        have := k5
        rw [← hz] at this
        rw [e]
        cases i with
        | zero => rw [Nat.testBit_and, ev_bit0]; rfl
        | succ i =>
          have h2 := this i
          rw [Nat.testBit_and] at h2
          rw [Nat.testBit_and, ev_bit, odd_bit, h2]
          congr 1
          simp
    · obtain ⟨q, rfl⟩ : ∃ q, x = 2 * q + 1 := ⟨x / 2, by omega⟩
      refine ⟨0, by omega, odd_bit0 q, fun i hi => by omega, ?_, fun i => ?_⟩
      · have hq : q < 2 ^ n := by omega
        have e : 2 ^ (n + 1) - (2 * q + 1) = 2 * (2 ^ n - (q + 1)) + 1 := by rw [Nat.pow_succ]; omega
        rw [e]
        apply Nat.eq_of_testBit_eq
        intro i
        cases i with
        | zero => rw [Nat.testBit_and, odd_bit0, odd_bit0]; rfl
        | succ i =>
          rw [Nat.testBit_and, odd_bit, odd_bit, Nat.testBit_two_pow_sub_succ hq]
          have : (2 ^ 0).testBit (i + 1) = false := by rw [show (2 : Nat) ^ 0 = 2 * 0 + 1 from rfl, odd_bit]; exact Nat.zero_testBit i
          rw [this]
          cases q.testBit i <;> simp
      · have e : 2 * q + 1 - 1 = 2 * q := by omega
        rw [e]
        cases i with
        | zero => rw [Nat.testBit_and, ev_bit0]; simp
        | succ i => rw [Nat.testBit_and, ev_bit, odd_bit]; simp
theorem range_at {k : Nat} (h : k < 64) : List.range 64 = List.range' 0 k ++ k :: List.range' (k + 1) (63 - k) := by
  have e1 : List.range 64 = List.range' 0 (k + (1 + (63 - k))) := by rw [List.range_eq_range']; congr 1; omega
  rw [e1, ← List.range'_append_1, ← List.range'_append_1]
  simp [List.range']
theorem bits_at {x k : Nat} (hk : k < 64) (h1 : x.testBit k = true) (h0 : ∀ i, i < k → x.testBit i = false) : bitsL x = k :: (List.range' (k + 1) (63 - k)).filter x.testBit := by
  unfold bitsL
  rw [range_at hk, List.filter_append, List.filter_cons, h1]
  have e : (List.range' 0 k).filter x.testBit = [] := by
    rw [List.filter_eq_nil_iff]
    intro i hi
    rw [List.mem_range'_1] at hi
    simp [h0 i (by omega)]
  rw [e]; rfl
/-- The least member, and what is left without it. -/
theorem bits_step {x : Nat} (h0 : 0 < x) (h1 : x < 2 ^ 64) : bitsL x = tzN x :: bitsL (x &&& (x - 1)) ∧ tzN x < 64 ∧ x &&& (2 ^ 64 - x) = 2 ^ tzN x := by
  obtain ⟨k, k1, k2, k3, k4, k5⟩ := low_of 64 x h0 h1
  have hb := bits_at k1 k2 k3
  have ht : tzN x = k := by unfold tzN; rw [hb]; rfl
  rw [ht]
  refine ⟨?_, k1, k4⟩
  rw [hb]
  congr 1
  unfold bitsL
  rw [range_at k1, List.filter_append, List.filter_cons]
  have e : (List.range' 0 k).filter (x &&& (x - 1)).testBit = [] := by
    rw [List.filter_eq_nil_iff]
    intro i hi
    rw [List.mem_range'_1] at hi
    rw [k5 i, k3 i (by omega)]; simp
  rw [e, k5 k]
  simp only [Nat.lt_irrefl, decide_false, Bool.and_false, List.nil_append]
  refine List.filter_congr fun i hi => ?_
  rw [List.mem_range'_1] at hi
  rw [k5 i]
  simp; omega
theorem bits_zero : bitsL 0 = [] := by unfold bitsL; rw [List.filter_eq_nil_iff]; intro i _; simp
theorem tz_tab : ∀ k : Fin 64, 2 ^ k.val * 285870213051353865 % 2 ^ 64 / 2 ^ 58 < 64 ∧ tabL.getD (2 ^ k.val * 285870213051353865 % 2 ^ 64 / 2 ^ 58) 0 = k.val := by decide +kernel
theorem and64 {a b : Nat} (ha : a < 2 ^ 64) (hb : b < 2 ^ 64) : bitsV .and .u64 (a : Int) (b : Int) = ((a &&& b : Nat) : Int) := by
  unfold bitsV
  have e : (BitVec.ofInt IntKind.u64.bits (a : Int) &&& BitVec.ofInt IntKind.u64.bits (b : Int)).toNat = a &&& b := by
    rw [BitVec.ofInt_natCast, BitVec.ofInt_natCast, BitVec.toNat_and, BitVec.toNat_ofNat, BitVec.toNat_ofNat]
    show (a % 2 ^ 64) &&& (b % 2 ^ 64) = _
    rw [Nat.mod_eq_of_lt ha, Nat.mod_eq_of_lt hb]
  simp only [e]
  have : a &&& b < 2 ^ 64 := Nat.lt_of_le_of_lt Nat.and_le_left ha
  exact wrap_in (by simp only [rangeP]; omega)
def tabK : Know where
  T := fun σ => ∀ j : Nat, j < 64 → σ ⟨0, j, none⟩ = some (.int .u8 (tabL.getD j 0 : Nat))
  mono := fun σ σ' h hs j hj => hs _ _ (h j hj)
def tzI (m : Nat) : Nat := 2 ^ tzN m * 285870213051353865 % 2 ^ 64 / 2 ^ 58
theorem wrap_neg {m : Nat} (h0 : 0 < m) (hm : m < 2 ^ 64) : IntKind.u64.wrap (0 - (m : Int)) = ((2 ^ 64 - m : Nat) : Int) := by
  simp only [IntKind.wrap, IntKind.signed, IntKind.bits, Bool.false_and, Bool.false_eq_true, if_false]
  omega
theorem wrap_mul {a b : Nat} : IntKind.u64.wrap ((a : Int) * (b : Int)) = ((a * b % 2 ^ 64 : Nat) : Int) := by
  simp only [IntKind.wrap, IntKind.signed, IntKind.bits, Bool.false_and, Bool.false_eq_true, if_false]
  rw [← Int.natCast_mul]; omega
theorem tz_j {m : Nat} (h0 : (m : Int) ≠ 0) (hm : m < 2 ^ 64) : tzI m < 64 ∧ tabL.getD (tzI m) 0 = tzN m := tz_tab ⟨tzN m, (bits_step (by omega) hm).2.1⟩
theorem tz_rg {m : Nat} (h0 : (m : Int) ≠ 0) (hm : m < 2 ^ 64) : rangeP .u64 (tzI m : Int) := by
  have := (tz_j h0 hm).1
  simp only [rangeP]; omega
theorem tz_ix {m : Nat} (h0 : (m : Int) ≠ 0) (hm : m < 2 ^ 64) : (IntKind.u64.wrap (bitsV .and .u64 (m : Int) (IntKind.u64.wrap (0 - (m : Int))) * 285870213051353865)).fdiv (2 ^ min (Int.toNat 58) 64) = (tzI m : Int) := by
  rw [wrap_neg (by omega) hm, and64 hm (by omega), (bits_step (by omega) hm).2.2, show (285870213051353865 : Int) = ((285870213051353865 : Nat) : Int) from rfl, wrap_mul, show ((2 : Int) ^ min (Int.toNat 58) 64) = ((2 ^ 58 : Nat) : Int) from rfl, Int.fdiv_eq_ediv_of_nonneg _ (by omega)]
  rfl
section
variable {P : Program} {n : Md} {Q : Exit → Slots → Heap → Prop} {s : Slots} {h : Heap} {ops : Array Oper} {rest : List Oper} {o : Oper} {K : Slots → Prop}
theorem tab_r : ∀ j, j < 64 → tabL.getD j 0 < 64 := by
  intro j hj
  have : ∀ k : Fin 64, tabL.getD k.val 0 < 64 := by decide +kernel
  exact this ⟨j, hj⟩
theorem ok_tab {t e : TypeId} {y : Operand} {ik : IntKind} {z : Int} {j id : Nat} (ho : o.op = .indexAddr t (.global 0) y) (hy : evA s y = .int ik z) (ht : P.underlying t = some (.array 64 e)) (hz : sizeQ P e 1 = true) (he : z = (j : Int)) (hj : j < 64) (hg : hget h id = some (.sem (thatC tabK))) :
    OkO P o s h (.ref [.int .u8 (tabL.getD j 0 : Nat)]) := by
  refine ok_of_run fun E σ ι a w hr hv => ?_
  have hY := hv y (by rw [ho]; simp [Op.operands])
  rw [hy] at hY
  have hk : ι id = .nilFunc ∧ tabK.T σ := hr.ch id _ hg
  subst he
  refine ⟨.pointer (some ⟨0, j, none⟩), ?_, .base _ _ (.ref _ 0 j (fun _ => .int .u8 (tabL.getD j 0 : Nat)) (fun i c hc => ?_) (fun i c hc => ?_))⟩
  · have hc : (0 : Int) ≤ (j : Int) ∧ (j : Int) < (64 : Nat) := by omega
    have hgl : a.eval (.global 0) = .pointer (some ⟨0, 0, none⟩) := rfl
    simp only [execOp, ho, hgl, hY.int_inv.1, Instr.indexAt, asIntOf, Sem.run_bind, Sem.run_pure, Result.andThen_ok, run_underlying ht, sizeQ_run hz, Instr.sureAddr]
    simp [hc, Sem.run_bind, sizeQ_run hz, Sem.run_pure, Go.WideShapes.add_plain]
    omega
  · cases i with
    | zero => exact hk.2 j hj
    | succ i => simp at hc
  · have := tab_r j hj
    cases i with
    | zero => simp at hc; subst hc; exact .int _ _ (by simp only [rangeP]; simp at this ⊢; omega)
    | succ i => simp at hc
theorem ok_negW {t : TypeId} {x : Operand} {k : IntKind} {m : Int} (ho : o.op = .unOp .neg t x) (hx : evA s x = .int k m) : OkO P o s h (.int k (k.wrap (0 - m))) := by
  refine ok_of_run fun E σ ι a w hr hv => ?_
  have hX := hv x (by rw [ho]; simp [Op.operands])
  rw [hx] at hX
  refine ⟨_, ?_, .base _ _ (.int _ _ (wrap_range k _))⟩
  simp [execOp, ho, hX.int_inv.1, Op.unary, Op.intArith]
theorem ok_shrN {t yt : TypeId} {x y : Operand} {k k' : IntKind} {a b : Int} {j : Nat} (ho : o.op = .binOp .shr t x y yt) (hx : evA s x = .int k a) (hy : evA s y = .int k' b) (h0 : 0 ≤ b) (he : a.fdiv (2 ^ min b.toNat k.bits) = (j : Int)) (hj : rangeP k (j : Int)) : OkO P o s h (.int k j) := by
  have hb : binA .shr (.int k a) (.int k' b) = some (0 ≤ b ∧ rangeP k (j : Int), .int k j) := by simp only [binA]; rw [he]
  have hs : stepO P s h o = some (0 ≤ b ∧ rangeP k (j : Int), .int k j) := by
    unfold stepO; simp only [ho, hx, hy, hb]
  exact stepO_sound hs ⟨h0, hj⟩
theorem fntw {kn : Know} {f : FuncId} {fn : Func} {c : Code} {args : List AV} {r : AV} (hf : P.funcs[f]? = some fn) (he : Entered P f) (hb : fn.body = some c) (hl : Nat.ble args.length fn.ntmps = true) (hp : pureA r = true) (hpa : pureAll args = true)
    (hwp : W P { n := fn.ntmps } c (RetQ P fn.results.toList (fun v _ => v = r)) (slots0 args 0) [(9, .sem (thatC kn))]) : FnT P kn f args r := by
  refine ⟨he, fun σ ι w vs hk hsub hv => ?_⟩
  have r0 := (Rel.start σ ι w hsub).that hk 9 rfl (by omega)
  refine (wp_bodyP (pins := []) hf hb (Nat.ble_eq ▸ hl) hwp.out r0 (fun p hp => by cases hp) (l2_pureAll hpa hv)).mono ?_
  rintro e w' ⟨u, r', h', σ', ι', rfl, rfl, h2, h3⟩
  refine ⟨u, σ', rfl, h2.pure hp, ?_⟩
  exact ⟨h3.os, h3.tape, h3.output, h3.size, h3.old, h3.sigOld, h3.sub, fun i c hc => (by cases hc), fun i c hc => (by cases hc), fun i j c d hc => (by cases hc), fun p hp => (by cases hp), fun p hp => (by cases hp), fun p hp => (by cases hp)⟩
end
end Go.Proofs.Ytfjoaeghnfkdlaa
