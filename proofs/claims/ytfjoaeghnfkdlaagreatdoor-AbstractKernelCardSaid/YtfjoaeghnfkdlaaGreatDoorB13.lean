/- How many low bits of a word are not set, by the package's table. No condition. -/
import Derived.Test.YtfjoaeghnfkdlaaGreatDoorB9
import Derived.Test.YtfjoaeghnfkdlaaGreatDoorB7
import Derived.Test.YtfjoaeghnfkdlaaGreatDoorB8
import Derived.WalkKit
set_option linter.unusedSimpArgs false
set_option linter.unusedVariables false
set_option maxHeartbeats 1000000
set_option linter.unusedSectionVars false
set_option linter.unnecessarySimpa false
set_option maxRecDepth 100000
namespace Go.Proofs.YtfjoaeghnfkdlaaGreatDoor
open Go.RowKit
def vJ (m : Nat) : List Nat := (List.range 64).filter m.testBit
def tzN (m : Nat) : Nat := (vJ m).headD 64
def tabL : List Nat := [0, 1, 56, 2, 57, 49, 28, 3, 61, 58, 42, 50, 38, 29, 17, 4, 62, 47, 59, 36, 45, 43, 51, 22, 53, 39, 33, 30, 24, 18, 12, 5, 63, 55, 48, 27, 60, 41, 37, 16, 46, 35, 44, 21, 52, 32, 23, 11, 54, 26, 40, 15, 34, 20, 31, 10, 25, 14, 19, 9, 13, 8, 7, 6]
theorem JJ (q i : Nat) : (2 * q + 1).testBit (i + 1) = q.testBit i := by rw [Nat.testBit_add_one]; congr 1; omega
theorem zo (q i : Nat) : (2 * q).testBit (i + 1) = q.testBit i := by rw [Nat.testBit_add_one]; congr 1; omega
theorem Qi (q : Nat) : (2 * q + 1).testBit 0 = true := by simp [Nat.testBit_zero]
theorem zO (q : Nat) : (2 * q).testBit 0 = false := by simp [Nat.testBit_zero]
theorem j1l : ∀ (n x : Nat), 0 < x -> x < 2 ^ n -> ∃ k, k < n ∧ x.testBit k = true ∧ (∀ i, i < k -> x.testBit i = false) ∧ x &&& (2 ^ n - x) = 2 ^ k ∧ ∀ i, (x &&& (x - 1)).testBit i = (x.testBit i && decide (k < i))
 | 0, x, h0, h1 => by simp at h1; omega
 | n + 1, x, h0, h1 => by
  rw [Nat.pow_succ] at h1
  rcases Nat.mod_two_eq_zero_or_one x with h | h
  ·obtain ⟨y, rfl⟩ : ∃ y, x = 2 * y := ⟨x / 2, by omega⟩
   obtain ⟨k, k1, k2, k3, k4, k5⟩ := j1l n y (by omega) (by omega)
   refine ⟨k + 1, by omega, by rw [zo]; exact k2, fun i hi => ?_, ?_, fun i => ?_⟩
   ·cases i with
    | zero => exact zO y
    | succ i => rw [zo]; exact k3 i (by omega)
   ·have e : 2 ^ (n + 1) - 2 * y = 2 * (2 ^ n - y) := by rw [Nat.pow_succ]; omega
    rw [e, Nat.pow_succ, <- k4]
    apply Nat.eq_of_testBit_eq
    intro i
    rw [Nat.mul_comm (y &&& (2 ^ n - y)) 2]
    cases i with
    | zero => rw [Nat.testBit_and, zO, zO, zO]; rfl
    | succ i => rw [Nat.testBit_and, zo, zo, zo, Nat.testBit_and]
   ·obtain ⟨z, hz⟩ : ∃ z, z = y - 1 := ⟨_, rfl⟩
    have e : 2 * y - 1 = 2 * z + 1 := by omega
    have := k5
    rw [<- hz] at this
    rw [e]
    cases i with
    | zero => rw [Nat.testBit_and, zO]; rfl
    | succ i =>
     have h2 := this i
     rw [Nat.testBit_and] at h2
     rw [Nat.testBit_and, zo, JJ, h2]
     congr 1
     simp
  ·obtain ⟨q, rfl⟩ : ∃ q, x = 2 * q + 1 := ⟨x / 2, by omega⟩
   refine ⟨0, by omega, Qi q, fun i hi => by omega, ?_, fun i => ?_⟩
   ·have hq : q < 2 ^ n := by omega
    have e : 2 ^ (n + 1) - (2 * q + 1) = 2 * (2 ^ n - (q + 1)) + 1 := by rw [Nat.pow_succ]; omega
    rw [e]
    apply Nat.eq_of_testBit_eq
    intro i
    cases i with
    | zero => rw [Nat.testBit_and, Qi, Qi]; rfl
    | succ i =>
     rw [Nat.testBit_and, JJ, JJ, Nat.testBit_two_pow_sub_succ hq]
     have : (2 ^ 0).testBit (i + 1) = false := by rw [show (2 : Nat) ^ 0 = 2 * 0 + 1 from rfl, JJ]; exact Nat.zero_testBit i
     rw [this]
     cases q.testBit i <;> simp
   ·have e : 2 * q + 1 - 1 = 2 * q := by omega
    rw [e]
    cases i with
    | zero => rw [Nat.testBit_and, zO]; simp
    | succ i => rw [Nat.testBit_and, zo, JJ]; simp
theorem YM {k : Nat} (h : k < 64) : List.range 64 = List.range' 0 k ++ k :: List.range' (k + 1) (63 - k) := by
 have e1 : List.range 64 = List.range' 0 (k + (1 + (63 - k))) := by rw [List.range_eq_range']; congr 1; omega
 rw [e1, <- List.range'_append_1, <- List.range'_append_1]
 simp [List.range']
theorem j4G {x k : Nat} (hk : k < 64) (h1 : x.testBit k = true) (h0 : ∀ i, i < k -> x.testBit i = false) : vJ x = k :: (List.range' (k + 1) (63 - k)).filter x.testBit := by
 unfold vJ
 rw [YM hk, List.filter_append, List.filter_cons, h1]
 have e : (List.range' 0 k).filter x.testBit = [] := by
  rw [List.filter_eq_nil_iff]
  intro i hi
  rw [List.mem_range'_1] at hi
  simp [h0 i (by omega)]
 rw [e]; rfl
theorem yJ {x : Nat} (h0 : 0 < x) (h1 : x < 2 ^ 64) : vJ x = tzN x :: vJ (x &&& (x - 1)) ∧ tzN x < 64 ∧ x &&& (2 ^ 64 - x) = 2 ^ tzN x := by
 obtain ⟨k, k1, k2, k3, k4, k5⟩ := j1l 64 x h0 h1
 have hb := j4G k1 k2 k3
 have ht : tzN x = k := by unfold tzN; rw [hb]; rfl
 rw [ht]
 refine ⟨?_, k1, k4⟩
 rw [hb]
 congr 1
 unfold vJ
 rw [YM k1, List.filter_append, List.filter_cons]
 have e : (List.range' 0 k).filter (x &&& (x - 1)).testBit = [] := by
  rw [List.filter_eq_nil_iff]
  intro i hi
  rw [List.mem_range'_1] at hi
  rw [k5 i, k3 i (by omega)]; simp
 rw [e, k5 k]
 simp only [Nat.lt_irrefl, decide_false, Bool.and_false, List.nil_append]
 refine List.filter_congr fun i hi => ?_
 rw [List.mem_range'_1] at hi
 rw [k5 i]
 simp; omega
theorem XF : vJ 0 = [] := by unfold vJ; rw [List.filter_eq_nil_iff]; intro i _; simp
theorem j5b : ∀ k : Fin 64, 2 ^ k.val * 285870213051353865 % 2 ^ 64 / 2 ^ 58 < 64 ∧ tabL.getD (2 ^ k.val * 285870213051353865 % 2 ^ 64 / 2 ^ 58) 0 = k.val := by decide +kernel
theorem j0T {a b : Nat} (ha : a < 2 ^ 64) (hb : b < 2 ^ 64) : yI .and .u64 (a : Int) (b : Int) = ((a &&& b : Nat) : Int) := by
 unfold yI
 have e : (BitVec.ofInt IntKind.u64.bits (a : Int) &&& BitVec.ofInt IntKind.u64.bits (b : Int)).toNat = a &&& b := by
  rw [BitVec.ofInt_natCast, BitVec.ofInt_natCast, BitVec.toNat_and, BitVec.toNat_ofNat, BitVec.toNat_ofNat]
  show (a % 2 ^ 64) &&& (b % 2 ^ 64) = _
  rw [Nat.mod_eq_of_lt ha, Nat.mod_eq_of_lt hb]
 simp only [e]
 have : a &&& b < 2 ^ 64 := Nat.lt_of_le_of_lt Nat.and_le_left ha
 exact wc (by simp only [jS]; omega)
def tabK : Know where
 T := fun σ => ∀ j : Nat, j < 64 -> σ ⟨0, j, none⟩ = some (.int .u8 (tabL.getD j 0 : Nat))
 mono := fun σ σ' h hs j hj => hs _ _ (h j hj)
def tzI (m : Nat) : Nat := 2 ^ tzN m * 285870213051353865 % 2 ^ 64 / 2 ^ 58
theorem j32 {m : Nat} (h0 : 0 < m) (hm : m < 2 ^ 64) : IntKind.u64.wrap (0 - (m : Int)) = ((2 ^ 64 - m : Nat) : Int) := by
 simp only [IntKind.wrap, IntKind.signed, IntKind.bits, Bool.false_and, Bool.false_eq_true, if_false]
 omega
theorem j29 {a b : Nat} : IntKind.u64.wrap ((a : Int) * (b : Int)) = ((a * b % 2 ^ 64 : Nat) : Int) := by
 simp only [IntKind.wrap, IntKind.signed, IntKind.bits, Bool.false_and, Bool.false_eq_true, if_false]
 rw [<- Int.natCast_mul]; omega
theorem j64 {m : Nat} (h0 : (m : Int) ≠ 0) (hm : m < 2 ^ 64) : tzI m < 64 ∧ tabL.getD (tzI m) 0 = tzN m := j5b ⟨tzN m, (yJ (by omega) hm).2.1⟩
theorem j6i {m : Nat} (h0 : (m : Int) ≠ 0) (hm : m < 2 ^ 64) : jS .u64 (tzI m : Int) := by
 have := (j64 h0 hm).1
 simp only [jS]; omega
theorem j6W {m : Nat} (h0 : (m : Int) ≠ 0) (hm : m < 2 ^ 64) : (IntKind.u64.wrap (yI .and .u64 (m : Int) (IntKind.u64.wrap (0 - (m : Int))) * 285870213051353865)).fdiv (2 ^ min (Int.toNat 58) 64) = (tzI m : Int) := by
 rw [j32 (by omega) hm, j0T hm (by omega), (yJ (by omega) hm).2.2, show (285870213051353865 : Int) = ((285870213051353865 : Nat) : Int) from rfl, j29, show ((2 : Int) ^ min (Int.toNat 58) 64) = ((2 ^ 58 : Nat) : Int) from rfl, Int.fdiv_eq_ediv_of_nonneg _ (by omega)]
 rfl
section
variable {P : Program} {n : Md} {Q : Exit -> j6 -> j8 -> Prop} {s : j6} {h : j8} {ops : Array Oper} {rest : List Oper} {o : Oper} {K : j6 -> Prop}
theorem j6d : ∀ j, j < 64 -> tabL.getD j 0 < 64 := by
 intro j hj
 have : ∀ k : Fin 64, tabL.getD k.val 0 < 64 := by decide +kernel
 exact this ⟨j, hj⟩
theorem j6D {t e : TypeId} {y : Operand} {ik : IntKind} {z : Int} {j id : Nat} (ho : o.op = .indexAddr t (.global 0) y) (hy : evA s y = .int ik z) (ht : P.underlying t = some (.array 64 e)) (hz : q9 P e 1 = true) (he : z = (j : Int)) (hj : j < 64) (hg : j9 h id = some (.sem (qT tabK))) :
  OkO P o s h (.ref [.int .u8 (tabL.getD j 0 : Nat)]) := by
 refine ja fun E σ ι a w hr hv => ?_
 have hY := hv y (by rw [ho]; simp [Op.operands])
 rw [hy] at hY
 have hk : ι id = .nilFunc ∧ tabK.T σ := hr.ch id _ hg
 subst he
 refine ⟨.pointer (some ⟨0, j, none⟩), ?_, .base _ _ (.ref _ 0 j (fun _ => .int .u8 (tabL.getD j 0 : Nat)) (fun i c hc => ?_) (fun i c hc => ?_))⟩
 ·have hc : (0 : Int) <= (j : Int) ∧ (j : Int) < (64 : Nat) := by omega
  have hgl : a.eval (.global 0) = .pointer (some ⟨0, 0, none⟩) := rfl
  simp only [execOp, ho, hgl, hY.int_inv.1, Instr.indexAt, asIntOf, Sem.run_bind, Sem.run_pure, Result.andThen_ok, run_underlying ht, vV hz, Instr.sureAddr]
  simp [hc, Sem.run_bind, vV hz, Sem.run_pure, Go.WideShapes.add_plain]
  omega
 ·cases i with
  | zero => exact hk.2 j hj
  | succ i => simp at hc
 ·have := j6d j hj
  cases i with
  | zero => simp at hc; subst hc; exact .int _ _ (by simp only [jS]; simp at this ⊢; omega)
  | succ i => simp at hc
theorem j4Q {t : TypeId} {x : Operand} {k : IntKind} {m : Int} (ho : o.op = .unOp .neg t x) (hx : evA s x = .int k m) : OkO P o s h (.int k (k.wrap (0 - m))) := by
 refine ja fun E σ ι a w hr hv => ?_
 have hX := hv x (by rw [ho]; simp [Op.operands])
 rw [hx] at hX
 refine ⟨_, ?_, .base _ _ (.int _ _ (w6 k _))⟩
 simp [execOp, ho, hX.int_inv.1, Op.unary, Op.intArith]
theorem j47 {t yt : TypeId} {x y : Operand} {k k' : IntKind} {a b : Int} {j : Nat} (ho : o.op = .binOp .shr t x y yt) (hx : evA s x = .int k a) (hy : evA s y = .int k' b) (h0 : 0 <= b) (he : a.fdiv (2 ^ min b.toNat k.bits) = (j : Int)) (hj : jS k (j : Int)) : OkO P o s h (.int k j) := by
 have hb : Xh .shr (.int k a) (.int k' b) = some (0 <= b ∧ jS k (j : Int), .int k j) := by simp only [Xh]; rw [he]
 have hs : Q0 P s h o = some (0 <= b ∧ jS k (j : Int), .int k j) := by
  unfold Q0; simp only [ho, hx, hy, hb]
 exact zA hs ⟨h0, hj⟩
theorem j1h {kn : Know} {f : FuncId} {fn : Func} {c : Code} {args : List AV} {r : AV} (hf : P.funcs[f]? = some fn) (he : qw P f) (hb : fn.body = some c) (hl : Nat.ble args.length fn.ntmps = true) (hp : w9 r = true) (hpa : yT args = true)
  (hwp : W P { n := fn.ntmps } c (JC P fn.results.toList (fun v _ => v = r)) (vc args 0) [(9, .sem (qT kn))]) : FnT P kn f args r := by
 refine ⟨he, fun σ ι w vs hk hsub hv => ?_⟩
 have r0 := (Rel.start σ ι w hsub).that hk 9 rfl (by omega)
 refine (ZA (pins := []) hf hb (Nat.ble_eq ▸ hl) hwp.out r0 (fun p hp => by cases hp) (V7 hpa hv)).mono ?_
 rintro e w' ⟨u, r', h', σ', ι', rfl, rfl, h2, h3⟩
 refine ⟨u, σ', rfl, h2.pure hp, ?_⟩
 exact ⟨h3.os, h3.tape, h3.output, h3.size, h3.old, h3.sigOld, h3.sub, fun i c hc => (by cases hc), fun i c hc => (by cases hc), fun i j c d hc => (by cases hc), fun p hp => (by cases hp), fun p hp => (by cases hp), fun p hp => (by cases hp)⟩
end
theorem j5T (m : Nat) (hm : m < 2 ^ 64) : FnT Tryz.prog tabK 105 [.int .u64 m] (.int .i64 (tzN m)) := by
 refine j1h Tryz.func105 (j5 (by kernel_rfl)) rfl rfl rfl rfl ?_
 repeat' (first | refine sA ?_ | refine sY ?_ | ((first | apply kM | apply kN); (iterate 3 (· exact rfl)); (· first | exact Y.mk (j4Q rfl rfl) | exact Y.mk (j47 rfl rfl rfl (by omega) (j6W hc hm) (j6i hc hm)) | exact Y.mk (j6D (id := 9) rfl rfl rfl rfl rfl (j64 hc hm).1 rfl) | exact q_w rfl)) | refine sG ?_ | refine sQ ?_ ?_ | intro hc | exact trivial)
 ·obtain rfl : m = 0 := by omega
  exact jK rfl rfl
 ·have e1 := (j64 hc hm).2
  have e2 := (yJ (by omega) hm).2.1
  repeat' (first | refine sT ?_ | refine sQ ?_ ?_ | intro hc | exact trivial)
  refine jK rfl ?_
  rw [e1]
def mk1 : Nat -> Nat
 | 0 => 0
 | n + 1 => 0x55 + 256 * mk1 n
def S1 (n x : Nat) : Nat := (x / 2 &&& mk1 n) + (x &&& mk1 n)
def j6b (f : Nat -> Nat) : Nat -> Nat -> Nat
 | 0, _ => 0
 | n + 1, x => f (x % 256) + 256 * j6b f n (x / 256)
theorem f1 (p0 q : Nat) (h0 : p0 <= 8) : (p0 + 256 * q) / 2 ^ 8 = q := by omega
theorem f2 (a b q : Nat) (h0 : a <= 16) (h1 : b <= 16) : (a + 256 * (b + 256 * q)) / 2 ^ 16 = q := by omega
theorem f3 (a b c d q : Nat) (h0 : a <= 32) (h1 : b <= 32) (h0 : c <= 32) (h1 : d <= 32) : (a + 256 * (b + 256 * (c + 256 * (d + 256 * q)))) / 2 ^ 32 = q := by omega
theorem f4 (a b q r : Nat) (h : a + b < 128) : (a + 256 * q + (b + 256 * r)) % 128 = a + b := by omega
theorem f5 (p0 p1 p2 p3 p4 p5 p6 p7 : Nat) (h0 : p0 <= 8) (h1 : p1 <= 8) (h2 : p2 <= 8) (h3 : p3 <= 8) (h4 : p4 <= 8) (h5 : p5 <= 8) (h6 : p6 <= 8) (h7 : p7 <= 8) : p0 + 256 * (p1 + 256 * (p2 + 256 * (p3 + 256 * (p4 + 256 * (p5 + 256 * (p6 + 256 * p7)))))) < 2 ^ 60 := by omega
theorem f6 (a : Nat) (h : a < 2 ^ 60) : a + a / 2 ^ 8 < 2 ^ 61 := by omega
theorem f7 (a : Nat) (h : a < 2 ^ 61) : a + a / 2 ^ 16 < 2 ^ 62 := by omega
theorem f8 (a : Nat) (h : a < 2 ^ 62) : a + a / 2 ^ 32 < 2 ^ 63 := by omega
theorem j1w (m : Nat) : FnH Tryz.prog 74 [.int .u64 m] [(5, .row 3 1 [])] (fun v h' => v = .fn (.func 104) [] [.ptr 5 0] ∧ h' = [(5, .blk 91 [.int .u64 m])]) := by
 refine qo Tryz.func74 (j5 (by kernel_rfl)) rfl rfl ?_
 refine wle (s' := [(0, .int .u64 m)]) (h' := []) les (LeH.nil _) ?_
 repeat' (first | refine sA ?_ | (show O _ _ _ _ _ _ _; first | (show O _ _ _ _ (⟨_, .box _ _, _, _, _, _⟩ :: _) _ _; first | refine wx (id := 5) rfl rfl rfl rfl rfl rfl rfl rfl ?_)) | ((first | apply kM | apply kN); (iterate 3 (· exact rfl)); (· first | exact yab)) | refine sG ?_ | refine sQ ?_ ?_ | intro hc | exact trivial)
 exact jK rfl ⟨rfl, rfl⟩

def ρp (i : Nat) : Nat := [11, 10, 2, 3, 4, 5, 6, 9, 21, 22].getD i i
abbrev yY (l : Nat) (r : Loop) (σ0 : Sig) (m : Nat) (rest : j8) : j8 := (8, .sem (v6 l (.loop r))) :: (9, .sem (y8 σ0)) :: (0, .blk 91 [.int .u64 m]) :: rest
def x3 (prio : List Int) (best i : Int) : Int := if best < 0 ∨ prio.getD best.toNat 0 < prio.getD i.toNat 0 then i else best
theorem j4z (prio : List Int) (l : Nat) (r : Loop) (σ0 : Sig) (pins : List (Nat × Value)) (best : Int) (m i : Nat) (hr : r.state = .ready) (hpd : r.pending = none) (hab : Z2 Tryz.f41.body = some (r.params, r.assign, r.body)) (hk : r.tmps.size = Tryz.f41.ntmps)
  (hs : vj σ0 pins [(2, .ref [.lst 1 (prio.map eI)]), (6, .ptr 1 0)] r.tmps) (hbest : best < prio.length) :
  YF Tryz.prog l pins [.int .i64 i] (yY l r σ0 m [(1, .blk 3 [.int .i64 best]), (7, .sem (qT tabK))]) (fun b h' => (b = true ∧ i < prio.length ∧ h' = yY l { r with state := .ready, pending := none } σ0 m [(1, .blk 3 [.int .i64 (x3 prio best i)]), (7, .sem (qT tabK))]) ∨
   (b = false ∧ prio.length <= i ∧ h' = yY l { r with state := .done, pending := some (.exit 0) } σ0 m [(1, .blk 3 [.int .i64 best]), (7, .sem (qT tabK))])) := by
 change Option.some (_, _, _) = some _ at hab
 injection hab with hab
 injection hab with h1 hab
 injection hab with h2 h3
 refine j0D (QJ (R := fun b h' => (b = true ∧ i < prio.length ∧ LeH h' (yY l { r with state := .ready, pending := none } σ0 m [(1, .blk 3 [.int .i64 (x3 prio best i)]), (7, .sem (qT tabK))])) ∨
   (b = false ∧ prio.length <= i ∧ LeH h' (yY l { r with state := .done, pending := some (.exit 0) } σ0 m [(1, .blk 3 [.int .i64 best]), (7, .sem (qT tabK))]))) (idL := 8) (idK := 9) (σ0 := σ0) rfl rfl hr h1.symm hk (by decide) hs ?_) ?_
 ·refine Q9 h2 ?_
  repeat' (first | refine sT ?_ | refine sQ ?_ ?_ | intro hc | exact trivial)
  refine ⟨rfl, ?_⟩
  refine Q9 h3 ?_
  repeat' (first | refine sT ?_ | refine sQ ?_ ?_ | intro hc | exact trivial)
  ·exact ⟨rfl, .inr ⟨rfl, by omega, leh⟩⟩
  ·have e : x3 prio best i = i := by unfold x3; rw [if_pos (.inr (by simpa using hc))]
   exact ⟨rfl, .inl ⟨rfl, by omega, by rw [e]; exact leh⟩⟩
  ·have e : x3 prio best i = best := by unfold x3; rw [if_neg (by intro h; rcases h with h | h; omega; simp at hc h; omega)]
   exact ⟨rfl, .inl ⟨rfl, by omega, by rw [e]; exact leh⟩⟩
  ·have e : x3 prio best i = i := by unfold x3; rw [if_pos (.inl hc)]
   exact ⟨rfl, .inl ⟨rfl, by omega, by rw [e]; exact leh⟩⟩
 ·rintro b h' (⟨rfl, h4, h5⟩ | ⟨rfl, h4, h5⟩)
  ·exact ⟨_, h5, .inl ⟨rfl, h4, rfl⟩⟩
  ·exact ⟨_, h5, .inr ⟨rfl, h4, rfl⟩⟩
def wT (prio : List Int) : List Nat -> Int -> Int × Bool
 | [], b => (b, true)
 | i :: r, b => if i < prio.length then wT prio r (x3 prio b i) else (b, false)
theorem j3g {prio : List Int} {b : Int} {i : Nat} (hb : b < prio.length) (hi : i < prio.length) : x3 prio b i < prio.length := by unfold x3; split <;> omega
theorem XN {x : Nat} (h : 0 < x) : x &&& (x - 1) < x := Nat.lt_of_le_of_lt Nat.and_le_right (by omega)
theorem j5B (prio : List Int) (m : Nat) (hm : m < 2 ^ 64) (hn : prio.length <= 1000000) (l : Nat) (r : Loop) (σ0 : Sig) (pins : List (Nat × Value)) (hr : r.state = .ready) (hpd : r.pending = none) (hab : Z2 Tryz.f41.body = some (r.params, r.assign, r.body)) (hk : r.tmps.size = Tryz.f41.ntmps)
  (hs : vj σ0 pins [(2, .ref [.lst 1 (prio.map eI)]), (6, .ptr 1 0)] r.tmps) (hp5 : ∀ p ∈ pins, p.1 < 5) :
  FnHp Tryz.prog pins 104 (.fn (.yield l) [] [] :: [.ptr 0 0]) (yY l r σ0 m [(1, .blk 3 [.int .i64 (-1)]), (7, .sem (qT tabK))]) (fun v h' => v = .tup [] ∧ ∃ m', h' = yY l (if (wT prio (vJ m) (-1)).2 then r else { r with state := .done, pending := some (.exit 0) }) σ0 m' [(1, .blk 3 [.int .i64 (wT prio (vJ m) (-1)).1]), (7, .sem (qT tabK))]) := by
 refine j0K Tryz.func104 (j5 (by kernel_rfl)) rfl rfl ?_
 repeat' (first | refine sT ?_ | refine sQ ?_ ?_ | intro hc | exact trivial)
 refine jk (fun x : Nat × Int => ([(0, .fn (.yield l) [] []), (1, .ptr 0 0)], yY l r σ0 x.1 [(1, .blk 3 [.int .i64 x.2]), (7, .sem (qT tabK))])) (fun x => x.1 < 2 ^ 64 ∧ x.2 < prio.length ∧ wT prio (vJ x.1) x.2 = wT prio (vJ m) (-1)) (fun x => x.1) (m, -1) ⟨hm, by simp only; omega, rfl⟩ les leh (fun x hx => ?_)
 obtain ⟨x, b⟩ := x
 obtain ⟨h1, h2, h3⟩ := hx
 simp only at h1 h2 h3 ⊢
 repeat' (first | refine sA ?_ | refine sY ?_ | ((first | apply kM | apply kN); (iterate 3 (· exact rfl)); (· first | exact Y.mk (xU (id := 7) (j5T x h1) rfl rfl))) | refine sG ?_ | refine sQ ?_ ?_ | intro hc | exact trivial)
 ·obtain ⟨e1, e2, _⟩ := yJ (by omega) h1
  have hrd := rdy hr hpd
  refine j0P (fun i => i) (j4z prio l r σ0 pins b x (tzN x) hr hpd hab hk hs h2) (fun p hp => hp) hp5 rfl rfl rfl rfl leh rfl rfl rfl rfl rfl rfl (fun r1 h' hR => ?_)
  rw [hrd] at hR
  rcases hR with ⟨rfl, h4, rfl⟩ | ⟨rfl, h4, rfl⟩
  ·refine ⟨rfl, ?_⟩
   refine ole (h' := yY l r σ0 x [(1, .blk 3 [.int .i64 (x3 prio b (tzN x))]), (7, .sem (qT tabK))]) (LeS.refl _) leh ?_
   repeat' (first | refine sA ?_ | refine sY ?_ | ((first | apply kM | apply kN); (iterate 3 (· exact rfl)); (· first | exact q_w rfl)) | refine sG ?_ | refine sQ ?_ ?_ | intro hc | exact trivial)
   have e4 : yI .and .u64 (x : Int) ((x : Int) - 1) = ((x &&& (x - 1) : Nat) : Int) := by rw [show (x : Int) - 1 = ((x - 1 : Nat) : Int) by omega, j0T h1 (by omega)]
   refine ⟨(x &&& (x - 1), x3 prio b (tzN x)), ⟨Nat.lt_trans (XN (by omega)) h1, j3g h2 h4, ?_⟩, XN (by omega), les, ?_⟩
   ·rw [<- h3, e1, wT, if_pos h4]
   ·show LeH _ ((8, _) :: (9, _) :: (0, .blk _ [.int .u64 ((x &&& (x - 1) : Nat) : Int)]) :: _)
    rw [<- e4]
    exact leh
  ·refine ⟨rfl, ?_⟩
   refine ole (h' := yY l { r with state := .done, pending := some (.exit 0) } σ0 x [(1, .blk 3 [.int .i64 b]), (7, .sem (qT tabK))]) (LeS.refl _) leh ?_
   repeat' (first | refine sT ?_ | refine sQ ?_ ?_ | intro hc | exact trivial)
   have e3 : wT prio (vJ m) (-1) = (b, false) := by rw [<- h3, e1, wT, if_neg (by omega)]
   refine jK rfl ⟨rfl, x, ?_⟩
   rw [e3]; rfl
 ·obtain rfl : x = 0 := by omega
  have e3 : wT prio (vJ m) (-1) = (b, true) := by rw [<- h3, XF]; rfl
  refine vb rfl ⟨rfl, 0, ?_⟩
  rw [e3]; rfl
theorem j40 (prio : List Int) (m : Nat) (hm : m < 2 ^ 64) (hn : prio.length <= 1000000) : FnT Tryz.prog tabK 41 [.lst 1 (prio.map eI), .int .u64 m] (.tup [.int .i64 (max (wT prio (vJ m) (-1)).1 0), .bool (decide (0 <= (wT prio (vJ m) (-1)).1))]) := by
 refine fnt Tryz.func41 (j5 (by kernel_rfl)) rfl rfl rfl rfl ?_
 refine zI (v_w ?_)
 repeat' (first | refine sT ?_ | refine sQ ?_ ?_ | intro hc | exact trivial)
 refine wM ?_
 refine zI (v_w ?_)
 repeat' (first | refine sA ?_ | (show O _ _ _ _ _ _ _; first | refine jR (id := 10) rfl rfl rfl rfl rfl rfl rfl ?_) | refine sY ?_ | refine sG ?_ | refine sQ ?_ ?_ | intro hc | exact trivial)
 refine wM ?_
 refine j2g (fun D : Nat => ([wL D], [(6, .ptr 10 0)], [(10, .blk 3 [.int .i64 (wT prio (vJ m) (-1)).1]), (20, .sem (v6 D (.deferred (some []))))])) (zI (v_w ?_)) (fun D => ?_)
 repeat' (first | refine sT ?_ | refine sQ ?_ ?_ | intro hc | exact trivial)
 refine jh (jA eI 11 3 1 (by omega) rfl) ?_
 refine jL (fun i => i + 6) (j1w m) rfl rfl leh rfl rfl rfl rfl rfl rfl (fun r h' hR => ?_)
 obtain ⟨rfl, rfl⟩ := hR
 refine ⟨rfl, rfl, ?_⟩
 repeat' (first | refine sT ?_ | refine sQ ?_ ?_ | intro hc | exact trivial)
 refine wM (Xm ?_)
 refine j4u (s' := [(2, .ref [.lst 1 (prio.map eI)]), (6, .ptr 10 0), (9, .fn (.func 104) [] [.ptr 11 0])]) (h' := [(10, .blk 3 [.int .i64 (-1)]), (11, .blk 91 [.int .u64 m]), (9, .sem (qT tabK))]) les leh ?_
 refine XU (ρp) (caps0 := [.ptr 0 0]) (s0 := [(2, .ref [.lst 1 (prio.map eI)]), (6, .ptr 1 0)]) (hin0 := [(0, .blk 91 [.int .u64 m]), (1, .blk 3 [.int .i64 (-1)]), (7, .sem (qT tabK))]) 20 21 22 (R := fun l r v h' => r.state = .ready ∧ r.pending = none ∧ v = .tup [] ∧ ∃ σ0 m', h' = yY l (if (wT prio (vJ m) (-1)).2 then r else { r with state := .done, pending := some (.exit 0) }) σ0 m' [(1, .blk 3 [.int .i64 (wT prio (vJ m) (-1)).1]), (7, .sem (qT tabK))])
  rfl rfl rfl rfl (fun _ => rfl) (fun _ _ _ => rfl) (fun _ _ _ _ => leh) rfl rfl rfl (fun _ _ _ _ => rfl) les rfl (fun l D r σ0 pins q1 q2 q3 q4 q5 q6 q7 q8 => ?_) (fun l D r σ0 v h' hR => ?_) rfl
 ·exact zN (j5B prio m hm hn l r σ0 pins q1 q2 (by rw [q3, q4, q5]; rfl) q6 q7 q8) fun v h' ⟨e1, m', e2⟩ => ⟨q1, q2, e1, σ0, m', e2⟩
 ·obtain ⟨q1, q2, rfl, σ1, m', rfl⟩ := hR
  cases hp : (wT prio (vJ m) (-1)).2 with
  | true =>
   rw [if_pos rfl]
   refine ⟨rfl, r, rfl, by rw [q1]; simp, fun _ => ?_, fun c e => by rw [q2] at e; cases e⟩
   exact j69 (wM ⟨D, rfl, les, leh⟩)
  | false =>
   refine ⟨rfl, { r with state := .done, pending := some (.exit 0) }, rfl, by simp, fun e => by simp at e, fun c e => ?_⟩
   injection e with e
   subst e
   refine v_w (j2L (j75 (wM ⟨D, rfl, les, leh⟩)))
 ·refine zI (v_w ?_)
  repeat' (first | refine sT ?_ | refine sQ ?_ ?_ | intro hc | exact trivial)
  refine wM (v_w (j23 ?_))
  refine j27 (id := 20) rfl rfl (h0 := []) (LeH.nil _) rfl rfl
end Go.Proofs.YtfjoaeghnfkdlaaGreatDoor
namespace Go.Proofs.YtfjoaeghnfkdlaaGreatDoor
open Go.RowKit Go.ChangeShapes Go.WideShapes

structure Due where
 at_ : Int
 task : Int
instance : Inhabited Due := ⟨⟨0, 0⟩⟩
theorem Due.ext_ {x y : Due} (h : x.at_ = y.at_ ∧ x.task = y.task) : x = y := by cases x; cases y; simp_all
instance : DecidableEq Due := fun x y => decidable_of_iff (x.at_ = y.at_ ∧ x.task = y.task) ⟨Due.ext_, fun h => by subst h; simp⟩
def Due.cells (x : Due) : List Value := [.int .i64 x.at_, .int .i64 x.task]
def Due.ok (x : Due) : Prop := (Lit.int .i64 x.at_).wf = true ∧ (Lit.int .i64 x.task).wf = true
def Due.cod : Cod Due := fun _ cs x => cs = x.cells ∧ x.ok
theorem Due.mono : Mono Due.cod := fun _ _ _ _ _ h => h
theorem Due.size {w : World} {cs : List Value} {x : Due} (h : Due.cod w cs x) : cs.length = 2 := by rw [h.1]; rfl
theorem Due.at {w : World} {b off : Nat} {xs : List Due} (h : Row' Due.cod 2 w b off xs) (i : Nat) (hi : i < xs.length) :
  w.cell? ⟨b, off + i * 2, none⟩ = some (.int .i64 xs[i].at_) ∧ w.cell? ⟨b, off + i * 2 + 1, none⟩ = some (.int .i64 xs[i].task) ∧ xs[i].ok := by
 obtain ⟨cs, hx, _, hc⟩ := h i xs[i] (List.getElem?_eq_getElem hi)
 obtain ⟨rfl, hk⟩ := hx
 exact ⟨hc 0 _ rfl, hc 1 _ rfl, hk⟩
theorem Due.run_eqIn (x y : Due) (w : World) : (Op.equalIn 10000 60 (.agg #[.int .i64 x.at_, .int .i64 x.task]) (.agg #[.int .i64 y.at_, .int .i64 y.task])).run Tryz.prog w = .ok (decide (x = y)) w := by
 have hs : Tryz.prog.stoodInHeld 60 = false := by kernel_rfl
 rw [run_equalIn_agg w 9999 60 _ _ (by simp only [Program.fieldsOf, Tryz.underlying60]) hs]
 simp only [Program.fieldsOf, Tryz.underlying60]
 simp [go_sem]
 by_cases h : x = y
 ·subst h; simp
 ·rw [show decide (x = y) = false from by simp [h]]
  repeat' split
  all_goals first | rfl | exact absurd (Due.ext_ ⟨by assumption, by assumption⟩) h
theorem Due.run_guard (op : BinOp) (xo yo : Operand) (xs ys : Array Value) (w : World) : (eqGuard op 60 xo yo (.agg xs) (.agg ys)).run Tryz.prog w = .ok () w := run_eqGuard_agg w op 60 xo yo xs ys (by kernel_rfl)
end Go.Proofs.YtfjoaeghnfkdlaaGreatDoor
namespace Go.Proofs.YtfjoaeghnfkdlaaGreatDoor
open Go.RowKit
def jD (x : Due) : List AV := [.int .i64 x.at_, .int .i64 x.task]
theorem j5w : Br Due.cod jD := fun w cs x ⟨h1, h2⟩ => by
 subst h1
 obtain ⟨h_at_, h_task⟩ := h2
 exact ((L2.nil _).cons (.int _ _ (qc.2 h_task))).cons (.int _ _ (qc.2 h_at_))
theorem j5a : ∀ σ ι x vs, L2 (VR σ ι) (jD x) vs -> vs = Due.cells x := fun σ ι x vs h => by
 obtain ⟨u0, r0, rfl, h0, h⟩ := L2.cons_inv h
 obtain ⟨u1, r1, rfl, h1, h⟩ := L2.cons_inv h
 rw [L2.nil_iff] at h
 subst h
 rw [h0.int_inv.1, h1.int_inv.1]
 rfl
theorem j5Z {s : j6} {h : j8} {o : Oper} {yt : TypeId} {X Y : Operand} {op : BinOp} {x y : Due} (ho : o.op = .binOp op 60 X Y yt) (hop : op = .eql ∨ op = .neq) (hx : evA s X = .agg (jD x)) (hy : evA s Y = .agg (jD y)) : OkO Tryz.prog o s h (.bool (if op = .eql then decide (x = y) else !decide (x = y))) :=
 j63 Due.cells jD hop j5a (fun w => Due.run_eqIn x y w) (fun xs ys w => Due.run_guard op X Y xs ys w) ho hx hy
theorem Zx {s : j6} {h : j8} {o : Oper} {yt : TypeId} {X Y : Operand} {x y : Due} (ho : o.op = .binOp .neq 60 X Y yt) (hx : evA s X = .agg (jD x)) (hy : evA s Y = .agg (jD y)) : OkO Tryz.prog o s h (.bool (!decide (x = y))) := j5Z ho (.inr rfl) hx hy
end Go.Proofs.YtfjoaeghnfkdlaaGreatDoor
namespace Go.Proofs.YtfjoaeghnfkdlaaGreatDoor
open Go.RowKit Go.ChangeShapes Go.WideShapes

structure Job where
 task : Int
 no : Int
 release : Int
 deadline : Int
 start : Int
 fin : Int
 steps : Int
 missed : Bool
instance : Inhabited Job := ⟨⟨0, 0, 0, 0, 0, 0, 0, false⟩⟩
theorem Job.ext_ {x y : Job} (h : x.task = y.task ∧ x.no = y.no ∧ x.release = y.release ∧ x.deadline = y.deadline ∧ x.start = y.start ∧ x.fin = y.fin ∧ x.steps = y.steps ∧ x.missed = y.missed) : x = y := by cases x; cases y; simp_all
instance : DecidableEq Job := fun x y => decidable_of_iff (x.task = y.task ∧ x.no = y.no ∧ x.release = y.release ∧ x.deadline = y.deadline ∧ x.start = y.start ∧ x.fin = y.fin ∧ x.steps = y.steps ∧ x.missed = y.missed) ⟨Job.ext_, fun h => by subst h; simp⟩
def Job.cells (x : Job) : List Value := [.int .i64 x.task, .int .i64 x.no, .int .i64 x.release, .int .i64 x.deadline, .int .i64 x.start, .int .i64 x.fin, .int .i64 x.steps, .bool x.missed]
def Job.ok (x : Job) : Prop := (Lit.int .i64 x.task).wf = true ∧ (Lit.int .i64 x.no).wf = true ∧ (Lit.int .i64 x.release).wf = true ∧ (Lit.int .i64 x.deadline).wf = true ∧ (Lit.int .i64 x.start).wf = true ∧ (Lit.int .i64 x.fin).wf = true ∧ (Lit.int .i64 x.steps).wf = true
def Job.cod : Cod Job := fun _ cs x => cs = x.cells ∧ x.ok
theorem Job.mono : Mono Job.cod := fun _ _ _ _ _ h => h
theorem Job.size {w : World} {cs : List Value} {x : Job} (h : Job.cod w cs x) : cs.length = 8 := by rw [h.1]; rfl
theorem Job.at {w : World} {b off : Nat} {xs : List Job} (h : Row' Job.cod 8 w b off xs) (i : Nat) (hi : i < xs.length) :
  w.cell? ⟨b, off + i * 8, none⟩ = some (.int .i64 xs[i].task) ∧ w.cell? ⟨b, off + i * 8 + 1, none⟩ = some (.int .i64 xs[i].no) ∧ w.cell? ⟨b, off + i * 8 + 2, none⟩ = some (.int .i64 xs[i].release) ∧ w.cell? ⟨b, off + i * 8 + 3, none⟩ = some (.int .i64 xs[i].deadline) ∧ w.cell? ⟨b, off + i * 8 + 4, none⟩ = some (.int .i64 xs[i].start) ∧ w.cell? ⟨b, off + i * 8 + 5, none⟩ = some (.int .i64 xs[i].fin) ∧ w.cell? ⟨b, off + i * 8 + 6, none⟩ = some (.int .i64 xs[i].steps) ∧ w.cell? ⟨b, off + i * 8 + 7, none⟩ = some (.bool xs[i].missed) ∧ xs[i].ok := by
 obtain ⟨cs, hx, _, hc⟩ := h i xs[i] (List.getElem?_eq_getElem hi)
 obtain ⟨rfl, hk⟩ := hx
 exact ⟨hc 0 _ rfl, hc 1 _ rfl, hc 2 _ rfl, hc 3 _ rfl, hc 4 _ rfl, hc 5 _ rfl, hc 6 _ rfl, hc 7 _ rfl, hk⟩
theorem Job.run_eqIn (x y : Job) (w : World) : (Op.equalIn 10000 71 (.agg #[.int .i64 x.task, .int .i64 x.no, .int .i64 x.release, .int .i64 x.deadline, .int .i64 x.start, .int .i64 x.fin, .int .i64 x.steps, .bool x.missed]) (.agg #[.int .i64 y.task, .int .i64 y.no, .int .i64 y.release, .int .i64 y.deadline, .int .i64 y.start, .int .i64 y.fin, .int .i64 y.steps, .bool y.missed])).run Tryz.prog w = .ok (decide (x = y)) w := by
 have hs : Tryz.prog.stoodInHeld 71 = false := by kernel_rfl
 rw [run_equalIn_agg w 9999 71 _ _ (by simp only [Program.fieldsOf, Tryz.underlying71]) hs]
 simp only [Program.fieldsOf, Tryz.underlying71]
 simp [go_sem]
 by_cases h : x = y
 ·subst h; simp
 ·rw [show decide (x = y) = false from by simp [h]]
  repeat' split
  all_goals first | rfl | exact absurd (Job.ext_ ⟨by assumption, by assumption, by assumption, by assumption, by assumption, by assumption, by assumption, by assumption⟩) h
theorem Job.run_guard (op : BinOp) (xo yo : Operand) (xs ys : Array Value) (w : World) : (eqGuard op 71 xo yo (.agg xs) (.agg ys)).run Tryz.prog w = .ok () w := run_eqGuard_agg w op 71 xo yo xs ys (by kernel_rfl)
end Go.Proofs.YtfjoaeghnfkdlaaGreatDoor
namespace Go.Proofs.YtfjoaeghnfkdlaaGreatDoor
open Go.RowKit
def vX (x : Job) : List AV := [.int .i64 x.task, .int .i64 x.no, .int .i64 x.release, .int .i64 x.deadline, .int .i64 x.start, .int .i64 x.fin, .int .i64 x.steps, .bool x.missed]
theorem YX {α : Type} {xs ys : List α} (hl : xs.length = ys.length) : (∀ k, k < xs.length -> xs[k]? = ys[k]?) -> xs = ys := by
 intro h
 apply List.ext_getElem?
 intro i
 by_cases hi : i < xs.length
 ·exact h i hi
 ·rw [List.getElem?_eq_none (by omega), List.getElem?_eq_none (by omega)]
theorem Z4 {α : Type} [Inhabited α] {xs ys : List α} {k : Nat} (h : xs.getD k default = ys.getD k default) (h1 : k < xs.length) (h2 : k < ys.length) (he : ∀ j, j < k -> xs[j]? = ys[j]?) : ∀ j, j < k + 1 -> xs[j]? = ys[j]? := fun j hj => by
 rcases Nat.lt_succ_iff_lt_or_eq.1 hj with h' | rfl
 ·exact he j h'
 ·rw [List.getElem?_eq_getElem h1, List.getElem?_eq_getElem h2]
  simpa [h1, h2] using h
theorem j0M (xs ys : List Int) : Fn Tryz.prog 29 [.lst 1 (xs.map eI), .lst 1 (ys.map eI)] (.bool (decide (xs = ys))) := by
 refine fnb Tryz.func29 (j5 (by kernel_rfl)) rfl rfl rfl ?_
 repeat' (first | refine sT ?_ | refine sQ ?_ ?_ | intro hc | exact trivial)
 ·exact jK rfl (congrArg AV.bool (decide_eq_false fun e => hc (by rw [e])).symm)
 ·refine jk (fun k : Nat => ([(0, .lst 1 (xs.map eI)), (1, .lst 1 (ys.map eI)), (12, .int .i64 xs.length), (13, .int .i64 k)], [])) (fun k => k <= xs.length ∧ ∀ j, j < k -> xs[j]? = ys[j]?) (fun k => xs.length - k) 0 ⟨by omega, fun j hj => by omega⟩ les leh (fun k hk => ?_)
  obtain ⟨hk, he⟩ := hk
  refine Qe 12 rfl (fun hr => ?_)
  simp only [jS] at hr
  have hl : xs.length = ys.length := by omega
  repeat' (first | refine sT ?_ | refine sQ ?_ ?_ | intro hc | exact trivial)
  ·exact jK rfl (congrArg AV.bool (decide_eq_false fun e => hc (by rw [e])).symm)
  ·exact ⟨k + 1, ⟨by omega, Z4 hc (by omega) (by omega) he⟩, by omega, les, leh⟩
  ·exact jK rfl (congrArg AV.bool (decide_eq_true (YX hl fun j hj => he j (by omega))).symm)
theorem j58 (xs ys : List Due) : Fn Tryz.prog 22 [.lst 2 (xs.map jD), .lst 2 (ys.map jD)] (.bool (decide (xs = ys))) := by
 refine fnb Tryz.func22 (j5 (by kernel_rfl)) rfl rfl rfl ?_
 repeat' (first | refine sA ?_ | refine sY ?_ | ((first | apply kM | apply kN); (iterate 3 (· exact rfl)); (· first | exact Y.mk (Zx rfl rfl rfl))) | refine sG ?_ | refine sQ ?_ ?_ | intro hc | exact trivial)
 ·exact jK rfl (congrArg AV.bool (decide_eq_false fun e => hc (by rw [e])).symm)
 ·refine jk (fun k : Nat => ([(0, .lst 2 (xs.map jD)), (1, .lst 2 (ys.map jD)), (12, .int .i64 xs.length), (13, .int .i64 k)], [])) (fun k => k <= xs.length ∧ ∀ j, j < k -> xs[j]? = ys[j]?) (fun k => xs.length - k) 0 ⟨by omega, fun j hj => by omega⟩ les leh (fun k hk => ?_)
  obtain ⟨hk, he⟩ := hk
  refine Qe 12 rfl (fun hr => ?_)
  simp only [jS] at hr
  have hl : xs.length = ys.length := by omega
  repeat' (first | refine sA ?_ | refine sY ?_ | ((first | apply kM | apply kN); (iterate 3 (· exact rfl)); (· first | exact Y.mk (Zx rfl rfl rfl))) | refine sG ?_ | refine sQ ?_ ?_ | intro hc | exact trivial)
  ·exact jK rfl (congrArg AV.bool (decide_eq_false fun e => hc (by rw [e])).symm)
  ·exact ⟨k + 1, ⟨by omega, Z4 hc (by omega) (by omega) he⟩, by omega, les, leh⟩
  ·exact jK rfl (congrArg AV.bool (decide_eq_true (YX hl fun j hj => he j (by omega))).symm)
end Go.Proofs.YtfjoaeghnfkdlaaGreatDoor
namespace Go.Proofs.YtfjoaeghnfkdlaaGreatDoor
section
variable {α : Type} {lt : α -> α -> Bool}
structure SWO (lt : α -> α -> Bool) : Prop where
 irr : ∀ x, lt x x = false
 tr : ∀ x y z, lt x y = true -> lt y z = true -> lt x z = true
 nt : ∀ x y z, lt x y = false -> lt y z = false -> lt x z = false
theorem SWO.asym (h : SWO lt) {x y : α} (hxy : lt x y = true) : lt y x = false := by
 cases hyx : lt y x with
 | false => rfl
 | true => have := h.tr x y x hxy hyx; rw [h.irr] at this; cases this
theorem SWO.tr1 (h : SWO lt) {x y z : α} (hxy : lt x y = true) (hzy : lt z y = false) : lt x z = true := by
 cases hxz : lt x z with
 | true => rfl
 | false => have := h.nt x z y hxz hzy; rw [this] at hxy; cases hxy
theorem SWO.tr2 (h : SWO lt) {x y z : α} (hxy : lt x y = true) (hzx : lt x z = false) : lt z y = true := by
 cases hzy : lt z y with
 | true => rfl
 | false => have := h.nt x z y hzx hzy; rw [this] at hxy; cases hxy
inductive Rch (lt : α -> α -> Bool) (l : List α) : List α -> Prop
 | refl : Rch lt l l
 | step (p q : List α) (u v : α) (h : Rch lt l (p ++ v :: u :: q)) (hl : lt u v = true) : Rch lt l (p ++ u :: v :: q)
theorem Rch.trans {l r t : List α} (h1 : Rch lt l r) (h2 : Rch lt r t) : Rch lt l t := by
 induction h2 with
 | refl => exact h1
 | step p q u v _ hl ih => exact .step p q u v ih hl
theorem Rch.ctx {l r : List α} (h : Rch lt l r) (p q : List α) : Rch lt (p ++ l ++ q) (p ++ r ++ q) := by
 induction h with
 | refl => exact .refl
 | step p' q' u v _ hl ih =>
  have := Rch.step (lt := lt) (p ++ p') (q' ++ q) u v (by simpa using ih) hl
  simpa using this
theorem Rch.perm {l r : List α} (h : Rch lt l r) : r.Perm l := by
 induction h with
 | refl => exact List.Perm.refl _
 | step p q u v _ hl ih => exact (List.Perm.append_left p (List.Perm.swap v u q)).trans ih
theorem Rch.len {l r : List α} (h : Rch lt l r) : r.length = l.length := h.perm.length_eq
theorem Rch.mem {l r : List α} (h : Rch lt l r) {x : α} : x ∈ r ↔ x ∈ l := h.perm.mem_iff
theorem Rch.app {l r l' r' : List α} (h1 : Rch lt l r) (h2 : Rch lt l' r') : Rch lt (l ++ l') (r ++ r') :=
 (by simpa using h1.ctx [] l' : Rch lt (l ++ l') (r ++ l')).trans (by simpa using h2.ctx r [])
theorem Rch.left (x : α) : ∀ (ys : List α), (∀ y ∈ ys, lt x y = true) -> Rch lt (ys ++ [x]) (x :: ys)
 | [], _ => .refl
 | y :: ys, h => by
  have h1 := Rch.left x ys fun z hz => h z (List.mem_cons_of_mem _ hz)
  have h2 : Rch lt (y :: ys ++ [x]) (y :: x :: ys) := by simpa using h1.ctx [y] []
  exact Rch.step [] ys x y h2 (h y List.mem_cons_self)
theorem Rch.right (x : α) : ∀ (ys : List α), (∀ y ∈ ys, lt y x = true) -> Rch lt (x :: ys) (ys ++ [x])
 | [], _ => .refl
 | y :: ys, h => by
  have h1 : Rch lt (x :: y :: ys) (y :: x :: ys) := Rch.step [] ys y x .refl (h y List.mem_cons_self)
  have h2 := (Rch.right x ys fun z hz => h z (List.mem_cons_of_mem _ hz)).ctx [y] []
  exact h1.trans (by simpa using h2)
theorem Rch.block : ∀ (xs ys : List α), (∀ v ∈ xs, ∀ u ∈ ys, lt u v = true) -> Rch lt (xs ++ ys) (ys ++ xs)
 | xs, [], _ => by simpa using Rch.refl
 | xs, y :: ys, h => by
  have h1 : Rch lt (xs ++ [y] ++ ys) (y :: xs ++ ys) := by simpa using (Rch.left y xs fun v hv => h v hv y List.mem_cons_self).ctx [] ys
  have h2 := (Rch.block xs ys fun v hv u hu => h v hv u (List.mem_cons_of_mem _ hu)).ctx [y] []
  have h3 : Rch lt (xs ++ y :: ys) (y :: (xs ++ ys)) := by simpa using h1
  exact h3.trans (by simpa using h2)
def Srt (lt : α -> α -> Bool) (l : List α) : Prop := l.Pairwise fun a b => lt b a = false
theorem Srt.nil : Srt lt [] := List.Pairwise.nil
theorem Srt.one (x : α) : Srt lt [x] := List.pairwise_singleton _ _
theorem Srt.app {l r : List α} : Srt lt (l ++ r) ↔ Srt lt l ∧ Srt lt r ∧ ∀ a ∈ l, ∀ b ∈ r, lt b a = false := List.pairwise_append
theorem Srt.of_len {l : List α} (h : l.length <= 1) : Srt lt l := by
 match l, h with
 | [], _ => exact .nil
 | [x], _ => exact .one x
def StS (lt : α -> α -> Bool) (l r : List α) : Prop := Rch lt l r ∧ Srt lt r
theorem StS.self {l : List α} (h : Srt lt l) : StS lt l l := ⟨.refl, h⟩
theorem StS.parts (xs1 xs2 ys1 ys2 L R : List α) (h1 : StS lt (xs1 ++ ys1) L) (h2 : StS lt (xs2 ++ ys2) R) (hb : ∀ v ∈ xs2, ∀ u ∈ ys1, lt u v = true) (ha : ∀ u ∈ xs1 ++ ys1, ∀ v ∈ xs2 ++ ys2, lt v u = false) :
  StS lt ((xs1 ++ xs2) ++ (ys1 ++ ys2)) (L ++ R) := by
 refine ⟨?_, Srt.app.2 ⟨h1.2, h2.2, fun a hA b hB => ha a (h1.1.mem.1 hA) b (h2.1.mem.1 hB)⟩⟩
 have h3 : Rch lt ((xs1 ++ xs2) ++ (ys1 ++ ys2)) ((xs1 ++ ys1) ++ (xs2 ++ ys2)) := by
  have := (Rch.block xs2 ys1 hb).ctx xs1 ys2
  simpa using this
 exact h3.trans (h1.1.app h2.1)
theorem Rch.pairs {l r : List α} (h : Rch lt l r) {R : α -> α -> Prop} (hR : l.Pairwise R) : r.Pairwise fun a b => R a b ∨ lt a b = true := by
 induction h with
 | refl => exact hR.imp fun h => .inl h
 | step p q u v _ hl ih =>
  rw [List.pairwise_append] at ih ⊢
  obtain ⟨h1, h2, h3⟩ := ih
  rw [List.pairwise_cons, List.pairwise_cons] at h2
  refine ⟨h1, ?_, fun a ha b hb => h3 a ha b (by simp only [List.mem_cons] at hb ⊢; rcases hb with h | h | h; exact .inr (.inl h); exact .inl h; exact .inr (.inr h))⟩
  rw [List.pairwise_cons, List.pairwise_cons]
  refine ⟨fun b hb => ?_, fun b hb => h2.1 b (List.mem_cons_of_mem _ hb), h2.2.2⟩
  rcases List.mem_cons.1 hb with rfl | hb
  ·exact .inr hl
  ·exact h2.2.1 b hb
/-! ## Chunks -/
structure BS (lt : α -> α -> Bool) (k : Nat) (D : List α) (cs : List (List α)) (c : List α) : Prop where
 eq : D = cs.flatten ++ c
 full : ∀ x ∈ cs, x.length = k ∧ Srt lt x
 len : c.length <= k
 srt : Srt lt c
theorem BS.snoc {k : Nat} {A c : List α} {cs : List (List α)} (h : A = cs.flatten) (hf : ∀ x ∈ cs, x.length = k ∧ Srt lt x) (hc : c.length = k) (hs : Srt lt c) : A ++ c = (cs ++ [c]).flatten ∧ ∀ x ∈ cs ++ [c], x.length = k ∧ Srt lt x := by
 refine ⟨by simp [h], fun x hx => ?_⟩
 rcases List.mem_append.1 hx with hx | hx
 ·exact hf x hx
 ·rw [List.mem_singleton.1 hx]; exact ⟨hc, hs⟩
theorem BS.two {k : Nat} {B c : List α} {cs : List (List α)} (hk : 0 < k) (h : BS lt k B cs c) (hl : 2 * k <= B.length) :
  ∃ c1 c2 B' cs' c', B = c1 ++ c2 ++ B' ∧ c1.length = k ∧ c2.length = k ∧ Srt lt c1 ∧ Srt lt c2 ∧ BS lt k B' cs' c' := by
 obtain ⟨h1, h2, h3, h4⟩ := h
 match cs, h1, h2 with
 | [], h1, h2 => simp only [List.flatten_nil, List.nil_append] at h1; subst h1; omega
 | [c1], h1, h2 =>
  have e1 := h2 c1 (by simp)
  have : B.length = k + c.length := by rw [h1]; simp [e1.1]
  exact ⟨c1, c, [], [], [], by rw [h1]; simp, e1.1, by omega, e1.2, h4, ⟨by simp, by simp, by simp, .nil⟩⟩
 | c1 :: c2 :: cs, h1, h2 =>
  have e1 := h2 c1 (by simp)
  have e2 := h2 c2 (by simp)
  exact ⟨c1, c2, cs.flatten ++ c, cs, c, by rw [h1]; simp, e1.1, e2.1, e1.2, e2.2, ⟨rfl, fun x hx => h2 x (by simp [hx]), h3, h4⟩⟩
theorem BS.last {k : Nat} {B c : List α} {cs : List (List α)} (hk : 0 < k) (h : BS lt k B cs c) (hl : B.length < 2 * k) : (B.length <= k ∧ Srt lt B) ∨ (k < B.length ∧ ∃ c1 c2, B = c1 ++ c2 ∧ c1.length = k ∧ Srt lt c1 ∧ Srt lt c2) := by
 obtain ⟨h1, h2, h3, h4⟩ := h
 match cs, h1, h2 with
 | [], h1, h2 => simp only [List.flatten_nil, List.nil_append] at h1; subst h1; exact .inl ⟨h3, h4⟩
 | [c1], h1, h2 =>
  have e1 := h2 c1 (by simp)
  have : B.length = k + c.length := by rw [h1]; simp [e1.1]
  by_cases hc : c.length = 0
  ·rw [List.eq_nil_of_length_eq_zero hc] at h1
   refine .inl ⟨by omega, ?_⟩
   rw [h1]; simpa using e1.2
  ·exact .inr ⟨by omega, c1, c, by rw [h1]; simp, e1.1, e1.2, h4⟩
 | c1 :: c2 :: cs, h1, h2 =>
  have e1 := h2 c1 (by simp)
  have e2 := h2 c2 (by simp)
  have : k + k <= B.length := by rw [h1]; simp [e1.1, e2.1]
  omega
theorem BS.whole {k : Nat} {B c : List α} {cs : List (List α)} (hk : 0 < k) (h : BS lt k B cs c) (hl : B.length <= k) : Srt lt B := by
 rcases h.last hk (by omega) with h | h
 ·exact h.2
 ·omega
/-! ## Places in lists that are put together -/
theorem QV [Inhabited α] (p q : List α) (x : α) : (p ++ x :: q).getD p.length default = x := by simp
theorem JF (p q : List α) (x y : α) : (p ++ x :: q).set p.length y = p ++ y :: q := by simp
theorem XX [Inhabited α] (p q r : List α) (x y : α) : (p ++ x :: q ++ y :: r).getD (p.length + 1 + q.length) default = y := by
 have := QV (p ++ x :: q) r y
 simp [Nat.add_assoc, Nat.add_comm 1]
theorem Zz (p q r : List α) (x y z : α) : (p ++ x :: q ++ y :: r).set (p.length + 1 + q.length) z = p ++ x :: q ++ z :: r := by
 have := JF (p ++ x :: q) r y z
 simp [Nat.add_assoc, Nat.add_comm 1]
theorem j0F [Inhabited α] (p q r : List α) (x y : α) : ((p ++ x :: q ++ y :: r).set (p.length + 1 + q.length) x).set p.length y = p ++ y :: q ++ x :: r := by
 rw [Zz, List.append_assoc, List.cons_append, JF]; simp
theorem j0L [Inhabited α] (p q r : List α) (x y : α) : ((p ++ x :: q ++ y :: r).set p.length y).set (p.length + 1 + q.length) x = p ++ y :: q ++ x :: r := by
 rw [show p ++ x :: q ++ y :: r = p ++ x :: (q ++ y :: r) by simp, JF, show p ++ y :: (q ++ y :: r) = p ++ y :: q ++ y :: r by simp, Zz]
theorem Zq [Inhabited α] {l p q : List α} {x : α} {i : Nat} (h : l = p ++ x :: q) (hi : i = p.length) : l.getD i default = x := by rw [h, hi]; exact QV p q x
def swM (P X Z Y S : List α) (k : Nat) : List α := P ++ (Y.take k ++ X.drop k) ++ Z ++ (X.take k ++ Y.drop k) ++ S
theorem V5 {l : List α} {k : Nat} (hk : k < l.length) : ∃ a x b, l = a ++ x :: b ∧ a.length = k := ⟨l.take k, l[k], l.drop (k + 1), by simp, by simp; omega⟩
theorem YC [Inhabited α] {P X Z Y S : List α} {k i j : Nat} (h : Y.length = X.length) (hk : k < X.length) (hi : i = P.length + k) (hj : j = P.length + X.length + Z.length + k) :
  ((swM P X Z Y S k).set i ((swM P X Z Y S k).getD j default)).set j ((swM P X Z Y S k).getD i default) = swM P X Z Y S (k + 1) := by
 obtain ⟨X1, x, X2, rfl, h1⟩ := V5 hk
 obtain ⟨Y1, y, Y2, rfl, h2⟩ := V5 (l := Y) (k := k) (by omega)
 have e1 : swM P (X1 ++ x :: X2) Z (Y1 ++ y :: Y2) S k = (P ++ Y1) ++ x :: (X2 ++ Z ++ X1) ++ y :: (Y2 ++ S) := by
  unfold swM
  rw [List.take_append_of_le_length (by omega), List.take_append_of_le_length (by omega), List.take_of_length_le (by omega), List.take_of_length_le (by omega), <- h1, List.drop_left, h1, <- h2, List.drop_left]
  simp
 have e2 : swM P (X1 ++ x :: X2) Z (Y1 ++ y :: Y2) S (k + 1) = (P ++ Y1) ++ y :: (X2 ++ Z ++ X1) ++ x :: (Y2 ++ S) := by
  have t : ∀ (a b : List α) (z : α), a.length = k -> (a ++ z :: b).take (k + 1) = a ++ [z] ∧ (a ++ z :: b).drop (k + 1) = b := fun a b z ha => by
   rw [show a ++ z :: b = (a ++ [z]) ++ b by simp, show k + 1 = (a ++ [z]).length by simp [ha], List.take_left, List.drop_left]; exact ⟨rfl, rfl⟩
  unfold swM
  rw [(t _ _ _ h1).1, (t _ _ _ h1).2, (t _ _ _ h2).1, (t _ _ _ h2).2]
  simp
 have hi' : i = (P ++ Y1).length := by simp; omega
 have hj' : j = (P ++ Y1).length + 1 + (X2 ++ Z ++ X1).length := by simp at hj ⊢; omega
 rw [e1, e2, hi', hj', XX, List.append_assoc (P ++ Y1), List.cons_append, QV, <- List.cons_append, <- List.append_assoc, j0L]
theorem j01 {P X Z Y S : List α} {k : Nat} (h : Y.length = X.length) : (swM P X Z Y S k).length = P.length + X.length + Z.length + Y.length + S.length := by
 simp only [swM, List.length_append, List.length_take, List.length_drop]; omega
theorem j5J (P X Z Y S : List α) : swM P X Z Y S 0 = P ++ X ++ Z ++ Y ++ S := by simp [swM]
theorem j5H {P X Z Y S : List α} {n : Nat} (h1 : X.length = n) (h2 : Y.length = n) : swM P X Z Y S n = P ++ Y ++ Z ++ X ++ S := by
 unfold swM
 rw [List.take_of_length_le (by omega), List.take_of_length_le (by omega), List.drop_of_length_le (by omega), List.drop_of_length_le (by omega)]
 simp
end
section
variable {α : Type} [Inhabited α] {lt : α -> α -> Bool}
theorem adj {M p r : List α} {u v : α} {k k' : Nat} (h : M = p ++ u :: v :: r) (hk : k = p.length) (hk' : k' = k + 1) : M.getD k default = u ∧ M.getD k' default = v ∧ (M.set k' u).set k v = p ++ v :: u :: r ∧ (M.set k v).set k' u = p ++ v :: u :: r := by
 subst hk'; subst h; subst hk
 have e : p ++ u :: v :: r = p ++ u :: [] ++ v :: r := by simp
 refine ⟨QV _ _ _, ?_, ?_, ?_⟩
 ·rw [e]; exact XX p [] r u v
 ·rw [e]; have := j0F p [] r u v; simpa using this
 ·rw [e]; have := j0L p [] r u v; simpa using this
theorem Zn {pp xx yy ss : List α} {k i : Nat} (hk : k < xx.length) (hi : i = pp.length + k) : (pp ++ xx ++ yy ++ ss).getD i default = xx.getD k default := by
 subst hi
 simp only [List.getD_eq_getElem?_getD, List.append_assoc]
 rw [List.getElem?_append_right (by omega), Nat.add_sub_cancel_left, List.getElem?_append_left hk]
theorem j0a {pp xx yy ss : List α} {k i : Nat} (hk : k < yy.length) (hi : i = pp.length + xx.length + k) : (pp ++ xx ++ yy ++ ss).getD i default = yy.getD k default := by
 subst hi
 have e : pp ++ xx ++ yy ++ ss = (pp ++ xx) ++ yy ++ ss ++ [] := by simp
 rw [e]
 exact Zn hk (by simp)
theorem qN {l : List α} {k : Nat} (h : k < l.length) : l.getD k default ∈ l := by simp [h]
theorem QP {l : List α} {q : Nat} {v : α} (h : v ∈ l.take q) : ∃ c, c < q ∧ c < l.length ∧ v = l.getD c default := by
 obtain ⟨c, hc, rfl⟩ := List.getElem_of_mem h
 rw [List.length_take] at hc
 exact ⟨c, by omega, by omega, by simp [show c < l.length by omega]⟩
theorem Qa {l : List α} {q : Nat} {v : α} (h : v ∈ l.drop q) : ∃ c, q <= c ∧ c < l.length ∧ v = l.getD c default := by
 obtain ⟨c, hc, rfl⟩ := List.getElem_of_mem h
 rw [List.length_drop] at hc
 exact ⟨q + c, by omega, by omega, by simp [show q + c < l.length by omega]⟩
theorem Srt.at {l : List α} (h : Srt lt l) {i j : Nat} (hij : i < j) (hj : j < l.length) : lt (l.getD j default) (l.getD i default) = false := by
 have := List.pairwise_iff_getElem.1 h i j (by omega) hj hij
 simpa [hj, show i < l.length by omega] using this
theorem Srt.at' (hs : SWO lt) {l : List α} (h : Srt lt l) {i j : Nat} (hij : i <= j) (hj : j < l.length) : lt (l.getD j default) (l.getD i default) = false := by
 rcases Nat.lt_or_eq_of_le hij with h1 | rfl
 ·exact h.at h1 hj
 ·exact hs.irr _
theorem Srt.take {l : List α} (h : Srt lt l) (q : Nat) : Srt lt (l.take q) := List.Pairwise.sublist (List.take_sublist q l) h
theorem Srt.drop {l : List α} (h : Srt lt l) (q : Nat) : Srt lt (l.drop q) := List.Pairwise.sublist (List.drop_sublist q l) h
theorem j02 (hs : SWO lt) {x : α} {yy : List α} {q : Nat} (hy : Srt lt yy) (h1 : ∀ k, k < q -> k < yy.length -> lt (yy.getD k default) x = true) (h2 : ∀ k, q <= k -> k < yy.length -> lt (yy.getD k default) x = false) : StS lt ([x] ++ yy) (yy.take q ++ x :: yy.drop q) := by
 have m1 : ∀ v ∈ yy.take q, lt v x = true := fun v hv => by obtain ⟨c, a, b, rfl⟩ := QP hv; exact h1 c a b
 have m2 : ∀ v ∈ yy.drop q, lt v x = false := fun v hv => by obtain ⟨c, a, b, rfl⟩ := Qa hv; exact h2 c a b
 refine ⟨?_, ?_⟩
 ·have h3 := (Rch.right x (yy.take q) m1).ctx [] (yy.drop q)
  have e : [x] ++ yy = [] ++ (x :: yy.take q) ++ yy.drop q := by simp
  rw [e]
  simpa using h3
 ·rw [Srt.app]
  have h4 : Srt lt (yy.take q ++ yy.drop q) := by rw [List.take_append_drop]; exact hy
  rw [Srt.app] at h4
  refine ⟨h4.1, List.pairwise_cons.2 ⟨m2, h4.2.1⟩, fun a ha b hb => ?_⟩
  rcases List.mem_cons.1 hb with rfl | hb
  ·exact hs.asym (m1 a ha)
  ·exact h4.2.2 a ha b hb
theorem j0B (hs : SWO lt) {y : α} {xx : List α} {q : Nat} (hx : Srt lt xx) (h1 : ∀ k, k < q -> k < xx.length -> lt y (xx.getD k default) = false) (h2 : ∀ k, q <= k -> k < xx.length -> lt y (xx.getD k default) = true) : StS lt (xx ++ [y]) (xx.take q ++ y :: xx.drop q) := by
 have m1 : ∀ v ∈ xx.take q, lt y v = false := fun v hv => by obtain ⟨c, a, b, rfl⟩ := QP hv; exact h1 c a b
 have m2 : ∀ v ∈ xx.drop q, lt y v = true := fun v hv => by obtain ⟨c, a, b, rfl⟩ := Qa hv; exact h2 c a b
 refine ⟨?_, ?_⟩
 ·have h3 := (Rch.left y (xx.drop q) m2).ctx (xx.take q) []
  have e : xx ++ [y] = xx.take q ++ (xx.drop q ++ [y]) ++ [] := by rw [<- List.append_assoc, List.take_append_drop, List.append_nil]
  rw [e]
  simpa using h3
 ·rw [Srt.app]
  have h4 : Srt lt (xx.take q ++ xx.drop q) := by rw [List.take_append_drop]; exact hx
  rw [Srt.app] at h4
  refine ⟨h4.1, List.pairwise_cons.2 ⟨fun a ha => hs.asym (m2 a ha), h4.2.1⟩, fun a ha b hb => ?_⟩
  rcases List.mem_cons.1 hb with rfl | hb
  ·exact m1 a ha
  ·exact h4.2.2 a ha b hb
theorem ZB (hs : SWO lt) {xx yy L R : List α} {h s : Nat} (hx : Srt lt xx) (hy : Srt lt yy) (hh : h = (xx.length + yy.length) / 2) (hlo : h - yy.length <= s) (hhi : s <= h) (hhi2 : s <= xx.length)
  (h1 : ∀ c, c < s -> h - yy.length <= c -> lt (yy.getD (h - 1 - c) default) (xx.getD c default) = false) (h2 : ∀ c, s <= c -> c < h -> c < xx.length -> lt (yy.getD (h - 1 - c) default) (xx.getD c default) = true)
  (hL : StS lt (xx.take s ++ yy.take (h - s)) L) (hR : StS lt (xx.drop s ++ yy.drop (h - s)) R) : StS lt (xx ++ yy) (L ++ R) := by
 have hb : ∀ v ∈ xx.drop s, ∀ u ∈ yy.take (h - s), lt u v = true := fun v hv u hu => by
  obtain ⟨c, c1, c2, rfl⟩ := Qa hv
  obtain ⟨d, d1, d2, rfl⟩ := QP hu
  have k1 := h2 s (Nat.le_refl _) (by omega) (by omega)
  have k2 := hy.at' hs (i := d) (j := h - 1 - s) (by omega) (by omega)
  have k3 := hx.at' hs (i := s) (j := c) c1 c2
  exact hs.tr1 (hs.tr2 k1 k2) k3
 have hx' : Srt lt (xx.take s ++ xx.drop s) := by rw [List.take_append_drop]; exact hx
 have hy' : Srt lt (yy.take (h - s) ++ yy.drop (h - s)) := by rw [List.take_append_drop]; exact hy
 rw [Srt.app] at hx' hy'
 have := StS.parts (xx.take s) (xx.drop s) (yy.take (h - s)) (yy.drop (h - s)) L R hL hR hb (fun u hu v hv => ?_)
 ·rwa [List.take_append_drop, List.take_append_drop] at this
 rcases List.mem_append.1 hu with hu | hu <;> rcases List.mem_append.1 hv with hv | hv
 ·exact hx'.2.2 u hu v hv
 ·obtain ⟨c, c1, c2, rfl⟩ := QP hu
  obtain ⟨d, d1, d2, rfl⟩ := Qa hv
  by_cases hz : h - yy.length < s
  ·have k1 := h1 (s - 1) (by omega) (by omega)
   rw [show h - 1 - (s - 1) = h - s by omega] at k1
   have k2 := hy.at' hs (i := h - s) (j := d) d1 d2
   have k3 := hx.at' hs (i := c) (j := s - 1) (by omega) (by omega)
   exact hs.nt _ _ _ (hs.nt _ _ _ k2 k1) k3
  ·omega
 ·exact hs.asym (hb v hv u hu)
 ·exact hy'.2.2 u hu v hv
theorem tdl (xx : List α) (s : Nat) : xx.take s ++ xx.drop s = xx := List.take_append_drop s xx
theorem j08 (hs : SWO lt) {yy : List α} {x : α} (hy : Srt lt yy) {i j : Nat} (hij : i <= j) (hj : j < yy.length) (h : lt (yy.getD j default) x = true) : lt (yy.getD i default) x = true := hs.tr2 h (hy.at' hs hij hj)
theorem Xj (hs : SWO lt) {yy : List α} {x : α} (hy : Srt lt yy) {i j : Nat} (hij : i <= j) (hj : j < yy.length) (h : lt (yy.getD i default) x = false) : lt (yy.getD j default) x = false := hs.nt _ _ _ (hy.at' hs hij hj) h
theorem j06 (hs : SWO lt) {xx : List α} {y : α} (hx : Srt lt xx) {i j : Nat} (hij : i <= j) (hj : j < xx.length) (h : lt y (xx.getD j default) = false) : lt y (xx.getD i default) = false := hs.nt _ _ _ h (hx.at' hs hij hj)
theorem Xa (hs : SWO lt) {xx : List α} {y : α} (hx : Srt lt xx) {i j : Nat} (hij : i <= j) (hj : j < xx.length) (h : lt y (xx.getD i default) = true) : lt y (xx.getD j default) = true := hs.tr1 h (hx.at' hs hij hj)
end
end Go.Proofs.YtfjoaeghnfkdlaaGreatDoor
