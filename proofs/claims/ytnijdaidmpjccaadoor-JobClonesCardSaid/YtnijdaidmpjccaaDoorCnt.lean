/- How many members a set has, by adding neighbours. No condition. -/
import Derived.Test.YtnijdaidmpjccaaDoorTz
import Derived.Test.YtnijdaidmpjccaaDoorAvTop
namespace Go.Proofs.YtnijdaidmpjccaaDoor
set_option linter.unusedSimpArgs false
set_option linter.unusedVariables false
set_option maxRecDepth 100000
set_option linter.unusedSimpArgs false
set_option linter.unusedVariables false
set_option maxRecDepth 100000
open Go.RowKit
def cntB (n x : Nat) : Nat := (List.range n).countP x.testBit
theorem bitsL_len (x : Nat) : (bitsL x).length = cntB 64 x := by unfold bitsL cntB; rw [List.countP_eq_length_filter]
/-- A byte on top of which others stand. -/
theorem byte_and (p q r s : Nat) (hp : p < 256) (hr : r < 256) : (p + 256 * q) &&& (r + 256 * s) = (p &&& r) + 256 * (q &&& s) := by
  have hpr : p &&& r < 256 := Nat.lt_of_le_of_lt Nat.and_le_left hp
  apply Nat.eq_of_testBit_eq
  intro i
  have t : ∀ (a b : Nat), a < 256 → (a + 256 * b).testBit i = if i < 8 then a.testBit i else b.testBit (i - 8) := fun a b ha => by
    have := Nat.testBit_two_pow_mul_add (i := 8) b (b := a) ha i
    rw [show 2 ^ 8 * b + a = a + 256 * b by omega] at this
    exact this
  rw [Nat.testBit_and, t _ _ hp, t _ _ hr, t _ _ hpr]
  split
  · rw [Nat.testBit_and]
  · rw [Nat.testBit_and]
theorem byte_cnt (n a y : Nat) (ha : a < 256) : cntB (n + 8) (a + 256 * y) = cntB 8 a + cntB n y := by
  unfold cntB
  have t : ∀ i, (a + 256 * y).testBit i = if i < 8 then a.testBit i else y.testBit (i - 8) := fun i => by
    have := Nat.testBit_two_pow_mul_add (i := 8) y (b := a) ha i
    rw [show 2 ^ 8 * y + a = a + 256 * y by omega] at this
    exact this
  rw [show n + 8 = 8 + n by omega, List.range_add, List.countP_append, List.countP_map]
  congr 1
  · refine List.countP_congr fun i hi => ?_
    rw [List.mem_range] at hi
    rw [t i, if_pos hi]
  · refine List.countP_congr fun i hi => ?_
    show (a + 256 * y).testBit (8 + i) = true ↔ _
    rw [t (8 + i), if_neg (by omega)]
    simp
def s1B (a : Nat) : Nat := (a / 2 &&& 0x55) + (a &&& 0x55)
def s2B (a : Nat) : Nat := (a / 4 &&& 0x33) + (a &&& 0x33)
def s3B (a : Nat) : Nat := (a / 16 + a) &&& 0x0f
theorem s1_low : ∀ a : Fin 256, ∀ b : Fin 2, (a.val / 2 + 128 * b.val) &&& 0x55 = a.val / 2 &&& 0x55 := by decide +kernel
theorem s2_low : ∀ a : Fin 256, ∀ b : Fin 4, (a.val / 4 + 64 * b.val) &&& 0x33 = a.val / 4 &&& 0x33 := by decide +kernel
theorem s3_low : ∀ a : Fin 256, ∀ b : Fin 5, a.val % 16 ≤ 4 → a.val / 16 ≤ 4 → (a.val / 16 + a.val + 16 * b.val) &&& 0x0f = s3B a.val := by decide +kernel
theorem s_byte : ∀ a : Fin 256, s1B a.val < 256 ∧ s2B (s1B a.val) % 16 ≤ 4 ∧ s2B (s1B a.val) / 16 ≤ 4 ∧ s2B (s1B a.val) < 256 ∧ s3B (s2B (s1B a.val)) = cntB 8 a.val ∧ cntB 8 a.val ≤ 8 := by decide +kernel
def mk1 : Nat → Nat
  | 0 => 0
  | n + 1 => 0x55 + 256 * mk1 n
def mk2 : Nat → Nat
  | 0 => 0
  | n + 1 => 0x33 + 256 * mk2 n
def mk3 : Nat → Nat
  | 0 => 0
  | n + 1 => 0x0f + 256 * mk3 n
def S1 (n x : Nat) : Nat := (x / 2 &&& mk1 n) + (x &&& mk1 n)
def S2 (n x : Nat) : Nat := (x / 4 &&& mk2 n) + (x &&& mk2 n)
def S3 (n x : Nat) : Nat := (x / 16 + x) &&& mk3 n
/-- The bytes, each told. -/
def bytes (f : Nat → Nat) : Nat → Nat → Nat
  | 0, _ => 0
  | n + 1, x => f (x % 256) + 256 * bytes f n (x / 256)
theorem S1_bytes : ∀ n x, S1 n x = bytes s1B n x
  | 0, x => by simp [S1, mk1, bytes]
  | n + 1, x => by
    obtain ⟨a, y, ha, rfl⟩ : ∃ a y, a < 256 ∧ x = a + 256 * y := ⟨x % 256, x / 256, by omega, by omega⟩
    have e1 : (a + 256 * y) / 2 = (a / 2 + 128 * (y % 2)) + 256 * (y / 2) := by omega
    have e2 : (a + 256 * y) % 256 = a := by omega
    have e3 : (a + 256 * y) / 256 = y := by omega
    have ih := S1_bytes n y
    unfold S1 at ih ⊢
    rw [bytes, e2, e3, ← ih, mk1, e1, byte_and _ _ _ _ (by omega) (by omega), byte_and _ _ _ _ ha (by omega), s1_low ⟨a, ha⟩ ⟨y % 2, by omega⟩, s1B]
    simp only; omega
theorem S2_bytes : ∀ n x, S2 n x = bytes s2B n x
  | 0, x => by simp [S2, mk2, bytes]
  | n + 1, x => by
    obtain ⟨a, y, ha, rfl⟩ : ∃ a y, a < 256 ∧ x = a + 256 * y := ⟨x % 256, x / 256, by omega, by omega⟩
    have e1 : (a + 256 * y) / 4 = (a / 4 + 64 * (y % 4)) + 256 * (y / 4) := by omega
    have e2 : (a + 256 * y) % 256 = a := by omega
    have e3 : (a + 256 * y) / 256 = y := by omega
    have ih := S2_bytes n y
    unfold S2 at ih ⊢
    rw [bytes, e2, e3, ← ih, mk2, e1, byte_and _ _ _ _ (by omega) (by omega), byte_and _ _ _ _ ha (by omega), s2_low ⟨a, ha⟩ ⟨y % 4, by omega⟩, s2B]
    simp only; omega
/-- Bytes whose halves are at most 4. -/
def smallB : Nat → Nat → Prop
  | 0, x => x = 0
  | n + 1, x => x % 256 % 16 ≤ 4 ∧ x % 256 / 16 ≤ 4 ∧ smallB n (x / 256)
theorem small_low {n x : Nat} (h : smallB n x) : x % 16 ≤ 4 := by
  cases n with
  | zero => simp only [smallB] at h; subst h; omega
  | succ n => simp only [smallB] at h; omega
theorem S3_bytes : ∀ n x, smallB n x → S3 n x = bytes s3B n x
  | 0, x, _ => by simp [S3, mk3, bytes]
  | n + 1, x, h => by
    obtain ⟨a, y, ha, rfl⟩ : ∃ a y, a < 256 ∧ x = a + 256 * y := ⟨x % 256, x / 256, by omega, by omega⟩
    have e2 : (a + 256 * y) % 256 = a := by omega
    have e3 : (a + 256 * y) / 256 = y := by omega
    simp only [smallB, e2, e3] at h
    obtain ⟨h1, h2, h3⟩ := h
    have h4 := small_low h3
    have e1 : (a + 256 * y) / 16 + (a + 256 * y) = (a / 16 + a + 16 * (y % 16)) + 256 * (y / 16 + y) := by omega
    have ih := S3_bytes n y h3
    unfold S3 at ih ⊢
    rw [bytes, e2, e3, ← ih, mk3, e1, byte_and _ _ _ _ (by omega) (by omega), s3_low ⟨a, ha⟩ ⟨y % 16, by omega⟩ h1 h2]
theorem bytes_bytes {f g : Nat → Nat} (hf : ∀ a, a < 256 → f a < 256) : ∀ n x, bytes g n (bytes f n x) = bytes (fun a => g (f a)) n x
  | 0, x => rfl
  | n + 1, x => by
    have := hf (x % 256) (by omega)
    rw [bytes, bytes, bytes, show (f (x % 256) + 256 * bytes f n (x / 256)) % 256 = f (x % 256) by omega, show (f (x % 256) + 256 * bytes f n (x / 256)) / 256 = bytes f n (x / 256) by omega, bytes_bytes hf n]
theorem bytes_small {f : Nat → Nat} (hf : ∀ a, a < 256 → f a < 256 ∧ f a % 16 ≤ 4 ∧ f a / 16 ≤ 4) : ∀ n x, smallB n (bytes f n x)
  | 0, x => rfl
  | n + 1, x => by
    have := hf (x % 256) (by omega)
    rw [bytes, smallB, show (f (x % 256) + 256 * bytes f n (x / 256)) % 256 = f (x % 256) by omega, show (f (x % 256) + 256 * bytes f n (x / 256)) / 256 = bytes f n (x / 256) by omega]
    exact ⟨this.2.1, this.2.2, bytes_small hf n _⟩
theorem bytes_congr {f g : Nat → Nat} (h : ∀ a, a < 256 → f a = g a) : ∀ n x, bytes f n x = bytes g n x
  | 0, x => rfl
  | n + 1, x => by rw [bytes, bytes, h _ (by omega), bytes_congr h n]
theorem S_all (n x : Nat) : S3 n (S2 n (S1 n x)) = bytes (cntB 8) n x := by
  have b1 : ∀ a, a < 256 → s1B a < 256 := fun a ha => (s_byte ⟨a, ha⟩).1
  rw [S1_bytes, S2_bytes, bytes_bytes b1, S3_bytes n _ (bytes_small (fun a ha => ⟨(s_byte ⟨a, ha⟩).2.2.2.1, (s_byte ⟨a, ha⟩).2.1, (s_byte ⟨a, ha⟩).2.2.1⟩) n x),
    bytes_bytes (fun a ha => (s_byte ⟨a, ha⟩).2.2.2.1)]
  exact bytes_congr (fun a ha => (s_byte ⟨a, ha⟩).2.2.2.2.1) n x
theorem bytes_cnt : ∀ n x, cntB (8 * n) x = (List.range n).foldr (fun j t => cntB 8 (x / 256 ^ j % 256) + t) 0
  | 0, x => rfl
  | n + 1, x => by
    have h := byte_cnt (8 * n) (x % 256) (x / 256) (by omega)
    rw [show x % 256 + 256 * (x / 256) = x by omega, bytes_cnt n] at h
    rw [show 8 * (n + 1) = 8 * n + 8 by omega, h, List.range_succ_eq_map, List.foldr_cons, List.foldr_map]
    congr 1
    · simp
    · congr 1
      funext j t
      rw [Nat.div_div_eq_div_mul, show 256 * 256 ^ j = 256 ^ (j + 1) by rw [Nat.pow_succ, Nat.mul_comm]]
theorem f1 (p0 q : Nat) (h0 : p0 ≤ 8) : (p0 + 256 * q) / 2 ^ 8 = q := by omega
theorem f2 (a b q : Nat) (h0 : a ≤ 16) (h1 : b ≤ 16) : (a + 256 * (b + 256 * q)) / 2 ^ 16 = q := by omega
theorem f3 (a b c d q : Nat) (h0 : a ≤ 32) (h1 : b ≤ 32) (h0 : c ≤ 32) (h1 : d ≤ 32) : (a + 256 * (b + 256 * (c + 256 * (d + 256 * q)))) / 2 ^ 32 = q := by omega
theorem f4 (a b q r : Nat) (h : a + b < 128) : (a + 256 * q + (b + 256 * r)) % 128 = a + b := by omega
theorem f5 (p0 p1 p2 p3 p4 p5 p6 p7 : Nat) (h0 : p0 ≤ 8) (h1 : p1 ≤ 8) (h2 : p2 ≤ 8) (h3 : p3 ≤ 8) (h4 : p4 ≤ 8) (h5 : p5 ≤ 8) (h6 : p6 ≤ 8) (h7 : p7 ≤ 8) : p0 + 256 * (p1 + 256 * (p2 + 256 * (p3 + 256 * (p4 + 256 * (p5 + 256 * (p6 + 256 * p7)))))) < 2 ^ 60 := by omega
theorem f6 (a : Nat) (h : a < 2 ^ 60) : a + a / 2 ^ 8 < 2 ^ 61 := by omega
theorem f7 (a : Nat) (h : a < 2 ^ 61) : a + a / 2 ^ 16 < 2 ^ 62 := by omega
theorem f8 (a : Nat) (h : a < 2 ^ 62) : a + a / 2 ^ 32 < 2 ^ 63 := by omega
theorem fold_bytes (p0 p1 p2 p3 p4 p5 p6 p7 a : Nat) (h0 : p0 ≤ 8) (h1 : p1 ≤ 8) (h2 : p2 ≤ 8) (h3 : p3 ≤ 8) (h4 : p4 ≤ 8) (h5 : p5 ≤ 8) (h6 : p6 ≤ 8) (h7 : p7 ≤ 8)
    (ha : a = p0 + 256 * (p1 + 256 * (p2 + 256 * (p3 + 256 * (p4 + 256 * (p5 + 256 * (p6 + 256 * p7))))))) :
    a < 2 ^ 60 ∧ (a + a / 2 ^ 8 + (a + a / 2 ^ 8) / 2 ^ 16 + (a + a / 2 ^ 8 + (a + a / 2 ^ 8) / 2 ^ 16) / 2 ^ 32) % 128 = p0 + p1 + p2 + p3 + p4 + p5 + p6 + p7 := by
  refine ⟨by rw [ha]; exact f5 _ _ _ _ _ _ _ _ h0 h1 h2 h3 h4 h5 h6 h7, ?_⟩
  have ea : a / 2 ^ 8 = p1 + 256 * (p2 + 256 * (p3 + 256 * (p4 + 256 * (p5 + 256 * (p6 + 256 * p7))))) := by rw [ha]; exact f1 _ _ h0
  have eb0 : a + a / 2 ^ 8 = (p0 + p1) + 256 * ((p1 + p2) + 256 * ((p2 + p3) + 256 * ((p3 + p4) + 256 * ((p4 + p5) + 256 * ((p5 + p6) + 256 * ((p6 + p7) + 256 * p7)))))) := by
    rw [ea, ha]; clear ea ha h0 h1 h2 h3 h4 h5 h6 h7; omega
  rw [eb0, f2 _ _ _ (by clear eb0 ea ha; omega) (by clear eb0 ea ha; omega)]
  have ec0 : (p0 + p1) + 256 * ((p1 + p2) + 256 * ((p2 + p3) + 256 * ((p3 + p4) + 256 * ((p4 + p5) + 256 * ((p5 + p6) + 256 * ((p6 + p7) + 256 * p7)))))) + ((p2 + p3) + 256 * ((p3 + p4) + 256 * ((p4 + p5) + 256 * ((p5 + p6) + 256 * ((p6 + p7) + 256 * p7))))) =
      (p0 + p1 + (p2 + p3)) + 256 * ((p1 + p2 + (p3 + p4)) + 256 * ((p2 + p3 + (p4 + p5)) + 256 * ((p3 + p4 + (p5 + p6)) + 256 * ((p4 + p5 + (p6 + p7)) + 256 * ((p5 + p6 + p7) + 256 * ((p6 + p7) + 256 * p7)))))) := by
    clear eb0 ea ha h0 h1 h2 h3 h4 h5 h6 h7; omega
  rw [ec0, f3 _ _ _ _ _ (by clear eb0 ea ec0 ha; omega) (by clear eb0 ea ec0 ha; omega) (by clear eb0 ea ec0 ha; omega) (by clear eb0 ea ec0 ha; omega), f4 _ _ _ _ (by clear eb0 ea ec0 ha; omega)]
  clear eb0 ea ec0 ha h0 h1 h2 h3 h4 h5 h6 h7; omega
theorem bytes_lt {f : Nat → Nat} (hf : ∀ a, a < 256 → f a < 256) : ∀ n x, bytes f n x < 256 ^ n
  | 0, x => by simp [bytes]
  | n + 1, x => by
    have h1 := hf (x % 256) (by omega)
    have h2 := bytes_lt hf n (x / 256)
    rw [bytes, Nat.pow_succ]; omega
theorem wadd {a b : Nat} (h : a + b < 2 ^ 64) : IntKind.u64.wrap ((a : Int) + (b : Int)) = ((a + b : Nat) : Int) := wrap_in (by simp only [rangeP]; omega)
theorem shrN {a : Nat} (k : Nat) (hk : k ≤ 64) : (a : Int).fdiv (2 ^ min (Int.toNat (k : Int)) IntKind.u64.bits) = ((a / 2 ^ k : Nat) : Int) := by
  rw [show min (Int.toNat (k : Int)) IntKind.u64.bits = k by simp [IntKind.bits]; omega, show ((2 : Int) ^ k) = ((2 ^ k : Nat) : Int) by simp, Int.fdiv_eq_ediv_of_nonneg _ (Int.natCast_nonneg _)]
  rfl
theorem shr_rg {a k : Nat} (h : a < 2 ^ 64) : rangeP .u64 ((a / 2 ^ k : Nat) : Int) := by
  have : a / 2 ^ k ≤ a := Nat.div_le_self _ _
  generalize a / 2 ^ k = q at this ⊢
  simp only [rangeP]; omega
def x1N (m : Nat) : Nat := S1 8 m
def x2N (m : Nat) : Nat := S2 8 (S1 8 m)
def x3N (m : Nat) : Nat := S3 8 (S2 8 (S1 8 m))
theorem x1_lt (m : Nat) : x1N m < 2 ^ 64 := by unfold x1N; rw [S1_bytes]; exact bytes_lt (fun a ha => (s_byte ⟨a, ha⟩).1) 8 m
theorem x2_lt (m : Nat) : x2N m < 2 ^ 64 := by unfold x2N; rw [S1_bytes, S2_bytes, bytes_bytes (fun a ha => (s_byte ⟨a, ha⟩).1)]; exact bytes_lt (fun a ha => (s_byte ⟨a, ha⟩).2.2.2.1) 8 m
theorem x2_small (m : Nat) : x2N m / 16 + x2N m < 2 ^ 64 := by
  have h : smallB 8 (x2N m) := by unfold x2N; rw [S1_bytes, S2_bytes, bytes_bytes (fun a ha => (s_byte ⟨a, ha⟩).1)]; exact bytes_small (fun a ha => ⟨(s_byte ⟨a, ha⟩).2.2.2.1, (s_byte ⟨a, ha⟩).2.1, (s_byte ⟨a, ha⟩).2.2.1⟩) 8 m
  have g : ∀ n x, smallB n x → x < 2 ^ (8 * n - 1) ∨ n = 0 ∧ x = 0 := by
    intro n
    induction n with
    | zero => intro x h; exact .inr ⟨rfl, h⟩
    | succ n ih =>
      intro x h
      simp only [smallB] at h
      refine .inl ?_
      rcases ih _ h.2.2 with h2 | ⟨rfl, h2⟩
      · cases n with
        | zero => simp at h2; omega
        | succ n =>
          rw [show 8 * (n + 1 + 1) - 1 = (8 * (n + 1) - 1) + 8 by omega, Nat.pow_add]
          omega
      · show x < 128
        omega
  rcases g 8 _ h with h | ⟨h, _⟩
  · have : x2N m < 2 ^ 63 := h
    omega
  · omega
theorem x3_all (m : Nat) : x3N m = bytes (cntB 8) 8 m := S_all 8 m
theorem x3_end (m : Nat) : x3N m < 2 ^ 60 ∧ (x3N m + x3N m / 2 ^ 8 + (x3N m + x3N m / 2 ^ 8) / 2 ^ 16 + (x3N m + x3N m / 2 ^ 8 + (x3N m + x3N m / 2 ^ 8) / 2 ^ 16) / 2 ^ 32) % 128 = cntB 64 m := by
  have h8 : ∀ a, cntB 8 (a % 256) ≤ 8 := fun a => (s_byte ⟨a % 256, by omega⟩).2.2.2.2.2
  have hb := bytes_cnt 8 m
  have h := fold_bytes (cntB 8 (m / 256 ^ 0 % 256)) (cntB 8 (m / 256 ^ 1 % 256)) (cntB 8 (m / 256 ^ 2 % 256)) (cntB 8 (m / 256 ^ 3 % 256)) (cntB 8 (m / 256 ^ 4 % 256)) (cntB 8 (m / 256 ^ 5 % 256)) (cntB 8 (m / 256 ^ 6 % 256)) (cntB 8 (m / 256 ^ 7 % 256)) (x3N m)
    (h8 _) (h8 _) (h8 _) (h8 _) (h8 _) (h8 _) (h8 _) (h8 _) (by
      rw [x3_all]
      simp only [bytes, Nat.div_div_eq_div_mul, Nat.pow_zero, Nat.div_one]
      rfl)
  refine ⟨h.1, ?_⟩
  rw [h.2, show (64 : Nat) = 8 * 8 from rfl, hb]
  simp only [List.range, List.range.loop, List.foldr_cons, List.foldr_nil]
  omega
theorem and127 {v : Nat} (h : v < 2 ^ 63) : bitsV .and .i64 (v : Int) 127 = ((v % 128 : Nat) : Int) := by
  unfold bitsV
  have e : (BitVec.ofInt IntKind.i64.bits (v : Int) &&& BitVec.ofInt IntKind.i64.bits 127).toNat = v % 128 := by
    rw [BitVec.ofInt_natCast, show (127 : Int) = ((127 : Nat) : Int) from rfl, BitVec.ofInt_natCast, BitVec.toNat_and, BitVec.toNat_ofNat, BitVec.toNat_ofNat]
    show (v % 2 ^ 64) &&& (127 % 2 ^ 64) = _
    rw [Nat.mod_eq_of_lt (by omega), Nat.mod_eq_of_lt (by omega), show (127 : Nat) = 2 ^ 7 - 1 from rfl, Nat.and_two_pow_sub_one_eq_mod]
  simp only [e]
  exact wrap_in (by simp only [rangeP]; omega)
theorem s1_e (m : Nat) (hm : m < 2 ^ 64) : IntKind.u64.wrap (bitsV .and .u64 ((m / 2 ^ 1 : Nat) : Int) 6148914691236517205 + bitsV .and .u64 (m : Int) 6148914691236517205) = (x1N m : Int) := by
  have h1 := x1_lt m
  rw [show (6148914691236517205 : Int) = ((6148914691236517205 : Nat) : Int) from rfl, and64 (by omega) (by omega), and64 hm (by omega)]
  exact wadd h1
theorem s2_e (m : Nat) : IntKind.u64.wrap (bitsV .and .u64 ((x1N m / 2 ^ 2 : Nat) : Int) 3689348814741910323 + bitsV .and .u64 (x1N m : Int) 3689348814741910323) = (x2N m : Int) := by
  have h1 := x1_lt m
  have h2 := x2_lt m
  rw [show (3689348814741910323 : Int) = ((3689348814741910323 : Nat) : Int) from rfl, and64 (by omega) (by omega), and64 h1 (by omega)]
  exact wadd h2
theorem s3_e (m : Nat) : bitsV .and .u64 (IntKind.u64.wrap (((x2N m / 2 ^ 4 : Nat) : Int) + (x2N m : Int))) 1085102592571150095 = (x3N m : Int) := by
  have h2 := x2_small m
  rw [show (1085102592571150095 : Int) = ((1085102592571150095 : Nat) : Int) from rfl, wadd h2, and64 h2 (by omega)]
  rfl
theorem s4_e (a : Nat) (k : Nat) (h : a < 2 ^ 63) (hk : 1 ≤ k) : IntKind.u64.wrap ((a : Int) + ((a / 2 ^ k : Nat) : Int)) = ((a + a / 2 ^ k : Nat) : Int) := by
  have h1 : a / 2 ^ k ≤ a := Nat.div_le_self _ _
  exact wadd (by generalize a / 2 ^ k = q at *; omega)
theorem ones_fn (m : Nat) (hm : m < 2 ^ 64) : Fn Tryd.prog 41 [.int .u64 m] (.int .i64 (cntB 64 m)) := by
  refine fnb Tryd.func41 (entered_of (by kernel_rfl)) rfl rfl rfl ?_
  have h1 := x1_lt m
  have h2 := x2_lt m
  have h3 := x3_end m
  obtain ⟨h3, h4⟩ := h3
  obtain ⟨y, hy⟩ : ∃ y, y = x3N m := ⟨_, rfl⟩
  obtain ⟨z, hz⟩ : ∃ z, z = y + y / 2 ^ 8 := ⟨_, rfl⟩
  obtain ⟨u, hu⟩ : ∃ u, u = z + z / 2 ^ 16 := ⟨_, rfl⟩
  rw [← hy, ← hz, ← hu] at h4
  rw [← hy] at h3
  have z1 : z < 2 ^ 61 := by rw [hz]; exact f6 y h3
  have u1 : u < 2 ^ 62 := by rw [hu]; exact f7 z z1
  repeat' (first | (show W _ _ _ _ _ _; first | apply kA | refine kB rfl ?_ | refine kC rfl rfl ?_ | refine kD rfl rfl ?_ | apply kE | apply kF | apply kG | apply kH | refine kI (by kernel_rfl) (by kernel_rfl) ?_) | (show O _ _ _ _ _ _ _; first | (show O _ _ _ _ (⟨_, .store _ _ _, _, _, _, _⟩ :: _) _ _; refine kJ rfl rfl rfl rfl rfl rfl rfl rfl rfl rfl rfl ?_) | apply kK) | apply kL | ((first | apply kM | apply kN); (iterate 3 (· exact rfl)); (· first | exact ya | exact Y.mk (ok_shrN rfl rfl rfl (by omega) (shrN (a := m) 1 (by omega)) (shr_rg hm)) | exact q_w rfl)) | refine kO rfl rfl rfl rfl rfl ?_ | refine kP rfl rfl rfl ?_ | ((first | refine kQ rfl rfl ?_ ?_ | refine kR rfl rfl rfl rfl rfl ?_ ?_ | refine kS rfl rfl rfl ?_ ?_) <;> intro hc <;> (try simp only [KL, cond_true, cond_false, beq_iff_eq, bne_iff_ne, ne_eq, reduceCtorEq] at hc) <;> (try (have hT : True := hc; clear hT hc)) <;> (try (exfalso; omega))) | apply kT | apply kU | apply kV | apply kW | refine kX rfl ?_ | apply kY | apply kZ)
  refine ole (s' := [(0, .int .u64 (x1N m)), (9, .int .u64 (x1N m))]) (h' := []) (by repeat' (first | exact LeS.nil _ | refine LeS.cons ?_ ?_ | exact LeV.of_eq (congrArg (AV.int _) (s1_e m hm)))) (LeH.refl _) ?_
  repeat' (first | (show W _ _ _ _ _ _; first | apply kA | refine kB rfl ?_ | refine kC rfl rfl ?_ | refine kD rfl rfl ?_ | apply kE | apply kF | apply kG | apply kH | refine kI (by kernel_rfl) (by kernel_rfl) ?_) | (show O _ _ _ _ _ _ _; first | (show O _ _ _ _ (⟨_, .store _ _ _, _, _, _, _⟩ :: _) _ _; refine kJ rfl rfl rfl rfl rfl rfl rfl rfl rfl rfl rfl ?_) | apply kK) | apply kL | ((first | apply kM | apply kN); (iterate 3 (· exact rfl)); (· first | exact ya | exact Y.mk (ok_shrN rfl rfl rfl (by omega) (shrN (a := x1N m) 2 (by omega)) (shr_rg h1)) | exact q_w rfl)) | refine kO rfl rfl rfl rfl rfl ?_ | refine kP rfl rfl rfl ?_ | ((first | refine kQ rfl rfl ?_ ?_ | refine kR rfl rfl rfl rfl rfl ?_ ?_ | refine kS rfl rfl rfl ?_ ?_) <;> intro hc <;> (try simp only [KL, cond_true, cond_false, beq_iff_eq, bne_iff_ne, ne_eq, reduceCtorEq] at hc) <;> (try (have hT : True := hc; clear hT hc)) <;> (try (exfalso; omega))) | apply kT | apply kU | apply kV | apply kW | refine kX rfl ?_ | apply kY | apply kZ)
  refine ole (s' := [(0, .int .u64 (x2N m)), (15, .int .u64 (x2N m))]) (h' := []) (by repeat' (first | exact LeS.nil _ | refine LeS.cons ?_ ?_ | exact LeV.of_eq (congrArg (AV.int _) (s2_e m)))) (LeH.refl _) ?_
  repeat' (first | (show W _ _ _ _ _ _; first | apply kA | refine kB rfl ?_ | refine kC rfl rfl ?_ | refine kD rfl rfl ?_ | apply kE | apply kF | apply kG | apply kH | refine kI (by kernel_rfl) (by kernel_rfl) ?_) | (show O _ _ _ _ _ _ _; first | (show O _ _ _ _ (⟨_, .store _ _ _, _, _, _, _⟩ :: _) _ _; refine kJ rfl rfl rfl rfl rfl rfl rfl rfl rfl rfl rfl ?_) | apply kK) | apply kL | ((first | apply kM | apply kN); (iterate 3 (· exact rfl)); (· first | exact ya | exact Y.mk (ok_shrN rfl rfl rfl (by omega) (shrN (a := x2N m) 4 (by omega)) (shr_rg h2)) | exact q_w rfl)) | refine kO rfl rfl rfl rfl rfl ?_ | refine kP rfl rfl rfl ?_ | ((first | refine kQ rfl rfl ?_ ?_ | refine kR rfl rfl rfl rfl rfl ?_ ?_ | refine kS rfl rfl rfl ?_ ?_) <;> intro hc <;> (try simp only [KL, cond_true, cond_false, beq_iff_eq, bne_iff_ne, ne_eq, reduceCtorEq] at hc) <;> (try (have hT : True := hc; clear hT hc)) <;> (try (exfalso; omega))) | apply kT | apply kU | apply kV | apply kW | refine kX rfl ?_ | apply kY | apply kZ)
  refine ole (s' := [(0, .int .u64 y), (20, .int .u64 y), (21, .int .u64 y)]) (h' := []) (by repeat' (first | exact LeS.nil _ | refine LeS.cons ?_ ?_ | exact LeV.of_eq (congrArg (AV.int _) (hy ▸ s3_e m)))) (LeH.refl _) ?_
  repeat' (first | (show W _ _ _ _ _ _; first | apply kA | refine kB rfl ?_ | refine kC rfl rfl ?_ | refine kD rfl rfl ?_ | apply kE | apply kF | apply kG | apply kH | refine kI (by kernel_rfl) (by kernel_rfl) ?_) | (show O _ _ _ _ _ _ _; first | (show O _ _ _ _ (⟨_, .store _ _ _, _, _, _, _⟩ :: _) _ _; refine kJ rfl rfl rfl rfl rfl rfl rfl rfl rfl rfl rfl ?_) | apply kK) | apply kL | ((first | apply kM | apply kN); (iterate 3 (· exact rfl)); (· first | exact ya | exact Y.mk (ok_shrN rfl rfl rfl (by omega) (shrN (a := y) 8 (by omega)) (shr_rg (by omega))) | exact q_w rfl)) | refine kO rfl rfl rfl rfl rfl ?_ | refine kP rfl rfl rfl ?_ | ((first | refine kQ rfl rfl ?_ ?_ | refine kR rfl rfl rfl rfl rfl ?_ ?_ | refine kS rfl rfl rfl ?_ ?_) <;> intro hc <;> (try simp only [KL, cond_true, cond_false, beq_iff_eq, bne_iff_ne, ne_eq, reduceCtorEq] at hc) <;> (try (have hT : True := hc; clear hT hc)) <;> (try (exfalso; omega))) | apply kT | apply kU | apply kV | apply kW | refine kX rfl ?_ | apply kY | apply kZ)
  refine ole (s' := [(0, .int .u64 z), (24, .int .u64 z), (25, .int .u64 z)]) (h' := []) (by repeat' (first | exact LeS.nil _ | refine LeS.cons ?_ ?_ | exact LeV.of_eq (congrArg (AV.int _) (hz ▸ (Int.natCast_add y (y / 2 ^ 8)).symm)))) (LeH.refl _) ?_
  repeat' (first | (show W _ _ _ _ _ _; first | apply kA | refine kB rfl ?_ | refine kC rfl rfl ?_ | refine kD rfl rfl ?_ | apply kE | apply kF | apply kG | apply kH | refine kI (by kernel_rfl) (by kernel_rfl) ?_) | (show O _ _ _ _ _ _ _; first | (show O _ _ _ _ (⟨_, .store _ _ _, _, _, _, _⟩ :: _) _ _; refine kJ rfl rfl rfl rfl rfl rfl rfl rfl rfl rfl rfl ?_) | apply kK) | apply kL | ((first | apply kM | apply kN); (iterate 3 (· exact rfl)); (· first | exact ya | exact Y.mk (ok_shrN rfl rfl rfl (by omega) (shrN (a := z) 16 (by omega)) (shr_rg (by omega))) | exact q_w rfl)) | refine kO rfl rfl rfl rfl rfl ?_ | refine kP rfl rfl rfl ?_ | ((first | refine kQ rfl rfl ?_ ?_ | refine kR rfl rfl rfl rfl rfl ?_ ?_ | refine kS rfl rfl rfl ?_ ?_) <;> intro hc <;> (try simp only [KL, cond_true, cond_false, beq_iff_eq, bne_iff_ne, ne_eq, reduceCtorEq] at hc) <;> (try (have hT : True := hc; clear hT hc)) <;> (try (exfalso; omega))) | apply kT | apply kU | apply kV | apply kW | refine kX rfl ?_ | apply kY | apply kZ)
  refine ole (s' := [(0, .int .u64 u), (28, .int .u64 u), (29, .int .u64 u)]) (h' := []) (by repeat' (first | exact LeS.nil _ | refine LeS.cons ?_ ?_ | exact LeV.of_eq (congrArg (AV.int _) (hu ▸ (Int.natCast_add z (z / 2 ^ 16)).symm)))) (LeH.refl _) ?_
  repeat' (first | (show W _ _ _ _ _ _; first | apply kA | refine kB rfl ?_ | refine kC rfl rfl ?_ | refine kD rfl rfl ?_ | apply kE | apply kF | apply kG | apply kH | refine kI (by kernel_rfl) (by kernel_rfl) ?_) | (show O _ _ _ _ _ _ _; first | (show O _ _ _ _ (⟨_, .store _ _ _, _, _, _, _⟩ :: _) _ _; refine kJ rfl rfl rfl rfl rfl rfl rfl rfl rfl rfl rfl ?_) | apply kK) | apply kL | ((first | apply kM | apply kN); (iterate 3 (· exact rfl)); (· first | exact ya | exact Y.mk (ok_shrN rfl rfl rfl (by omega) (shrN (a := u) 32 (by omega)) (shr_rg (by omega))) | exact q_w rfl)) | refine kO rfl rfl rfl rfl rfl ?_ | refine kP rfl rfl rfl ?_ | ((first | refine kQ rfl rfl ?_ ?_ | refine kR rfl rfl rfl rfl rfl ?_ ?_ | refine kS rfl rfl rfl ?_ ?_) <;> intro hc <;> (try simp only [KL, cond_true, cond_false, beq_iff_eq, bne_iff_ne, ne_eq, reduceCtorEq] at hc) <;> (try (have hT : True := hc; clear hT hc)) <;> (try (exfalso; omega))) | apply kT | apply kU | apply kV | apply kW | refine kX rfl ?_ | apply kY | apply kZ)
  obtain ⟨v, hv⟩ : ∃ v, v = u + u / 2 ^ 32 := ⟨_, rfl⟩
  have v1 : v < 2 ^ 63 := by rw [hv]; exact f8 u u1
  rw [← hv] at h4
  refine retq rfl (congrArg (AV.int .i64) ?_)
  rw [← h4, ← and127 v1, hv]
  rfl
end Go.Proofs.YtnijdaidmpjccaaDoor
