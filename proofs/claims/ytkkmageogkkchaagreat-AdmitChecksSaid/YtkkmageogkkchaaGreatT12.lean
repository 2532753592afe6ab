/- What the package word, and its reference, compute. No condition. -/
import Derived.Test.YtkkmageogkkchaaGreatT6
import Derived.Test.YtkkmageogkkchaaGreatT11
import Derived.Test.YtkkmageogkkchaaGreatT7
set_option linter.unusedSimpArgs false
set_option linter.unusedVariables false
set_option maxHeartbeats 1000000
namespace Go.Proofs.YtkkmageogkkchaaGreat
set_option maxRecDepth 100000
set_option maxRecDepth 100000
open Go.RowKit
def clampI (n lo hi : Int) : Int := max lo (min n hi)
def insI (n : Int) : Int := max 0 (min n 1099511627776)
def addI (a b : Int) : Int := min 1099511627776 (insI a + insI b)
def mulI (a b : Int) : Int := min 1099511627776 (insI a * insI b)
def ceilI (a b : Int) : Int := if a < 1 ∨ b < 1 then 0 else (a - 1) / b + 1
def gcdI (a b : Int) : Int := if a < 1 ∨ b < 1 then 0 else (Int.gcd a b : Int)
def lcmI (a b : Int) : Int := if a < 1 ∨ b < 1 then 0 else mulI (a / gcdI a b) b

theorem insB (n : Int) : 0 ≤ insI n ∧ insI n ≤ 1099511627776 := by unfold insI; omega
theorem addB (a b : Int) : 0 ≤ addI a b ∧ addI a b ≤ 1099511627776 := by have := insB a; have := insB b; unfold addI; omega
theorem mulB (a b : Int) : 0 ≤ mulI a b ∧ mulI a b ≤ 1099511627776 := by
  have := Int.mul_nonneg (insB a).1 (insB b).1
  unfold mulI; omega
theorem insId {n : Int} (h : 0 ≤ n) (h' : n ≤ 1099511627776) : insI n = n := by unfold insI; omega
theorem mul_top {x y : Int} (hx : 0 < x) (hy : 0 < y) : 1099511627776 / y < x ↔ 1099511627776 < x * y := by
  rw [Int.ediv_lt_iff_lt_mul hy]
theorem mul_le {x y : Int} (hx : 0 < x) (hy : 0 < y) (h : ¬ 1099511627776 / y < x) : x * y ≤ 1099511627776 := by
  rw [mul_top hx hy] at h; omega

theorem addE (a b : Int) : insI (insI a + insI b) = addI a b := by have := insB a; have := insB b; unfold addI; rw [insI]; omega
theorem mul_0 {a b : Int} (h : insI a = 0 ∨ insI b = 0) : mulI a b = 0 := by
  have e : insI a * insI b = 0 := by rcases h with h | h <;> rw [h] <;> simp
  rw [mulI, e]; decide
theorem mul_t {a b : Int} (h1 : 0 < insI a) (h2 : 0 < insI b) (h : 1099511627776 / insI b < insI a) : mulI a b = 1099511627776 := by
  rw [mulI]; have := (mul_top h1 h2).1 h; omega
theorem mul_in {a b : Int} (h1 : 0 < insI a) (h2 : 0 < insI b) (h : ¬ 1099511627776 / insI b < insI a) : mulI a b = insI a * insI b ∧ 0 ≤ insI a * insI b ∧ insI a * insI b ≤ 1099511627776 := by
  have := mul_le h1 h2 h
  have := Int.mul_nonneg (Int.le_of_lt h1) (Int.le_of_lt h2)
  rw [mulI]; omega
theorem rmul_top {x y : Int} (hx : 0 < x) : 1099511627775 / x < y ↔ 1099511627776 ≤ x * y := by
  rw [Int.ediv_lt_iff_lt_mul hx, Int.mul_comm]; omega
theorem kdiv (y : Int) (h : 0 < y) : 0 ≤ 1099511627776 / y ∧ 1099511627776 / y ≤ 1099511627776 := ⟨Int.ediv_nonneg (by omega) (by omega), Int.ediv_le_self _ (by omega)⟩
theorem rdiv (y : Int) (h : 0 < y) : 0 ≤ 1099511627775 / y ∧ 1099511627775 / y ≤ 1099511627775 := ⟨Int.ediv_nonneg (by omega) (by omega), Int.ediv_le_self _ (by omega)⟩
theorem kClamp_fn (n low high : Int) : Fn Tryz.prog 135 [.int .i64 n, .int .i64 low, .int .i64 high] (.int .i64 (max low (min n high))) := by
  refine fnb Tryz.func135 (entered_of (by kernel_rfl)) rfl rfl rfl ?_
  repeat' (first | refine sA ?_ | ((first | apply kM | apply kN); (iterate 3 (· exact rfl)); (· first | exact ya)) | refine sG ?_ | (refine sK ?_ ?_ <;> intro hc <;> (try simp only [KL, sL, reduceCtorEq] at hc) <;> (try (exfalso; omega))))
  exact retq rfl rfl
theorem kInside_fn (n : Int) : Fn Tryz.prog 99 [.int .i64 n] (.int .i64 (insI n)) := by
  refine fnb Tryz.func99 (entered_of (by kernel_rfl)) rfl rfl rfl ?_
  repeat' (first | refine sA ?_ | ((first | apply kM | apply kN); (iterate 3 (· exact rfl)); (· first | exact ya | exact q_c (kClamp_fn _ _ _) rfl)) | refine sG ?_ | (refine sK ?_ ?_ <;> intro hc <;> (try simp only [KL, sL, reduceCtorEq] at hc) <;> (try (exfalso; omega))))
  exact retq rfl rfl
theorem kAdd_fn (a b : Int) : Fn Tryz.prog 68 [.int .i64 a, .int .i64 b] (.int .i64 (addI a b)) := by
  have h1 := insB a
  have h2 := insB b
  refine fnb Tryz.func68 (entered_of (by kernel_rfl)) rfl rfl rfl ?_
  repeat' (first | refine sA ?_ | ((first | apply kM | apply kN); (iterate 3 (· exact rfl)); (· first | exact ya | exact q_c (kInside_fn _) rfl)) | refine sG ?_ | (refine sK ?_ ?_ <;> intro hc <;> (try simp only [KL, sL, reduceCtorEq] at hc) <;> (try (exfalso; omega))))
  exact retq rfl (congrArg (AV.int .i64) (addE a b))
theorem kMul_fn (a b : Int) : Fn Tryz.prog 63 [.int .i64 a, .int .i64 b] (.int .i64 (mulI a b)) := by
  have h1 := insB a
  have h2 := insB b
  have c1 := kInside_fn a
  have c2 := kInside_fn b
  by_cases h0 : insI a = 0 ∨ insI b = 0
  · rw [mul_0 h0]
    generalize insI a = x at *
    generalize insI b = y at *
    refine fnb Tryz.func63 (entered_of (by kernel_rfl)) rfl rfl rfl ?_
    repeat' (first | refine sA ?_ | ((first | apply kM | apply kN); (iterate 3 (· exact rfl)); (· first | exact ya | exact q_c (c1) rfl | exact q_c (c2) rfl)) | refine sG ?_ | (refine sK ?_ ?_ <;> intro hc <;> (try simp only [KL, sL, reduceCtorEq] at hc) <;> (try (exfalso; omega))))
    all_goals first | (exfalso; omega) | exact retq rfl rfl
  have hd := kdiv (insI b) (by omega)
  by_cases ht : 1099511627776 / insI b < insI a
  · rw [mul_t (by omega) (by omega) ht]
    generalize insI a = x at *
    generalize insI b = y at *
    refine fnb Tryz.func63 (entered_of (by kernel_rfl)) rfl rfl rfl ?_
    repeat' (first | refine sA ?_ | ((first | apply kM | apply kN); (iterate 3 (· exact rfl)); (· first | exact ya | exact q_c (c1) rfl | exact q_c (c2) rfl)) | refine sG ?_ | (refine sK ?_ ?_ <;> intro hc <;> (try simp only [KL, sL, reduceCtorEq] at hc) <;> (try (exfalso; omega))))
    all_goals first | (exfalso; omega) | exact retq rfl rfl
  · obtain ⟨e, h3, h4⟩ := mul_in (a := a) (b := b) (by omega) (by omega) ht
    rw [e]
    generalize insI a = x at *
    generalize insI b = y at *
    refine fnb Tryz.func63 (entered_of (by kernel_rfl)) rfl rfl rfl ?_
    repeat' (first | refine sA ?_ | ((first | apply kM | apply kN); (iterate 3 (· exact rfl)); (· first | exact ya | exact q_c (c1) rfl | exact q_c (c2) rfl)) | refine sG ?_ | (refine sK ?_ ?_ <;> intro hc <;> (try simp only [KL, sL, reduceCtorEq] at hc) <;> (try (exfalso; omega))))
    all_goals first | (exfalso; omega) | exact retq rfl rfl
theorem kCeil_fn (a b : Int) : Fn Tryz.prog 64 [.int .i64 a, .int .i64 b] (.int .i64 (ceilI a b)) := by
  refine fnb Tryz.func64 (entered_of (by kernel_rfl)) rfl rfl rfl ?_
  refine wrange 0 rfl (fun hr => ?_)
  simp only [rangeP] at hr
  have hd : 1 ≤ a → 1 ≤ b → 0 ≤ (a - 1) / b ∧ (a - 1) / b ≤ a - 1 := fun h1 h2 => ⟨Int.ediv_nonneg (by omega) (by omega), Int.ediv_le_self _ (by omega)⟩
  by_cases h1 : a < 1
  · repeat' (first | refine sA ?_ | ((first | apply kM | apply kN); (iterate 3 (· exact rfl)); (· first | exact ya)) | refine sG ?_ | (refine sK ?_ ?_ <;> intro hc <;> (try simp only [KL, sL, reduceCtorEq] at hc) <;> (try (exfalso; omega))))
    all_goals first | (exfalso; omega) | exact retq rfl (congrArg (AV.int _) (by rw [ceilI, if_pos (.inl h1)]))
  by_cases h2 : b < 1
  · repeat' (first | refine sA ?_ | ((first | apply kM | apply kN); (iterate 3 (· exact rfl)); (· first | exact ya)) | refine sG ?_ | (refine sK ?_ ?_ <;> intro hc <;> (try simp only [KL, sL, reduceCtorEq] at hc) <;> (try (exfalso; omega))))
    all_goals first | (exfalso; omega) | exact retq rfl (congrArg (AV.int _) (by rw [ceilI, if_pos (.inr h2)]))
  have hd := hd (by omega) (by omega)
  repeat' (first | refine sA ?_ | ((first | apply kM | apply kN); (iterate 3 (· exact rfl)); (· first | exact ya)) | refine sG ?_ | (refine sK ?_ ?_ <;> intro hc <;> (try simp only [KL, sL, reduceCtorEq] at hc) <;> (try (exfalso; omega))))
  all_goals exact retq rfl (congrArg (AV.int _) (by rw [ceilI, if_neg (by omega)]))
theorem rClamp_fn (n low high : Int) (h : low ≤ high) : Fn Tryz.prog 79 [.int .i64 n, .int .i64 low, .int .i64 high] (.int .i64 (max low (min n high))) := by
  refine fnb Tryz.func79 (entered_of (by kernel_rfl)) rfl rfl rfl ?_
  repeat' (first | refine sA ?_ | ((first | apply kM | apply kN); (iterate 3 (· exact rfl)); (· first | exact ya)) | refine sG ?_ | (refine sK ?_ ?_ <;> intro hc <;> (try simp only [KL, sL, reduceCtorEq] at hc) <;> (try (exfalso; omega))))
  all_goals first | (exfalso; omega) | exact retq rfl (congrArg (AV.int .i64) (by omega))
theorem rIns_fn (n : Int) : Fn Tryz.prog 79 [.int .i64 n, .int .i64 0, .int .i64 1099511627776] (.int .i64 (insI n)) := rClamp_fn n 0 1099511627776 (by omega)
theorem rAdd_fn (a b : Int) : Fn Tryz.prog 37 [.int .i64 a, .int .i64 b] (.int .i64 (addI a b)) := by
  have h1 := insB a
  have h2 := insB b
  refine fnb Tryz.func37 (entered_of (by kernel_rfl)) rfl rfl rfl ?_
  repeat' (first | refine sA ?_ | ((first | apply kM | apply kN); (iterate 3 (· exact rfl)); (· first | exact ya | exact q_c (rIns_fn _) rfl)) | refine sG ?_ | (refine sK ?_ ?_ <;> intro hc <;> (try simp only [KL, sL, reduceCtorEq] at hc) <;> (try (exfalso; omega))))
  exact retq rfl (congrArg (AV.int .i64) (addE a b))
theorem rMul_fn (a b : Int) : Fn Tryz.prog 66 [.int .i64 a, .int .i64 b] (.int .i64 (mulI a b)) := by
  have h1 := insB a
  have h2 := insB b
  have c1 := rIns_fn a
  have c2 := rIns_fn b
  by_cases h0 : insI a = 0
  · rw [mul_0 (.inl h0)]
    rw [h0] at c1
    generalize insI b = y at *
    refine fnb Tryz.func66 (entered_of (by kernel_rfl)) rfl rfl rfl ?_
    repeat' (first | refine sA ?_ | ((first | apply kM | apply kN); (iterate 3 (· exact rfl)); (· first | exact ya | exact q_c (c1) rfl | exact q_c (c2) rfl)) | refine sG ?_ | (refine sK ?_ ?_ <;> intro hc <;> (try simp only [KL, sL, reduceCtorEq] at hc) <;> (try (exfalso; omega))))
    all_goals first | (exfalso; omega) | exact retq rfl (congrArg (AV.int .i64) (by simp))
  have hd := rdiv (insI a) (by omega)
  have hm := rmul_top (x := insI a) (y := insI b) (by omega)
  have hp := Int.mul_nonneg h1.1 h2.1
  by_cases ht : 1099511627775 / insI a < insI b
  · have e : mulI a b = 1099511627776 := by rw [mulI]; have := hm.1 ht; omega
    rw [e]
    generalize insI a = x at *
    generalize insI b = y at *
    refine fnb Tryz.func66 (entered_of (by kernel_rfl)) rfl rfl rfl ?_
    repeat' (first | refine sA ?_ | ((first | apply kM | apply kN); (iterate 3 (· exact rfl)); (· first | exact ya | exact q_c (c1) rfl | exact q_c (c2) rfl)) | refine sG ?_ | (refine sK ?_ ?_ <;> intro hc <;> (try simp only [KL, sL, reduceCtorEq] at hc) <;> (try (exfalso; omega))))
    all_goals first | (exfalso; omega) | exact retq rfl rfl
  · have h3 : insI a * insI b < 1099511627776 := by
      rcases Int.lt_or_le (insI a * insI b) 1099511627776 with q | q
      · exact q
      · exact absurd (hm.2 q) ht
    have e : mulI a b = insI a * insI b := by rw [mulI]; omega
    rw [e]
    generalize insI a = x at *
    generalize insI b = y at *
    refine fnb Tryz.func66 (entered_of (by kernel_rfl)) rfl rfl rfl ?_
    repeat' (first | refine sA ?_ | ((first | apply kM | apply kN); (iterate 3 (· exact rfl)); (· first | exact ya | exact q_c (c1) rfl | exact q_c (c2) rfl)) | refine sG ?_ | (refine sK ?_ ?_ <;> intro hc <;> (try simp only [KL, sL, reduceCtorEq] at hc) <;> (try (exfalso; omega))))
    all_goals first | (exfalso; omega) | exact retq rfl rfl
theorem rCeil_fn (a b : Int) : Fn Tryz.prog 67 [.int .i64 a, .int .i64 b] (.int .i64 (ceilI a b)) := by
  have hd : 1 ≤ a → 1 ≤ b → 0 ≤ a / b ∧ a / b ≤ a ∧ 0 ≤ a % b ∧ a % b < b := fun h1 h2 => ⟨Int.ediv_nonneg (by omega) (by omega), Int.ediv_le_self _ (by omega), Int.emod_nonneg _ (by omega), Int.emod_lt_of_pos _ (by omega)⟩
  have he : 1 ≤ a → 1 ≤ b → (a - 1) / b + 1 = if 0 < a % b then a / b + 1 else a / b := fun h1 h2 => by
    have h3 := hd h1 h2
    have h4 := Int.mul_ediv_add_emod a b
    split
    · rw [show a - 1 = (a % b - 1) + b * (a / b) by omega, Int.add_mul_ediv_left _ _ (by omega), Int.ediv_eq_zero_of_lt (by omega) (by omega)]; omega
    · rw [show a - 1 = (b - 1) + b * (a / b - 1) by rw [Int.mul_sub]; omega, Int.add_mul_ediv_left _ _ (by omega), Int.ediv_eq_zero_of_lt (by omega) (by omega)]; omega
  refine fnb Tryz.func67 (entered_of (by kernel_rfl)) rfl rfl rfl ?_
  refine wrange 0 rfl (fun hr => ?_)
  simp only [rangeP] at hr
  by_cases h1 : a < 1
  · repeat' (first | refine sA ?_ | ((first | apply kM | apply kN); (iterate 3 (· exact rfl)); (· first | exact ya)) | refine sG ?_ | (refine sK ?_ ?_ <;> intro hc <;> (try simp only [KL, sL, reduceCtorEq] at hc) <;> (try (exfalso; omega))))
    all_goals first | (exfalso; omega) | exact retq rfl (congrArg (AV.int _) (by rw [ceilI, if_pos (.inl h1)]))
  by_cases h2 : b < 1
  · repeat' (first | refine sA ?_ | ((first | apply kM | apply kN); (iterate 3 (· exact rfl)); (· first | exact ya)) | refine sG ?_ | (refine sK ?_ ?_ <;> intro hc <;> (try simp only [KL, sL, reduceCtorEq] at hc) <;> (try (exfalso; omega))))
    all_goals first | (exfalso; omega) | exact retq rfl (congrArg (AV.int _) (by rw [ceilI, if_pos (.inr h2)]))
  have hd := hd (by omega) (by omega)
  have he := he (by omega) (by omega)
  have e : ceilI a b = (a - 1) / b + 1 := by rw [ceilI, if_neg (by omega)]
  rw [e, he]
  by_cases hm : 0 < a % b
  · rw [if_pos hm]
    have h5 : a / b + 1 ≤ a := by
      have := Int.ediv_le_self b (show 0 ≤ a - 1 by omega)
      rw [if_pos hm] at he
      omega
    repeat' (first | refine sA ?_ | ((first | apply kM | apply kN); (iterate 3 (· exact rfl)); (· first | exact ya)) | refine sG ?_ | (refine sK ?_ ?_ <;> intro hc <;> (try simp only [KL, sL, reduceCtorEq] at hc) <;> (try (exfalso; omega))))
    all_goals first | (exfalso; omega) | exact retq rfl rfl
  · rw [if_neg hm]
    repeat' (first | refine sA ?_ | ((first | apply kM | apply kN); (iterate 3 (· exact rfl)); (· first | exact ya)) | refine sG ?_ | (refine sK ?_ ?_ <;> intro hc <;> (try simp only [KL, sL, reduceCtorEq] at hc) <;> (try (exfalso; omega))))
    all_goals first | (exfalso; omega) | exact retq rfl rfl
end Go.Proofs.YtkkmageogkkchaaGreat
namespace Go.Proofs.YtkkmageogkkchaaGreat
set_option maxRecDepth 100000
open Go.RowKit
section
variable {P : Program} {n : Md} {Q : Exit → Slots → Heap → Prop} {s : Slots} {h : Heap} {ops : Array Oper} {rest : List Oper} {o : Oper} {K : Slots → Prop}
def tlR (e : TypeId) (xs : List AV) (σ : Sig) (H : Array Obj) (v : Value) : Prop :=
  ∃ g off cap cur, v = .slice (some ⟨g, off, none⟩) xs.length cap ∧ H[g]? = some (.cells cur e (0, 0)) ∧ xs.length ≤ cap ∧ cap ≤ maxLen ∧ off + cap ≤ cur.size ∧ L2 (VR0 σ) xs ((cur.toList.drop off).take xs.length)
def tlC (e : TypeId) (xs : List AV) : SemC where
  rel := tlR e xs
  keep := fun σ σ' H H' v ⟨g, off, cap, cur, h1, h2, h3, h4, h5, h6⟩ hs hw => ⟨g, off, cap, cur, h1, by rw [hw g (by rw [h1]; rfl)]; exact h2, h3, h4, h5, h6.mono fun _ _ h => h.mono hs⟩
  lt := fun σ H v g ⟨g', off, cap, cur, h1, h2, _⟩ hg => by
    rw [h1] at hg; simp only [footOf, Option.some.injEq] at hg; subst hg
    exact (Array.getElem?_eq_some_iff.1 h2).1
theorem Rel.tl {E : Env} {σ : Sig} {ι : Nat → Value} {w : World} {id : Nat} {e : TypeId} {xs : List AV} (hr : Rel E σ ι h w) (hg : hget h id = some (.sem (tlC e xs))) : tlR e xs σ w.heap (ι id) := hr.ch id _ hg
theorem o_blit {α : Type} {f : α → List AV} {l : List α} {t e : TypeId} {sz len : Nat} {parts : Array (Nat × Operand)} {xs : List (List AV)} {id : Nat} (ho : o.op = .buildSlice t len parts) (hgd : o.guard = none) (hco : constsOk o = true) (hd : dstOk n o.dst = true) (ht : sliceE P t = some e) (hz : sizeQ P e sz = true) {z0 : List AV} (h0 : zeroA P e = some z0) (hsz : Nat.blt 0 sz = true) (hb : Nat.ble (len * sz) 16777216 = true)
    (hp : partsA s parts.toList 0 = some xs) (hl : Nat.beq parts.toList.length len = true) (hs : szOk sz xs = true) (hxs : xs = l.map f) (hfr : freshAll id s h = true)
    (hk : O P n ops Q rest (putS s o.dst (.own id)) ((id, .row e sz (l.map f)) :: h)) : O P n ops Q (o :: rest) s h := ⟨aops_one hgd fun E σ ι a w hr ht' => by
  have hsz := (by simpa [Nat.blt_eq] using hsz : 0 < sz)
  have hb := Nat.ble_eq ▸ hb
  have hl := Nat.eq_of_beq_eq_true hl
  simp only [freshAll, Bool.and_eq_true, Nat.ble_eq] at hfr
  have hx : ∀ x ∈ o.op.operands.toList, VR σ ι (evA s x) (a.eval x) := fun x hx => evA_sound (List.all_eq_true.1 hco x hx) fun t _ => ht'.at_ t
  have hmem : ∀ p ∈ parts.toList, VR σ ι (evA s p.2) (a.eval p.2) := fun p hp => hx p.2 (by rw [ho]; simp only [Op.operands]; simpa using ⟨p.1, by simpa using hp⟩)
  obtain ⟨h1, h2⟩ := partsA_spec (a := a) parts.toList 0 xs hp hmem
  obtain ⟨zi, z, hzi, hzz, _⟩ := zeroA_spec h0
  have hvs : ∀ v ∈ parts.toList.map (fun p => a.eval p.2), v.cells.size = sz := fun v hv => by
    obtain ⟨j, hj⟩ := List.getElem?_of_mem hv
    have hjl : j < xs.length := by rw [h2.1]; exact (List.getElem?_eq_some_iff.1 hj).1
    have h3 := h2.2 j xs[j] v (List.getElem?_eq_getElem hjl) hj
    rw [← Array.length_toList, ← h3.1]
    exact szOk_spec hs _ (List.getElem_mem hjl)
  have hxl : xs.length = len := by rw [h2.1, List.length_map, hl]
  have hml : (parts.toList.map (fun p => a.eval p.2)).length = len := by rw [List.length_map, hl]
  obtain ⟨r, hr1, hr2, hr3⟩ := Go.Great.fill_dense hsz (parts.toList.map (fun p => a.eval p.2)) 0 ((Array.range (len * sz)).map (z.cells[· % z.cells.size]!)) hvs (by rw [hml]; simp)
  have hparts : (parts.map fun (i, x) => (i, a.eval x)).toList = (((parts.toList.map (fun p => a.eval p.2)).zipIdx 0).map fun x => (x.2, x.1)) := by
    rw [Array.toList_map, list_of_pairs (parts.toList.map fun (i, x) => (i, a.eval x)) 0 (by simpa [Function.comp_def] using h1)]
    simp [Function.comp_def]
  have hrl : r.toList = ((parts.toList.map (fun p => a.eval p.2)).map fun v => v.cells.toList).flatten := by
    refine flat_cells hsz _ r hvs (by rw [hr2, hml]; simp) fun k => ?_
    rw [hr3 k]
    simp only [Nat.zero_mul, Nat.zero_le, true_and, Nat.zero_add, Nat.sub_zero]
    split
    · rfl
    · rename_i hk
      rw [hml] at hk
      apply Array.getElem?_eq_none; simp; omega
  have hrun : (execOp a.eval o).run P w = .ok (.value (.slice (some ⟨w.heap.size, 0, none⟩) len len)) (w.alloc (.cells r e)) := by
    have hr1' : Instr.fill (fun i => some (i * sz, sz)) ((Array.range (len * sz)).map (z.cells[· % z.cells.size]!)) (parts.map fun (i, x) => (i, a.eval x)).toList = some r := by rw [hparts]; exact hr1
    have h5 := run_buildSlice (P := P) w (sliceE_spec ht) hz hzi hzz (by omega) hr1'
    simp only [execOp, ho, Sem.run_bind, Sem.run_pure, h5, Result.andThen_ok]
  have hL : L2 (VR0 σ) xs.flatten r.toList := by rw [hrl]; exact l2_flatten h2
  have hrs : r.size = len * sz := by
    have h9 := hL.1
    rw [flatten_length (szOk_spec hs), hxl] at h9
    rw [← Array.length_toList (xs := r), ← h9]
  have hnew := hr.turn (id := id) (u := .slice (some ⟨w.heap.size, 0, none⟩) len len) (h' := (id, .row e sz (l.map f)) :: h) (c' := .row e sz (l.map f)) (w' := w.alloc (.cells r e))
    (fun i c hi hc => by
      rw [hget_cons, if_neg (fun e => hi e.symm)] at hc
      exact ⟨hc, .inr (freshH_get hfr.2 i c hc).2⟩)
    (by rw [hget_cons, if_pos rfl])
    ⟨hsz, by rw [← hxs]; exact szOk_spec hs, r.toList, by
      rw [upd_eq, ← hxs, hxl]
      have hll : len ≤ len * sz := Nat.le_mul_of_pos_right _ hsz
      exact ⟨by rw [Array.length_toList (xs := r)]; exact hrs, .inr ⟨w.heap.size, len, r, rfl, Nat.zero_le _, heap_alloc_new w _, Nat.le_refl _, by simp only [maxLen]; omega, hrs, by rw [← hrs, ← Array.length_toList (xs := r)]; exact List.take_length⟩⟩, by rw [← hxs]; exact hL⟩
    rfl rfl rfl (by simp) (fun k hk _ => Below.heap_alloc _ _ _ hk) (fun g hv => by cases hv; exact .inr (Nat.le_refl _)) (.inl hfr.1.1)
  unfold Oper.wp
  rw [hrun]
  refine hk.out E σ _ _ _ hnew ((ht'.upd hfr.1.1 hfr.1.2 _).putS hd ?_)
  have h5 := VR.own (σ := σ) (ι := upd ι id (.slice (some ⟨w.heap.size, 0, none⟩) len len)) id (by rw [upd_eq]; rfl)
  rwa [upd_eq] at h5⟩
end
end Go.Proofs.YtkkmageogkkchaaGreat
namespace Go.Proofs.YtkkmageogkkchaaGreat
set_option maxRecDepth 100000
structure FineP (p : List Instr) : Prop where
  pos : 0 < p.length
  most : p.length ≤ 64
  right : ∀ i, i < p.length → rightI (p.getD i default) = true
  leads : ∀ i, i < p.length → leadsB p i = true
  loop : ∀ k, k < (loopsL p).length → loopQ (loopsL p) k = false
  jump : ∀ i, i < p.length → jumpB p (loopsL p) i = false
  last : (p.getD (p.length - 1) default).op = 21
theorem fine_inv {p : List Instr} (h : fineB p = true) : FineP p := by
  rw [fineB, decide_eq_true_eq] at h
  by_cases h0 : p.length = 0 ∨ 64 < p.length
  · rw [check_arg h0] at h; simp at h
  cases h1 : fstN (formQ p) p.length with
  | some k => rw [check_form h0 h1] at h; simp at h
  | none =>
  cases h2 : fstN (flowQ p) p.length with
  | some k => rw [check_flow h0 h1 h2] at h; simp at h
  | none =>
  cases h3 : fstN (loopQ (loopsL p)) (loopsL p).length with
  | some k => rw [check_loop h0 h1 h2 h3] at h; simp at h
  | none =>
  cases h4 : fstN (jumpB p (loopsL p)) p.length with
  | some k => rw [check_jump h0 h1 h2 h3 h4] at h; simp at h
  | none =>
  rw [check_end h0 h1 h2 h3 h4] at h
  refine ⟨by omega, by omega, fun i hi => by simpa [formQ] using fst_none h1 i hi, fun i hi => by simpa [flowQ] using fst_none h2 i hi, fst_none h3, fst_none h4, ?_⟩
  split at h
  · assumption
  · simp at h
def mayB (p : List Instr) (i j : Nat) : Bool := decide ((p.getD i default).op ≠ 21 ∧ ((14 ≤ (p.getD i default).op ∧ (p.getD i default).op ≤ 16 ∧ (j : Int) = (p.getD i default).n) ∨ ((p.getD i default).op ≠ 14 ∧ j = i + 1)))
section
variable {p : List Instr}
theorem leads_iff (h : FineP p) {i : Nat} (hi : i < p.length) : leadsI (p.getD i default) = decide (14 ≤ (p.getD i default).op ∧ (p.getD i default).op ≤ 16) := by
  rw [leadsI, h.right i hi, Bool.true_and]
theorem leads_to (h : FineP p) (hn : ∀ i, 0 ≤ (p.getD i default).n) {i : Nat} (hi : i < p.length) (h1 : 14 ≤ (p.getD i default).op) (h2 : (p.getD i default).op ≤ 16) :
    (p.getD i default).n < p.length ∧ (p.getD i default).n ≠ i ∧ ((p.getD i default).op = 16 ∧ (p.getD i default).n < i ∨ (p.getD i default).op ≠ 16 ∧ i < (p.getD i default).n) := by
  have h3 := h.leads i hi
  rw [leadsB, leadsX, leads_iff h hi, decide_eq_true ⟨h1, h2⟩, if_pos rfl] at h3
  split at h3
  · have := of_decide_eq_true h3; omega
  · have := of_decide_eq_true h3; omega
theorem inner_lt (h : FineP p) {i : Nat} (hi : i < p.length) (h1 : (p.getD i default).op ≠ 21) : i + 1 < p.length := by
  rcases Nat.lt_or_ge (i + 1) p.length with h2 | h2
  · exact h2
  · exfalso
    have h3 := h.last
    rw [show p.length - 1 = i by omega] at h3
    exact h1 h3
theorem next_iff (h : FineP p) (hn : ∀ i, 0 ≤ (p.getD i default).n) {i : Nat} (hi : i < p.length) {x : Int} : x ∈ nextL p i ↔ ∃ j : Nat, x = j ∧ j < p.length ∧ mayB p i j = true := by
  have hl := leads_iff h hi
  have hnn := hn i
  rw [nextL]
  by_cases h1 : (p.getD i default).op = 21
  · rw [if_pos h1]; simp only [mayB, h1]; simp
  have hlt := inner_lt h hi h1
  rw [if_neg h1]
  by_cases h2 : (p.getD i default).op = 14
  · have h3 := leads_to h hn hi (by omega) (by omega)
    rw [if_pos h2, tgt_yes (by rw [hl]; exact decide_eq_true (by omega)), List.mem_singleton]
    simp only [mayB, decide_eq_true_eq]
    constructor
    · rintro rfl
      exact ⟨(p.getD i default).n.toNat, by omega, by omega, by omega⟩
    · rintro ⟨j, rfl, hj, _, h4 | h4⟩
      · exact h4.2.2
      · exact absurd h2 h4.1
  rw [if_neg h2]
  by_cases h3 : 14 ≤ (p.getD i default).op ∧ (p.getD i default).op ≤ 16
  · have h4 := leads_to h hn hi h3.1 h3.2
    rw [tgt_yes (by rw [hl]; exact decide_eq_true h3), hl, decide_eq_true h3]
    simp only [mayB, decide_eq_true_eq]
    split
    · rename_i h5
      rw [List.mem_singleton]
      constructor
      · rintro rfl
        exact ⟨i + 1, by omega, hlt, h1, .inr ⟨h2, rfl⟩⟩
      · rintro ⟨j, rfl, hj, _, h6 | h6⟩
        · rcases h5 with h5 | h5
          · cases h5
          · omega
        · omega
    · rw [List.mem_cons, List.mem_singleton]
      constructor
      · intro hx
        by_cases hx2 : x = (i : Int) + 1
        · exact ⟨i + 1, by omega, hlt, h1, .inr ⟨h2, rfl⟩⟩
        · exact ⟨(p.getD i default).n.toNat, by omega, by omega, h1, .inl ⟨h3.1, h3.2, by omega⟩⟩
      · rintro ⟨j, rfl, hj, _, h6 | h6⟩ <;> omega
  · rw [hl, decide_eq_false h3, if_pos (.inl rfl), List.mem_singleton]
    simp only [mayB, decide_eq_true_eq]
    constructor
    · rintro rfl
      exact ⟨i + 1, by omega, hlt, h1, .inr ⟨h2, rfl⟩⟩
    · rintro ⟨j, rfl, hj, _, h6 | h6⟩
      · exact absurd ⟨h6.1, h6.2.1⟩ h3
      · omega
theorem next_len (p : List Instr) (i : Nat) : (nextL p i).length ≤ 2 := by
  rw [nextL]; split
  · simp
  · split
    · simp
    · split <;> simp
theorem next_lt (p : List Instr) (i : Nat) : (nextL p i).Pairwise (· < ·) := by
  rw [nextL]; split
  · simp
  · split
    · simp
    · split
      · simp
      · rename_i h; rw [List.pairwise_cons]
        refine ⟨fun x hx => ?_, by simp⟩
        rw [List.mem_singleton] at hx
        have : ¬ tgtI (p.getD i default) = (i : Int) + 1 := fun e => h (.inr e)
        omega
inductive ReachP (p : List Instr) : Nat → Prop
  | zero : ReachP p 0
  | step (i j : Nat) (h : ReachP p i) (hj : j < p.length) (hm : mayB p i j = true) : ReachP p j
theorem reach_lt (hp : 0 < p.length) {j : Nat} (h : ReachP p j) : j < p.length := by
  cases h with
  | zero => exact hp
  | step i j h hj hm => exact hj
open Classical in
noncomputable def reachL (p : List Instr) : List Bool := (List.range p.length).map fun j => decide (ReachP p j)
theorem reachL_len (p : List Instr) : (reachL p).length = p.length := by simp [reachL]
open Classical in
theorem reachL_at {j : Nat} (hj : j < p.length) : (reachL p).getD j default = decide (ReachP p j) := by simp [reachL, hj]
open Classical in
theorem reach_eq {out : List Bool} (hl : out.length = p.length) (h0 : out.getD 0 default = true) (hs : ∀ j, j < p.length → out.getD j default = true → ReachP p j) (hc : ∀ i j, i < p.length → j < p.length → out.getD i default = true → mayB p i j = true → out.getD j default = true) : out = reachL p := by
  refine List.ext_getElem (by rw [hl, reachL_len]) fun j h1 h2 => ?_
  have hj : j < p.length := by rw [← hl]; exact h1
  have e1 : out.getD j default = out[j] := by simp [h1]
  have e2 : (reachL p).getD j default = (reachL p)[j] := by simp [h2]
  rw [← e1, ← e2, reachL_at hj, Bool.eq_iff_iff, decide_eq_true_eq]
  refine ⟨hs j hj, fun hr => ?_⟩
  have hp : 0 < p.length := by omega
  clear e1 e2 h1 h2 hj
  induction hr with
  | zero => exact h0
  | step i j h hj hm ih => exact hc i j (reach_lt hp h) hj ih hm
end
/-! ## The queue -/
structure BfsI (p : List Instr) (out : List Bool) (todo : List Int) : Prop where
  len : out.length = p.length
  snd : ∀ j, j < p.length → out.getD j default = true → ReachP p j
  que : ∀ x ∈ todo, ∃ j : Nat, x = j ∧ j < p.length ∧ ReachP p j
  zero : out.getD 0 default = true ∨ (0 : Int) ∈ todo
  cl : ∀ i j, i < p.length → j < p.length → out.getD i default = true → mayB p i j = true → out.getD j default = true ∨ (j : Int) ∈ todo
theorem getD_set {α : Type} [Inhabited α] {l : List α} {k j : Nat} {v : α} (hk : k < l.length) : (l.set k v).getD j default = if k = j then v else l.getD j default := by
  simp only [List.getD_eq_getElem?_getD, List.getElem?_set]
  split
  · rename_i e; subst e; simp [hk]
  · rfl
def openN (out : List Bool) : Nat := out.countP (fun b => !b)
end Go.Proofs.YtkkmageogkkchaaGreat
namespace Go.Proofs.YtkkmageogkkchaaGreat
set_option maxRecDepth 100000
set_option maxRecDepth 100000
open Go.RowKit
def eBo (b : Bool) : List AV := [.bool b]
def gI (x : Int) : AV := .int .i64 x
noncomputable def reachF (p : List Instr) : List Bool := if fineB p = true then reachL p else []
theorem rfine_fn (p : List Instr) (hn : p.length ≤ 1000000) : Fn Tryz.prog 94 [.lst 5 (p.map eInstr)] (.bool (fineB p)) := by
  have c1 := rcheck_fn p hn
  rw [fineB]
  generalize checkF p = r at *
  obtain ⟨r1, r2⟩ := r
  refine fnb Tryz.func94 (entered_of (by kernel_rfl)) rfl rfl rfl ?_
  repeat' (first | refine sA ?_ | ((first | apply kM | apply kN); (iterate 3 (· exact rfl)); (· first | exact ya | exact q_c (c1) rfl)) | refine sG ?_ | (refine sK ?_ ?_ <;> intro hc <;> (try simp only [KL, sL, reduceCtorEq] at hc) <;> (try (exfalso; omega))))
  exact retq rfl rfl
theorem may_fn (p : List Instr) (i j : Nat) (hi : i < p.length) (hj : j < p.length) (hlp : p.length ≤ 1000000) : Fn Tryz.prog 185 [.lst 5 (p.map eInstr), .int .i64 i, .int .i64 j] (.bool (mayB p i j)) := by
  refine fnb Tryz.func185 (entered_of (by kernel_rfl)) rfl rfl rfl ?_
  refine wlist 0 rfl (fun hall => ?_)
  have hn := instr_n hall i
  repeat' (first | refine sA ?_ | (show O _ _ _ _ _ _ _; first | refine ao_alloc (id := 12) rfl rfl rfl rfl rfl rfl rfl ?_) | ((first | apply kM | apply kN); (iterate 3 (· exact rfl)); (· first | exact ya | exact q_c (leads08_fn _) rfl)) | refine sG ?_ | (refine sK ?_ ?_ <;> intro hc <;> (try simp only [KL, sL, reduceCtorEq] at hc) <;> (try (exfalso; omega))))
  all_goals exact retq rfl (congrArg AV.bool (by rw [Bool.eq_iff_iff]; (try simp only [mayB, cond_true, cond_false, decide_eq_true_eq, Bool.not_eq_true', decide_eq_false_iff_not, Bool.and_eq_true, Bool.or_eq_true, true_iff, false_iff, iff_true, iff_false, Bool.false_eq_true, Bool.not_true, Bool.not_false, reduceCtorEq]); (first | done | omega | (constructor <;> intros <;> omega))))
def mayTo (p : List Instr) (i n : Nat) : List Int := ((List.range n).filter fun j => mayB p i j).map fun j : Nat => (j : Int)
theorem mayTo_len (p : List Instr) (i n : Nat) : (mayTo p i n).length ≤ n := by
  unfold mayTo; rw [List.length_map]; exact Nat.le_trans (List.length_filter_le _ _) (by simp)
theorem mayTo_yes {p : List Instr} {i n : Nat} (h : mayB p i n = true) : mayTo p i (n + 1) = mayTo p i n ++ [(n : Int)] := by simp [mayTo, List.range_succ, h]
theorem mayTo_no {p : List Instr} {i n : Nat} (h : mayB p i n = false) : mayTo p i (n + 1) = mayTo p i n := by simp [mayTo, List.range_succ, h]
theorem sorted_eq : ∀ {a b : List Int}, a.Pairwise (· < ·) → b.Pairwise (· < ·) → (∀ x, x ∈ a ↔ x ∈ b) → a = b
  | [], [], _, _, _ => rfl
  | [], y :: b, _, _, h => absurd ((h y).2 List.mem_cons_self) (by simp)
  | x :: a, [], _, _, h => absurd ((h x).1 List.mem_cons_self) (by simp)
  | x :: a, y :: b, ha, hb, h => by
    rw [List.pairwise_cons] at ha hb
    have e : x = y := by
      rcases List.mem_cons.1 ((h x).1 List.mem_cons_self) with h1 | h1
      · exact h1
      · rcases List.mem_cons.1 ((h y).2 List.mem_cons_self) with h2 | h2
        · exact h2.symm
        · have := hb.1 x h1; have := ha.1 y h2; omega
    subst e
    congr 1
    refine sorted_eq ha.2 hb.2 fun z => ⟨fun hz => ?_, fun hz => ?_⟩
    · rcases List.mem_cons.1 ((h z).1 (List.mem_cons_of_mem _ hz)) with h1 | h1
      · have := ha.1 z hz; omega
      · exact h1
    · rcases List.mem_cons.1 ((h z).2 (List.mem_cons_of_mem _ hz)) with h1 | h1
      · have := hb.1 z hz; omega
      · exact h1
theorem may_next {p : List Instr} (hf : FineP p) (hn : ∀ i, 0 ≤ (p.getD i default).n) {i : Nat} (hi : i < p.length) : mayTo p i p.length = nextL p i := by
  refine sorted_eq ?_ (next_lt p i) fun x => ?_
  · rw [mayTo, List.pairwise_map]
    exact (List.Pairwise.filter _ List.pairwise_lt_range).imp fun h => by omega
  · rw [next_iff hf hn hi, mayTo, List.mem_map]
    constructor
    · rintro ⟨j, hj, rfl⟩
      rw [List.mem_filter, List.mem_range] at hj
      exact ⟨j, rfl, hj.1, hj.2⟩
    · rintro ⟨j, rfl, hj, hm⟩
      exact ⟨j, by rw [List.mem_filter, List.mem_range]; exact ⟨hj, hm⟩, rfl⟩
theorem rnext_fn (p : List Instr) (i : Nat) (hi : i < p.length) (hlp : p.length ≤ 1000000) : Fn Tryz.prog 168 [.lst 5 (p.map eInstr), .int .i64 i] (.lst 1 ((mayTo p i p.length).map eI)) := by
  refine fnb Tryz.func168 (entered_of (by kernel_rfl)) rfl rfl rfl ?_
  repeat' (first | refine sA ?_ | ((first | apply kM | apply kN); (iterate 3 (· exact rfl)); (· first | exact ya)) | refine sG ?_ | (refine sK ?_ ?_ <;> intro hc <;> (try simp only [KL, sL, reduceCtorEq] at hc) <;> (try (exfalso; omega))))
  refine wturn (turn_own eI (t := 5) rfl 10 3 1 (by omega) rfl) ?_
  refine wloop (fun k : Nat => ([(0, .lst 5 (p.map eInstr)), (1, .int .i64 i), (5, .own 10), (8, .int .i64 p.length), (9, .int .i64 k)], [(10, .row 3 1 ((mayTo p i k).map eI))])) (fun k => k ≤ p.length) (fun k => p.length - k) 0 (Nat.zero_le _) les leh (fun k hk => ?_)
  have hl := mayTo_len p i k
  rcases Nat.lt_or_eq_of_le hk with hkl | hkl
  · have c1 := may_fn p i k hi hkl hlp
    cases hb : mayB p i k <;> rw [hb] at c1
    · have e := mayTo_no hb
      repeat' (first | refine sA ?_ | ((first | apply kM | apply kN); (iterate 3 (· exact rfl)); (· first | exact ya | exact q_c (c1) rfl)) | refine sG ?_ | (refine sK ?_ ?_ <;> intro hc <;> (try simp only [KL, sL, reduceCtorEq] at hc) <;> (try (exfalso; omega))))
      all_goals first | (exfalso; omega) | skip
      exact ⟨k + 1, by omega, by omega, les, by simp only [e]; exact leh⟩
    · have e := mayTo_yes hb
      repeat' (first | refine sA ?_ | ((first | apply kM | apply kN); (iterate 3 (· exact rfl)); (· first | exact ya | exact q_c (c1) rfl)) | refine sG ?_ | (refine sK ?_ ?_ <;> intro hc <;> (try simp only [KL, sL, reduceCtorEq] at hc) <;> (try (exfalso; omega))))
      all_goals first | (exfalso; omega) | skip
      (refine ao_ap (id := 10) (ys := [(k : Int)]) (by_ := 8) rfl rfl rfl rfl rfl rfl rfl rfl rfl rfl (fun _ _ => rfl) ?_ ?_ rfl rfl rfl rfl rfl ?_; (· (first | omega | ((try simp only [List.length_cons, List.length_nil, List.length_append, List.length_map]) <;> omega))); (· (first | omega | ((try simp only [List.length_cons, List.length_nil, List.length_append, List.length_map]) <;> omega))))
      repeat' (first | refine sA ?_ | ((first | apply kM | apply kN); (iterate 3 (· exact rfl)); (· first | exact ya)) | refine sG ?_ | (refine sK ?_ ?_ <;> intro hc <;> (try simp only [KL, sL, reduceCtorEq] at hc) <;> (try (exfalso; omega))))
      exact ⟨k + 1, by omega, by omega, les, by simp only [e]; exact leh⟩
  · subst hkl
    repeat' (first | refine sA ?_ | ((first | apply kM | apply kN); (iterate 3 (· exact rfl)); (· first | exact ya)) | refine sG ?_ | (refine sK ?_ ?_ <;> intro hc <;> (try simp only [KL, sL, reduceCtorEq] at hc) <;> (try (exfalso; omega))))
    all_goals first | (exfalso; omega) | skip
    refine retT (fun _ => turn_freeze (t := 4) rfl rfl rfl) ?_
    exact retq rfl rfl
end Go.Proofs.YtkkmageogkkchaaGreat
namespace Go.Proofs.YtkkmageogkkchaaGreat
set_option maxRecDepth 100000
set_option maxRecDepth 100000
open Go.RowKit
def cntT (l : List Bool) : Nat := l.countP fun b => b
theorem cnt_lt : ∀ {a b : List Bool}, a.length = b.length → (∀ t, a.getD t default = true → b.getD t default = true) → a = b ∨ cntT a < cntT b
  | [], [], _, _ => .inl rfl
  | [], y :: b, h, _ => by simp at h
  | x :: a, [], h, _ => by simp at h
  | x :: a, y :: b, h, hs => by
    have h1 := cnt_lt (a := a) (b := b) (by simpa using h) fun t ht => by have := hs (t + 1); simpa using this (by simpa using ht)
    have h2 := hs 0
    simp only [List.getD_cons_zero] at h2
    have e : ∀ (z : Bool) (l : List Bool), cntT (z :: l) = cntT l + (if z then 1 else 0) := fun z l => by simp [cntT, List.countP_cons]
    rcases h1 with rfl | h1
    · cases x <;> cases y
      · exact .inl rfl
      · refine .inr ?_; rw [e, e]; simp
      · simp at h2
      · exact .inl rfl
    · refine .inr ?_
      rw [e, e]
      cases x <;> cases y
      · simpa using h1
      · simp; omega
      · simp at h2
      · simpa using h1
def rstep (p : List Instr) (out : List Bool) (i j : Nat) : List Bool := out.set j (out.getD j default || (out.getD i default && mayB p i j))
structure RoundI (p : List Instr) (M out : List Bool) (i j : Nat) : Prop where
  len : out.length = p.length
  sup : ∀ t, t < p.length → M.getD t default = true → out.getD t default = true
  snd : ∀ t, t < p.length → out.getD t default = true → ReachP p t
  done : ∀ f t, f < p.length → t < p.length → (f < i ∨ f = i ∧ t < j) → M.getD f default = true → mayB p f t = true → out.getD t default = true
theorem RoundI.step {p : List Instr} {M out : List Bool} {i j : Nat} (h : RoundI p M out i j) (hi : i < p.length) (hj : j < p.length) : RoundI p M (rstep p out i j) i (j + 1) := by
  have hs : ∀ t, (rstep p out i j).getD t default = if j = t then (out.getD j default || (out.getD i default && mayB p i j)) else out.getD t default := fun t => getD_set (by rw [h.len]; exact hj)
  have up : ∀ t, out.getD t default = true → (rstep p out i j).getD t default = true := fun t ht => by
    rw [hs]; split
    · rename_i e; subst e; rw [ht]; rfl
    · exact ht
  refine ⟨by simpa [rstep] using h.len, fun t ht hm => up t (h.sup t ht hm), fun t ht ho => ?_, fun f t hf ht hft hm hmay => ?_⟩
  · rw [hs] at ho
    split at ho
    · rename_i e; subst e
      rcases (Bool.or_eq_true _ _).mp ho with h1 | h1
      · exact h.snd _ ht h1
      · have h2 := (Bool.and_eq_true _ _).mp h1
        exact .step i _ (h.snd i hi h2.1) hj h2.2
    · exact h.snd t ht ho
  · by_cases e : f = i ∧ t = j
    · obtain ⟨rfl, rfl⟩ := e
      rw [hs, if_pos rfl, h.sup f hf hm, hmay]; simp
    · exact up t (h.done f t hf ht (by omega) hm hmay)
theorem RoundI.row {p : List Instr} {M out : List Bool} {i : Nat} (h : RoundI p M out i p.length) : RoundI p M out (i + 1) 0 :=
  ⟨h.len, h.sup, h.snd, fun f t hf ht hft hm hmay => h.done f t hf ht (by omega) hm hmay⟩
structure OutI (p : List Instr) (out : List Bool) (k : Nat) : Prop where
  len : out.length = p.length
  snd : ∀ t, t < p.length → out.getD t default = true → ReachP p t
  zero : out.getD 0 default = true
  cl : (∀ i j, i < p.length → j < p.length → out.getD i default = true → mayB p i j = true → out.getD j default = true) ∨ k + 1 ≤ cntT out
theorem OutI.start {p : List Instr} {M : List Bool} {k : Nat} (h : OutI p M k) : RoundI p M M 0 0 := ⟨h.len, fun _ _ h => h, h.snd, fun f t hf ht hft => by omega⟩
open Classical in
theorem OutI.next {p : List Instr} {M out : List Bool} {k : Nat} (hM : OutI p M k) (h : RoundI p M out p.length 0) (hp : 0 < p.length) : OutI p out (k + 1) := by
  refine ⟨h.len, h.snd, h.sup 0 hp hM.zero, ?_⟩
  have hd : ∀ i j, i < p.length → j < p.length → M.getD i default = true → mayB p i j = true → out.getD j default = true := fun i j hi hj hm hmay => h.done i j hi hj (.inl hi) hm hmay
  have hlt : ∀ t, ¬ t < p.length → M.getD t default = true → False := fun t ht hm => by
    simp [show M.length ≤ t by rw [hM.len]; omega] at hm
  rcases cnt_lt (a := M) (b := out) (hM.len.trans h.len.symm) (fun t ht => by
    by_cases htl : t < p.length
    · exact h.sup t htl ht
    · exact (hlt t htl ht).elim) with e | e
  · subst e; exact .inl hd
  · rcases hM.cl with h1 | h1
    · refine .inl fun i j hi hj ho hmay => ?_
      have e2 := reach_eq hM.len hM.zero hM.snd h1
      have h3 : ReachP p j := .step i j (h.snd i hi ho) hj hmay
      refine h.sup j hj ?_
      rw [e2, reachL_at hj]
      exact decide_eq_true h3
    · exact .inr (by omega)
theorem OutI.done {p : List Instr} {out : List Bool} (h : OutI p out p.length) : out = reachL p := by
  refine reach_eq h.len h.zero h.snd ?_
  rcases h.cl with h1 | h1
  · exact h1
  · have : cntT out ≤ out.length := List.countP_le_length
    rw [h.len] at this; omega
end Go.Proofs.YtkkmageogkkchaaGreat
namespace Go.Proofs.YtkkmageogkkchaaGreat
set_option maxRecDepth 100000
set_option maxRecDepth 100000
open Go.RowKit
section
variable {p : List Instr}
theorem loops_mem {s : Span} (h : s ∈ loopsL p) : ∃ i : Nat, i < p.length ∧ (p.getD i default).op = 16 ∧ s.frm = (p.getD i default).n ∧ s.to = i := by
  rw [loopsL, loopsTo, List.mem_map] at h
  obtain ⟨i, hi, rfl⟩ := h
  rw [List.mem_filter, List.mem_range] at hi
  exact ⟨i, hi.1, of_decide_eq_true hi.2, rfl, rfl⟩
theorem loops_inc : (loopsL p).Pairwise fun a b => a.to < b.to := by
  rw [loopsL, loopsTo, List.pairwise_map]
  exact (List.Pairwise.filter _ List.pairwise_lt_range).imp fun h => Int.ofNat_lt.2 h
theorem loops_lt {j k : Nat} (hjk : j < k) (hk : k < (loopsL p).length) : ((loopsL p).getD j default).to < ((loopsL p).getD k default).to := by
  have := List.pairwise_iff_getElem.1 (loops_inc (p := p)) j k (by omega) hk hjk
  simpa [hk, show j < (loopsL p).length by omega] using this
end
end Go.Proofs.YtkkmageogkkchaaGreat
namespace Go.Proofs.YtkkmageogkkchaaGreat
set_option maxRecDepth 100000
set_option maxRecDepth 100000
open Go.RowKit
section
variable {p : List Instr}
theorem ends_ne (hf : FineP p) (hn : ∀ i, 0 ≤ (p.getD i default).n) {i j : Nat} (hi : i < p.length) (hm : mayB p i j = true) : j ≠ i ∧ (j < i → (p.getD i default).op = 16) := by
  rw [mayB, decide_eq_true_eq] at hm
  rcases hm.2 with ⟨h1, h2, h3⟩ | ⟨h1, h2⟩
  · have h4 := leads_to hf hn hi h1 h2
    exact ⟨by omega, fun h => by omega⟩
  · exact ⟨by omega, fun h => by omega⟩
theorem getD_of {α : Type} [Inhabited α] {l : List α} {s : α} (h : s ∈ l) : ∃ k, k < l.length ∧ l.getD k default = s := by
  obtain ⟨k, hk, rfl⟩ := List.getElem_of_mem h
  exact ⟨k, hk, by simp [hk]⟩
theorem no_over (hf : FineP p) {j k : Nat} (hjk : j < k) (hk : k < (loopsL p).length) : ¬ (((loopsL p).getD j default).frm < ((loopsL p).getD k default).frm ∧ ((loopsL p).getD k default).frm ≤ ((loopsL p).getD j default).to) := by
  have h3 := hf.loop k hk
  have hj : j < (loopsL p).length := by omega
  rw [loopQ, List.any_eq_false] at h3
  have hm : (loopsL p).getD j default ∈ (loopsL p).take k := by
    have e : (loopsL p).getD j default = ((loopsL p).take k)[j]'(by rw [List.length_take]; omega) := by simp [hj]
    rw [e]; exact List.getElem_mem _
  have := h3 _ hm
  rw [overB, decide_eq_true_eq] at this
  exact this
theorem ends_loop (hf : FineP p) (hn : ∀ i, 0 ≤ (p.getD i default).n) {i j : Nat} (hi : i < p.length) (hm : mayB p i j = true) {k : Nat} (hk : k < (loopsL p).length) :
    (hasB ((loopsL p).getD k default) j = true → hasB ((loopsL p).getD k default) i = false → (j : Int) = ((loopsL p).getD k default).frm) ∧
    (hasB ((loopsL p).getD k default) i = true → hasB ((loopsL p).getD k default) j = false → (i : Int) = ((loopsL p).getD k default).to) := by
  rw [mayB, decide_eq_true_eq] at hm
  have e : ∀ x : Int, (hasB ((loopsL p).getD k default) x = true ↔ ((loopsL p).getD k default).frm ≤ x ∧ x ≤ ((loopsL p).getD k default).to) ∧ (hasB ((loopsL p).getD k default) x = false ↔ ¬ (((loopsL p).getD k default).frm ≤ x ∧ x ≤ ((loopsL p).getD k default).to)) := fun x => by
    rw [hasB]; exact ⟨decide_eq_true_iff, decide_eq_false_iff_not⟩
  rcases hm.2 with ⟨h1, h2, h3⟩ | ⟨h1, h2⟩
  · have h4 := leads_to hf hn hi h1 h2
    by_cases h5 : (p.getD i default).op = 16
    · have hmem : (⟨(p.getD i default).n, i⟩ : Span) ∈ loopsL p := by
        rw [loopsL, loopsTo, List.mem_map]
        exact ⟨i, List.mem_filter.2 ⟨List.mem_range.2 hi, decide_eq_true h5⟩, rfl⟩
      obtain ⟨b, hb, hbe⟩ := getD_of hmem
      have hbf : ((loopsL p).getD b default).frm = (p.getD i default).n := by rw [hbe]
      have hbt : ((loopsL p).getD b default).to = i := by rw [hbe]
      rw [(e _).1, (e _).2, (e _).1, (e _).2]
      refine ⟨fun g1 g2 => ?_, fun g1 g2 => ?_⟩
      · have hkb : k < b := by
          rcases Nat.lt_trichotomy k b with q | q | q
          · exact q
          · subst q; omega
          · have := loops_lt q hk; omega
        have := no_over hf hkb hb
        omega
      · rcases Nat.lt_trichotomy k b with q | q | q
        · have := loops_lt q hb; omega
        · subst q; omega
        · have := no_over hf q hk; omega
    · have h6 := hf.jump i hi
      have h7 := leads_iff hf hi
      rw [decide_eq_true ⟨h1, h2⟩] at h7
      rw [jumpB, h7, Bool.true_and] at h6
      have h8 : crossB (loopsL p) i (p.getD i default).n = false := by
        have : ((p.getD i default).op != 16) = true := by simpa using h5
        rw [this, Bool.true_and] at h6; exact h6
      rw [crossB, List.any_eq_false] at h8
      have h9 := h8 _ (getD_mem hk)
      rw [← h3] at h9
      have h10 : hasB ((loopsL p).getD k default) i = hasB ((loopsL p).getD k default) j := by simpa using h9
      rw [h10]
      exact ⟨fun g1 g2 => absurd (g1.symm.trans g2) (by simp), fun g1 g2 => absurd (g1.symm.trans g2) (by simp)⟩
  · rw [(e _).1, (e _).2, (e _).1, (e _).2]
    exact ⟨fun g1 g2 => by omega, fun g1 g2 => by omega⟩
theorem next_nil (p : List Instr) (i : Nat) : (nextL p i).length = 0 ↔ (p.getD i default).op = 21 := by
  rw [nextL]
  split
  · rename_i h; exact ⟨fun _ => h, fun _ => rfl⟩
  · rename_i h
    split
    · simp only [List.length_singleton]; exact ⟨fun e => by omega, fun e => absurd e h⟩
    · split
      · simp only [List.length_singleton]; exact ⟨fun e => by omega, fun e => absurd e h⟩
      · simp only [List.length_cons, List.length_nil]; exact ⟨fun e => by omega, fun e => absurd e h⟩
end
end Go.Proofs.YtkkmageogkkchaaGreat
