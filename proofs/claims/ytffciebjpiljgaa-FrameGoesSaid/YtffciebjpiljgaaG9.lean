/- The package flow over abstract values: small parts. No condition. -/
import Derived.Test.YtffciebjpiljgaaG7
import Derived.Test.YtffciebjpiljgaaG8
namespace Go.Proofs.Ytffciebjpiljgaa
set_option linter.unusedSimpArgs false
set_option linter.unusedVariables false
set_option maxRecDepth 100000
open Go.RowKit
def hasB (s : Span) (pc : Int) : Bool := decide (s.frm ≤ pc ∧ pc ≤ s.to)
def overB (s a : Span) : Bool := decide (a.frm < s.frm ∧ s.frm ≤ a.to)
theorem has_fn (s : Span) (pc : Int) : Fn Try.prog 127 [.agg (eSpan s), .int .i64 pc] (.bool (hasB s pc)) := by
  refine fnb Try.func127 (entered_of (by kernel_rfl)) rfl rfl rfl ?_
  repeat' (first | (show W _ _ _ _ _ _; first | apply kA | refine kB rfl ?_ | refine kC rfl rfl ?_ | refine kD rfl rfl ?_ | apply kE | apply kF | apply kG | apply kH | refine kI (by kernel_rfl) (by kernel_rfl) ?_) | (show O _ _ _ _ _ _ _; first | (show O _ _ _ _ (⟨_, .store _ _ _, _, _, _, _⟩ :: _) _ _; refine kJ rfl rfl rfl rfl rfl rfl rfl rfl rfl rfl rfl ?_) | apply kK) | apply kL | ((first | apply kM | apply kN); (iterate 3 (· exact rfl)); (· first | exact ya)) | refine kO rfl rfl rfl rfl rfl ?_ | refine kP rfl rfl rfl ?_ | ((first | refine kQ rfl rfl ?_ ?_ | refine kR rfl rfl rfl rfl rfl ?_ ?_ | refine kS rfl rfl rfl ?_ ?_) <;> intro hc <;> (try simp only [KL, cond_true, cond_false, beq_iff_eq, bne_iff_ne, ne_eq, reduceCtorEq] at hc) <;> (try (have hT : True := hc; clear hT hc)) <;> (try (exfalso; omega))) | apply kT | apply kU | apply kV | apply kW | refine kX rfl ?_ | apply kY | apply kZ)
  all_goals exact retq rfl (congrArg AV.bool (by rw [Bool.eq_iff_iff]; (try simp only [hasB, cond_true, cond_false, decide_eq_true_eq, Bool.not_eq_true', decide_eq_false_iff_not, Bool.and_eq_true, Bool.or_eq_true, true_iff, false_iff, iff_true, iff_false, Bool.false_eq_true, Bool.not_true, Bool.not_false, reduceCtorEq]); (first | done | omega | (constructor <;> intros <;> omega))))
theorem overlaps_fn (s a : Span) : Fn Try.prog 108 [.agg (eSpan s), .agg (eSpan a)] (.bool (overB s a)) := by
  refine fnb Try.func108 (entered_of (by kernel_rfl)) rfl rfl rfl ?_
  repeat' (first | (show W _ _ _ _ _ _; first | apply kA | refine kB rfl ?_ | refine kC rfl rfl ?_ | refine kD rfl rfl ?_ | apply kE | apply kF | apply kG | apply kH | refine kI (by kernel_rfl) (by kernel_rfl) ?_) | (show O _ _ _ _ _ _ _; first | (show O _ _ _ _ (⟨_, .store _ _ _, _, _, _, _⟩ :: _) _ _; refine kJ rfl rfl rfl rfl rfl rfl rfl rfl rfl rfl rfl ?_) | apply kK) | apply kL | ((first | apply kM | apply kN); (iterate 3 (· exact rfl)); (· first | exact ya)) | refine kO rfl rfl rfl rfl rfl ?_ | refine kP rfl rfl rfl ?_ | ((first | refine kQ rfl rfl ?_ ?_ | refine kR rfl rfl rfl rfl rfl ?_ ?_ | refine kS rfl rfl rfl ?_ ?_) <;> intro hc <;> (try simp only [KL, cond_true, cond_false, beq_iff_eq, bne_iff_ne, ne_eq, reduceCtorEq] at hc) <;> (try (have hT : True := hc; clear hT hc)) <;> (try (exfalso; omega))) | apply kT | apply kU | apply kV | apply kW | refine kX rfl ?_ | apply kY | apply kZ)
  all_goals exact retq rfl (congrArg AV.bool (by rw [Bool.eq_iff_iff]; (try simp only [overB, cond_true, cond_false, decide_eq_true_eq, Bool.not_eq_true', decide_eq_false_iff_not, Bool.and_eq_true, Bool.or_eq_true, true_iff, false_iff, iff_true, iff_false, Bool.false_eq_true, Bool.not_true, Bool.not_false, reduceCtorEq]); (first | done | omega | (constructor <;> intros <;> omega))))
theorem crossC_fn (s : Span) (a b : Int) : Fn Try.prog 126 [.agg (eSpan s), .ref [.int .i64 a], .ref [.int .i64 b]] (.bool (hasB s a != hasB s b)) := by
  refine fnb Try.func126 (entered_of (by kernel_rfl)) rfl rfl rfl ?_
  repeat' (first | (show W _ _ _ _ _ _; first | apply kA | refine kB rfl ?_ | refine kC rfl rfl ?_ | refine kD rfl rfl ?_ | apply kE | apply kF | apply kG | apply kH | refine kI (by kernel_rfl) (by kernel_rfl) ?_) | (show O _ _ _ _ _ _ _; first | (show O _ _ _ _ (⟨_, .store _ _ _, _, _, _, _⟩ :: _) _ _; refine kJ rfl rfl rfl rfl rfl rfl rfl rfl rfl rfl rfl ?_) | apply kK) | apply kL | ((first | apply kM | apply kN); (iterate 3 (· exact rfl)); (· first | (show Y _ ⟨_, .call ⟨.value _, _, _⟩, _, _, _, _⟩ _ _ _; first | exact q_c (has_fn _ _) rfl) | exact ya)) | refine kO rfl rfl rfl rfl rfl ?_ | refine kP rfl rfl rfl ?_ | ((first | refine kQ rfl rfl ?_ ?_ | refine kR rfl rfl rfl rfl rfl ?_ ?_ | refine kS rfl rfl rfl ?_ ?_) <;> intro hc <;> (try simp only [KL, cond_true, cond_false, beq_iff_eq, bne_iff_ne, ne_eq, reduceCtorEq] at hc) <;> (try (have hT : True := hc; clear hT hc)) <;> (try (exfalso; omega))) | apply kT | apply kU | apply kV | apply kW | refine kX rfl ?_ | apply kY | apply kZ)
  all_goals exact retq rfl rfl
/-- The first number of which something is so. -/
def fstN (q : Nat → Bool) (n : Nat) : Option Nat := (List.range n).find? q
theorem fstN_some {q : Nat → Bool} {n k : Nat} (hk : k < n) (hq : q k = true) (hno : ∀ j, j < k → q j = false) : fstN q n = some k := by
  rw [fstN, List.find?_range_eq_some]; exact ⟨hq, List.mem_range.2 hk, fun j hj => by simp [hno j hj]⟩
theorem fstN_none {q : Nat → Bool} {n : Nat} (hno : ∀ j, j < n → q j = false) : fstN q n = none := by
  rw [fstN, List.find?_range_eq_none]; exact fun j hj => by simp [hno j hj]
theorem no_next {q : Nat → Bool} {k : Nat} (hno : ∀ j, j < k → q j = false) (h : q k = false) : ∀ j, j < k + 1 → q j = false := fun j hj => by
  rcases Nat.lt_succ_iff_lt_or_eq.1 hj with h' | rfl
  · exact hno j h'
  · exact h
def fstV (o : Option Nat) : Int := match o with | some k => (k : Int) | none => 0
theorem first_fn (p : List Instr) (F : FuncId) (cap : List AV) (q : Nat → Bool) (hF : ∀ i, i < p.length → Fn Try.prog F ([.int .i64 (i : Int)] ++ cap) (.bool (q i))) (hn : p.length ≤ 1000000) :
    Fn Try.prog 101 [.lst 5 (p.map eInstr), .fn (.func F) [] cap] (.tup [.int .i64 (fstV (fstN q p.length)), .bool (fstN q p.length).isSome]) := by
  refine fnb Try.func101 (entered_of (by kernel_rfl)) rfl rfl rfl ?_
  repeat' (first | (show W _ _ _ _ _ _; first | apply kA | refine kB rfl ?_ | refine kC rfl rfl ?_ | refine kD rfl rfl ?_ | apply kE | apply kF | apply kG | apply kH | refine kI (by kernel_rfl) (by kernel_rfl) ?_) | (show O _ _ _ _ _ _ _; first | (show O _ _ _ _ (⟨_, .store _ _ _, _, _, _, _⟩ :: _) _ _; refine kJ rfl rfl rfl rfl rfl rfl rfl rfl rfl rfl rfl ?_) | apply kK) | apply kL | ((first | apply kM | apply kN); (iterate 3 (· exact rfl)); (· first | exact ya)) | refine kO rfl rfl rfl rfl rfl ?_ | refine kP rfl rfl rfl ?_ | ((first | refine kQ rfl rfl ?_ ?_ | refine kR rfl rfl rfl rfl rfl ?_ ?_ | refine kS rfl rfl rfl ?_ ?_) <;> intro hc <;> (try simp only [KL, cond_true, cond_false, beq_iff_eq, bne_iff_ne, ne_eq, reduceCtorEq] at hc) <;> (try (have hT : True := hc; clear hT hc)) <;> (try (exfalso; omega))) | apply kT | apply kU | apply kV | apply kW | refine kX rfl ?_ | apply kY | apply kZ)
  refine wloop (fun k : Nat => ([(1, .fn (.func F) [] cap), (8, .int .i64 p.length), (9, .int .i64 k)], [])) (fun k => k ≤ p.length ∧ ∀ j, j < k → q j = false) (fun k => p.length - k) 0 ⟨Nat.zero_le _, fun j hj => absurd hj (by omega)⟩ les leh (fun k hk => ?_)
  obtain ⟨hk, hno⟩ := hk
  by_cases hlt : k < p.length
  · repeat' (first | (show W _ _ _ _ _ _; first | apply kA | refine kB rfl ?_ | refine kC rfl rfl ?_ | refine kD rfl rfl ?_ | apply kE | apply kF | apply kG | apply kH | refine kI (by kernel_rfl) (by kernel_rfl) ?_) | (show O _ _ _ _ _ _ _; first | (show O _ _ _ _ (⟨_, .store _ _ _, _, _, _, _⟩ :: _) _ _; refine kJ rfl rfl rfl rfl rfl rfl rfl rfl rfl rfl rfl ?_) | apply kK) | apply kL | ((first | apply kM | apply kN); (iterate 3 (· exact rfl)); (· first | (show Y _ ⟨_, .call ⟨.value _, _, _⟩, _, _, _, _⟩ _ _ _; first | exact q_c (hF k hlt) rfl) | exact ya)) | refine kO rfl rfl rfl rfl rfl ?_ | refine kP rfl rfl rfl ?_ | ((first | refine kQ rfl rfl ?_ ?_ | refine kR rfl rfl rfl rfl rfl ?_ ?_ | refine kS rfl rfl rfl ?_ ?_) <;> intro hc <;> (try simp only [KL, cond_true, cond_false, beq_iff_eq, bne_iff_ne, ne_eq, reduceCtorEq] at hc) <;> (try (have hT : True := hc; clear hT hc)) <;> (try (exfalso; omega))) | apply kT | apply kU | apply kV | apply kW | refine kX rfl ?_ | apply kY | apply kZ)
    all_goals first | (exfalso; omega) | skip
    · rw [fstN_some hlt hc hno]; exact retq rfl rfl
    · exact ⟨k + 1, ⟨by omega, no_next hno hc⟩, by omega, les, leh⟩
  · obtain rfl : k = p.length := by omega
    rw [fstN_none hno]
    repeat' (first | (show W _ _ _ _ _ _; first | apply kA | refine kB rfl ?_ | refine kC rfl rfl ?_ | refine kD rfl rfl ?_ | apply kE | apply kF | apply kG | apply kH | refine kI (by kernel_rfl) (by kernel_rfl) ?_) | (show O _ _ _ _ _ _ _; first | (show O _ _ _ _ (⟨_, .store _ _ _, _, _, _, _⟩ :: _) _ _; refine kJ rfl rfl rfl rfl rfl rfl rfl rfl rfl rfl rfl ?_) | apply kK) | apply kL | ((first | apply kM | apply kN); (iterate 3 (· exact rfl)); (· first | exact ya)) | refine kO rfl rfl rfl rfl rfl ?_ | refine kP rfl rfl rfl ?_ | ((first | refine kQ rfl rfl ?_ ?_ | refine kR rfl rfl rfl rfl rfl ?_ ?_ | refine kS rfl rfl rfl ?_ ?_) <;> intro hc <;> (try simp only [KL, cond_true, cond_false, beq_iff_eq, bne_iff_ne, ne_eq, reduceCtorEq] at hc) <;> (try (have hT : True := hc; clear hT hc)) <;> (try (exfalso; omega))) | apply kT | apply kU | apply kV | apply kW | refine kX rfl ?_ | apply kY | apply kZ)
    all_goals first | (exfalso; omega) | exact retq rfl rfl
end Go.Proofs.Ytffciebjpiljgaa
namespace Go.Proofs.Ytffciebjpiljgaa
set_option linter.unusedSimpArgs false
set_option linter.unusedVariables false
set_option maxRecDepth 100000
open Go.RowKit
theorem instr_n {p : List Instr} (h : ∀ x ∈ p, ∀ k m, AV.int k m ∈ eInstr x → rangeP k m) (i : Nat) : 0 ≤ (p.getD i default).n ∧ (p.getD i default).n ≤ 4294967295 := by
  by_cases hi : i < p.length
  · have := h p[i] (List.getElem_mem hi) .u32 p[i].n (by simp [eInstr])
    simp only [rangeP] at this
    simpa [hi] using this
  · simp [hi]; exact ⟨by decide, by decide⟩
def idxV (o : Option Nat) : Int := match o with | some k => (k : Int) | none => -1
theorem any_fst {α : Type} [Inhabited α] (q : α → Bool) (xs : List α) : decide (0 ≤ idxV (fstN (fun i => q (xs.getD i default)) xs.length)) = xs.any q := by
  cases h : fstN (fun i => q (xs.getD i default)) xs.length with
  | some k =>
    rw [fstN, List.find?_range_eq_some] at h
    have hk := List.mem_range.1 h.2.1
    have h1 : q xs[k] = true := by simpa [hk] using h.1
    rw [List.any_eq_true.2 ⟨xs[k], List.getElem_mem hk, h1⟩]
    simp [idxV]
  | none =>
    rw [fstN, List.find?_range_eq_none] at h
    have : xs.any q = false := by
      rw [List.any_eq_false]
      intro x hx
      obtain ⟨j, hj⟩ := List.getElem?_of_mem hx
      have hjl : j < xs.length := (List.getElem?_eq_some_iff.1 hj).1
      have := h j hjl
      simpa [hjl, (List.getElem?_eq_some_iff.1 hj).2] using this
    rw [this]; rfl
theorem idxSpan_fn (xs : List Span) (F : FuncId) (cap : List AV) (q : Span → Bool) (hF : ∀ x, Fn Try.prog F ([.agg (eSpan x)] ++ cap) (.bool (q x))) (hn : xs.length ≤ 1000000) :
    Fn Try.prog 125 [.lst 2 (xs.map eSpan), .fn (.func F) [] cap] (.int .i64 (idxV (fstN (fun i => q (xs.getD i default)) xs.length))) := by
  refine fnb Try.func125 (entered_of (by kernel_rfl)) rfl rfl rfl ?_
  repeat' (first | (show W _ _ _ _ _ _; first | apply kA | refine kB rfl ?_ | refine kC rfl rfl ?_ | refine kD rfl rfl ?_ | apply kE | apply kF | apply kG | apply kH | refine kI (by kernel_rfl) (by kernel_rfl) ?_) | (show O _ _ _ _ _ _ _; first | (show O _ _ _ _ (⟨_, .store _ _ _, _, _, _, _⟩ :: _) _ _; refine kJ rfl rfl rfl rfl rfl rfl rfl rfl rfl rfl rfl ?_) | apply kK) | apply kL | ((first | apply kM | apply kN); (iterate 3 (· exact rfl)); (· first | exact ya)) | refine kO rfl rfl rfl rfl rfl ?_ | refine kP rfl rfl rfl ?_ | ((first | refine kQ rfl rfl ?_ ?_ | refine kR rfl rfl rfl rfl rfl ?_ ?_ | refine kS rfl rfl rfl ?_ ?_) <;> intro hc <;> (try simp only [KL, cond_true, cond_false, beq_iff_eq, bne_iff_ne, ne_eq, reduceCtorEq] at hc) <;> (try (have hT : True := hc; clear hT hc)) <;> (try (exfalso; omega))) | apply kT | apply kU | apply kV | apply kW | refine kX rfl ?_ | apply kY | apply kZ)
  refine wloop (fun k : Nat => ([(0, .lst 2 (xs.map eSpan)), (1, .fn (.func F) [] cap), (7, .int .i64 xs.length), (8, .int .i64 k)], [])) (fun k => k ≤ xs.length ∧ ∀ j, j < k → q (xs.getD j default) = false) (fun k => xs.length - k) 0 ⟨Nat.zero_le _, fun j hj => absurd hj (by omega)⟩ les leh (fun k hk => ?_)
  obtain ⟨hk, hno⟩ := hk
  by_cases hlt : k < xs.length
  · repeat' (first | (show W _ _ _ _ _ _; first | apply kA | refine kB rfl ?_ | refine kC rfl rfl ?_ | refine kD rfl rfl ?_ | apply kE | apply kF | apply kG | apply kH | refine kI (by kernel_rfl) (by kernel_rfl) ?_) | (show O _ _ _ _ _ _ _; first | (show O _ _ _ _ (⟨_, .store _ _ _, _, _, _, _⟩ :: _) _ _; refine kJ rfl rfl rfl rfl rfl rfl rfl rfl rfl rfl rfl ?_) | apply kK) | apply kL | ((first | apply kM | apply kN); (iterate 3 (· exact rfl)); (· first | (show Y _ ⟨_, .call ⟨.value _, _, _⟩, _, _, _, _⟩ _ _ _; first | exact q_c (hF (xs.getD k default)) rfl) | exact ya)) | refine kO rfl rfl rfl rfl rfl ?_ | refine kP rfl rfl rfl ?_ | ((first | refine kQ rfl rfl ?_ ?_ | refine kR rfl rfl rfl rfl rfl ?_ ?_ | refine kS rfl rfl rfl ?_ ?_) <;> intro hc <;> (try simp only [KL, cond_true, cond_false, beq_iff_eq, bne_iff_ne, ne_eq, reduceCtorEq] at hc) <;> (try (have hT : True := hc; clear hT hc)) <;> (try (exfalso; omega))) | apply kT | apply kU | apply kV | apply kW | refine kX rfl ?_ | apply kY | apply kZ)
    all_goals first | (exfalso; omega) | skip
    · rw [fstN_some (q := fun i => q (xs.getD i default)) hlt hc hno]; exact retq rfl rfl
    · exact ⟨k + 1, ⟨by omega, no_next (q := fun i => q (xs.getD i default)) hno hc⟩, by omega, les, leh⟩
  · obtain rfl : k = xs.length := by omega
    rw [fstN_none (q := fun i => q (xs.getD i default)) hno]
    repeat' (first | (show W _ _ _ _ _ _; first | apply kA | refine kB rfl ?_ | refine kC rfl rfl ?_ | refine kD rfl rfl ?_ | apply kE | apply kF | apply kG | apply kH | refine kI (by kernel_rfl) (by kernel_rfl) ?_) | (show O _ _ _ _ _ _ _; first | (show O _ _ _ _ (⟨_, .store _ _ _, _, _, _, _⟩ :: _) _ _; refine kJ rfl rfl rfl rfl rfl rfl rfl rfl rfl rfl rfl ?_) | apply kK) | apply kL | ((first | apply kM | apply kN); (iterate 3 (· exact rfl)); (· first | exact ya)) | refine kO rfl rfl rfl rfl rfl ?_ | refine kP rfl rfl rfl ?_ | ((first | refine kQ rfl rfl ?_ ?_ | refine kR rfl rfl rfl rfl rfl ?_ ?_ | refine kS rfl rfl rfl ?_ ?_) <;> intro hc <;> (try simp only [KL, cond_true, cond_false, beq_iff_eq, bne_iff_ne, ne_eq, reduceCtorEq] at hc) <;> (try (have hT : True := hc; clear hT hc)) <;> (try (exfalso; omega))) | apply kT | apply kU | apply kV | apply kW | refine kX rfl ?_ | apply kY | apply kZ)
    all_goals first | (exfalso; omega) | exact retq rfl rfl
theorem conSpan_fn (xs : List Span) (F : FuncId) (cap : List AV) (q : Span → Bool) (hF : ∀ x, Fn Try.prog F ([.agg (eSpan x)] ++ cap) (.bool (q x))) (hn : xs.length ≤ 1000000) :
    Fn Try.prog 106 [.lst 2 (xs.map eSpan), .fn (.func F) [] cap] (.bool (xs.any q)) := by
  rw [← any_fst]
  refine fnb Try.func106 (entered_of (by kernel_rfl)) rfl rfl rfl ?_
  repeat' (first | (show W _ _ _ _ _ _; first | apply kA | refine kB rfl ?_ | refine kC rfl rfl ?_ | refine kD rfl rfl ?_ | apply kE | apply kF | apply kG | apply kH | refine kI (by kernel_rfl) (by kernel_rfl) ?_) | (show O _ _ _ _ _ _ _; first | (show O _ _ _ _ (⟨_, .store _ _ _, _, _, _, _⟩ :: _) _ _; refine kJ rfl rfl rfl rfl rfl rfl rfl rfl rfl rfl rfl ?_) | apply kK) | apply kL | ((first | apply kM | apply kN); (iterate 3 (· exact rfl)); (· first | (show Y _ ⟨_, .call ⟨.value _, _, _⟩, _, _, _, _⟩ _ _ _; first | exact q_c (idxSpan_fn xs F cap q hF hn) rfl) | exact ya)) | refine kO rfl rfl rfl rfl rfl ?_ | refine kP rfl rfl rfl ?_ | ((first | refine kQ rfl rfl ?_ ?_ | refine kR rfl rfl rfl rfl rfl ?_ ?_ | refine kS rfl rfl rfl ?_ ?_) <;> intro hc <;> (try simp only [KL, cond_true, cond_false, beq_iff_eq, bne_iff_ne, ne_eq, reduceCtorEq] at hc) <;> (try (have hT : True := hc; clear hT hc)) <;> (try (exfalso; omega))) | apply kT | apply kU | apply kV | apply kW | refine kX rfl ?_ | apply kY | apply kZ)
  exact retq rfl rfl
def crossB (l : List Span) (a b : Int) : Bool := l.any fun s => hasB s a != hasB s b
theorem crosses_fn (l : List Span) (a b : Int) (hn : l.length ≤ 1000000) : Fn Try.prog 111 [.lst 2 (l.map eSpan), .int .i64 a, .int .i64 b] (.bool (crossB l a b)) := by
  refine fnb Try.func111 (entered_of (by kernel_rfl)) rfl rfl rfl ?_
  repeat' (first | (show W _ _ _ _ _ _; first | apply kA | refine kB rfl ?_ | refine kC rfl rfl ?_ | refine kD rfl rfl ?_ | apply kE | apply kF | apply kG | apply kH | refine kI (by kernel_rfl) (by kernel_rfl) ?_) | (show O _ _ _ _ _ _ _; first | (show O _ _ _ _ (⟨_, .store _ _ _, _, _, _, _⟩ :: _) _ _; refine kJ rfl rfl rfl rfl rfl rfl rfl rfl rfl rfl rfl ?_) | apply kK) | apply kL | ((first | apply kM | apply kN); (iterate 3 (· exact rfl)); (· first | (show Y _ ⟨_, .call ⟨.value _, _, _⟩, _, _, _, _⟩ _ _ _; first | exact q_c (conSpan_fn l 126 [.ref [.int .i64 a], .ref [.int .i64 b]] _ (fun s => crossC_fn s a b) hn) rfl) | exact ya)) | refine kO rfl rfl rfl rfl rfl ?_ | refine kP rfl rfl rfl ?_ | ((first | refine kQ rfl rfl ?_ ?_ | refine kR rfl rfl rfl rfl rfl ?_ ?_ | refine kS rfl rfl rfl ?_ ?_) <;> intro hc <;> (try simp only [KL, cond_true, cond_false, beq_iff_eq, bne_iff_ne, ne_eq, reduceCtorEq] at hc) <;> (try (have hT : True := hc; clear hT hc)) <;> (try (exfalso; omega))) | apply kT | apply kU | apply kV | apply kW | refine kX rfl ?_ | apply kY | apply kZ)
  exact retq rfl rfl
def loopsTo (p : List Instr) (n : Nat) : List Span := ((List.range n).filter fun k => (p.getD k default).op = 16).map fun k => ⟨(p.getD k default).n, k⟩
def loopsL (p : List Instr) : List Span := loopsTo p p.length
theorem loopsTo_len (p : List Instr) (n : Nat) : (loopsTo p n).length ≤ n := by
  simp only [loopsTo, List.length_map]; exact Nat.le_trans (List.length_filter_le _ _) (by simp)
theorem loopsTo_yes {p : List Instr} {n : Nat} (h : (p.getD n default).op = 16) : loopsTo p (n + 1) = loopsTo p n ++ [⟨(p.getD n default).n, n⟩] := by
  simp only [loopsTo, List.range_succ, List.filter_append, List.map_append]
  have e : [n].filter (fun k => decide ((p.getD k default).op = 16)) = [n] := List.filter_eq_self.2 fun k hk => by rw [List.mem_singleton.1 hk]; exact decide_eq_true h
  rw [e]; rfl
theorem loopsTo_no {p : List Instr} {n : Nat} (h : ¬ (p.getD n default).op = 16) : loopsTo p (n + 1) = loopsTo p n := by
  simp only [loopsTo, List.range_succ, List.filter_append, List.map_append]
  have e : [n].filter (fun k => decide ((p.getD k default).op = 16)) = [] := List.filter_eq_nil_iff.2 fun k hk => by rw [List.mem_singleton.1 hk]; simpa using h
  rw [e]; simp
theorem loops_fn (p : List Instr) (hn : p.length ≤ 1000000) : Fn Try.prog 88 [.lst 5 (p.map eInstr)] (.lst 2 ((loopsL p).map eSpan)) := by
  refine fnb Try.func88 (entered_of (by kernel_rfl)) rfl rfl rfl ?_
  refine wlist 0 rfl (fun hall => ?_)
  have hall := instr_n hall
  repeat' (first | (show W _ _ _ _ _ _; first | apply kA | refine kB rfl ?_ | refine kC rfl rfl ?_ | refine kD rfl rfl ?_ | apply kE | apply kF | apply kG | apply kH | refine kI (by kernel_rfl) (by kernel_rfl) ?_) | (show O _ _ _ _ _ _ _; first | (show O _ _ _ _ (⟨_, .store _ _ _, _, _, _, _⟩ :: _) _ _; refine kJ rfl rfl rfl rfl rfl rfl rfl rfl rfl rfl rfl ?_) | apply kK) | apply kL | ((first | apply kM | apply kN); (iterate 3 (· exact rfl)); (· first | exact ya)) | refine kO rfl rfl rfl rfl rfl ?_ | refine kP rfl rfl rfl ?_ | ((first | refine kQ rfl rfl ?_ ?_ | refine kR rfl rfl rfl rfl rfl ?_ ?_ | refine kS rfl rfl rfl ?_ ?_) <;> intro hc <;> (try simp only [KL, cond_true, cond_false, beq_iff_eq, bne_iff_ne, ne_eq, reduceCtorEq] at hc) <;> (try (have hT : True := hc; clear hT hc)) <;> (try (exfalso; omega))) | apply kT | apply kU | apply kV | apply kW | refine kX rfl ?_ | apply kY | apply kZ)
  refine wturn (turn_own eSpan (t := 3) rfl 10 84 2 (by omega) rfl) ?_
  refine wloop (fun k : Nat => ([(3, .own 10), (6, .lst 5 (p.map eInstr)), (7, .int .i64 p.length), (8, .int .i64 k)], [(10, .row 84 2 ((loopsTo p k).map eSpan))])) (fun k => k ≤ p.length) (fun k => p.length - k) 0 (Nat.zero_le _) les leh (fun k hk => ?_)
  have hl := loopsTo_len p k
  have hx := hall k
  repeat' (first | (show W _ _ _ _ _ _; first | apply kA | refine kB rfl ?_ | refine kC rfl rfl ?_ | refine kD rfl rfl ?_ | apply kE | apply kF | apply kG | apply kH | refine kI (by kernel_rfl) (by kernel_rfl) ?_) | (show O _ _ _ _ _ _ _; first | (show O _ _ _ _ (⟨_, .alloc _, _, _, _, _⟩ :: _) _ _; first | refine ao_alloc (id := 12) rfl rfl rfl rfl rfl rfl rfl ?_) | (show O _ _ _ _ (⟨_, .store _ _ _, _, _, _, _⟩ :: _) _ _; refine kJ rfl rfl rfl rfl rfl rfl rfl rfl rfl rfl rfl ?_) | apply kK) | apply kL | ((first | apply kM | apply kN); (iterate 3 (· exact rfl)); (· first | exact ya)) | refine kO rfl rfl rfl rfl rfl ?_ | refine kP rfl rfl rfl ?_ | ((first | refine kQ rfl rfl ?_ ?_ | refine kR rfl rfl rfl rfl rfl ?_ ?_ | refine kS rfl rfl rfl ?_ ?_) <;> intro hc <;> (try simp only [KL, cond_true, cond_false, beq_iff_eq, bne_iff_ne, ne_eq, reduceCtorEq] at hc) <;> (try (have hT : True := hc; clear hT hc)) <;> (try (exfalso; omega))) | apply kT | apply kU | apply kV | apply kW | refine kX rfl ?_ | apply kY | apply kZ)
  · have e := loopsTo_yes hc
    (refine ao_ap (id := 10) (ys := [⟨(p.getD k default).n, k⟩]) (by_ := 16) rfl rfl rfl rfl rfl rfl rfl rfl rfl rfl (fun _ _ => rfl) ?_ ?_ rfl rfl rfl rfl rfl ?_; (· (first | omega | ((try simp only [List.length_cons, List.length_nil, List.length_append, List.length_map]) <;> omega))); (· (first | omega | ((try simp only [List.length_cons, List.length_nil, List.length_append, List.length_map]) <;> omega))))
    repeat' (first | (show W _ _ _ _ _ _; first | apply kA | refine kB rfl ?_ | refine kC rfl rfl ?_ | refine kD rfl rfl ?_ | apply kE | apply kF | apply kG | apply kH | refine kI (by kernel_rfl) (by kernel_rfl) ?_) | (show O _ _ _ _ _ _ _; first | (show O _ _ _ _ (⟨_, .store _ _ _, _, _, _, _⟩ :: _) _ _; refine kJ rfl rfl rfl rfl rfl rfl rfl rfl rfl rfl rfl ?_) | apply kK) | apply kL | ((first | apply kM | apply kN); (iterate 3 (· exact rfl)); (· first | exact ya)) | refine kO rfl rfl rfl rfl rfl ?_ | refine kP rfl rfl rfl ?_ | ((first | refine kQ rfl rfl ?_ ?_ | refine kR rfl rfl rfl rfl rfl ?_ ?_ | refine kS rfl rfl rfl ?_ ?_) <;> intro hc <;> (try simp only [KL, cond_true, cond_false, beq_iff_eq, bne_iff_ne, ne_eq, reduceCtorEq] at hc) <;> (try (have hT : True := hc; clear hT hc)) <;> (try (exfalso; omega))) | apply kT | apply kU | apply kV | apply kW | refine kX rfl ?_ | apply kY | apply kZ)
    exact ⟨k + 1, by omega, by omega, les, by simp only [e]; exact leh⟩
  · have e := loopsTo_no hc
    exact ⟨k + 1, by omega, by omega, les, by simp only [e]; exact leh⟩
  · obtain rfl : k = p.length := by omega
    refine retT (fun _ => turn_freeze (t := 2) rfl rfl rfl) ?_
    exact retq rfl rfl
end Go.Proofs.Ytffciebjpiljgaa
namespace Go.Proofs.Ytffciebjpiljgaa
set_option linter.unusedSimpArgs false
set_option linter.unusedVariables false
set_option maxRecDepth 100000
open Go.RowKit
def leadsX (x : Instr) (i n : Int) : Bool := if leadsI x then (if x.op = 16 then decide (x.n < i) else decide (i < x.n ∧ x.n < n)) else true
def leadsB (p : List Instr) (i : Nat) : Bool := leadsX (p.getD i default) i p.length
def jumpB (p : List Instr) (l : List Span) (i : Nat) : Bool := leadsI (p.getD i default) && ((p.getD i default).op != 16 && crossB l i (p.getD i default).n)
def formQ (p : List Instr) (i : Nat) : Bool := !rightI (p.getD i default)
def flowQ (p : List Instr) (i : Nat) : Bool := !leadsB p i
def loopQ (l : List Span) (k : Nat) : Bool := (l.take k).any (overB (l.getD k default))
/-- What Check says: the place, and the word. -/
def checkF (p : List Instr) : Int × Int :=
  if p.length = 0 ∨ 64 < p.length then (0, 1) else
  match fstN (formQ p) p.length with
  | some k => (k, 4)
  | none => match fstN (flowQ p) p.length with
    | some k => (k, 7)
    | none => match fstN (loopQ (loopsL p)) (loopsL p).length with
      | some k => (((loopsL p).getD k default).to, 8)
      | none => match fstN (jumpB p (loopsL p)) p.length with
        | some k => (k, 8)
        | none => if (p.getD (p.length - 1) default).op = 21 then (0, 0) else ((p.length : Int) - 1, 7)
theorem check_arg {p : List Instr} (h : p.length = 0 ∨ 64 < p.length) : checkF p = (0, 1) := by rw [checkF, if_pos h]
theorem check_form {p : List Instr} {k : Nat} (h : ¬ (p.length = 0 ∨ 64 < p.length)) (h1 : fstN (formQ p) p.length = some k) : checkF p = ((k : Int), 4) := by rw [checkF, if_neg h]; simp only [h1]
theorem check_flow {p : List Instr} {k : Nat} (h : ¬ (p.length = 0 ∨ 64 < p.length)) (h1 : fstN (formQ p) p.length = none) (h2 : fstN (flowQ p) p.length = some k) : checkF p = ((k : Int), 7) := by rw [checkF, if_neg h]; simp only [h1]; simp only [h2]
theorem check_loop {p : List Instr} {k : Nat} (h : ¬ (p.length = 0 ∨ 64 < p.length)) (h1 : fstN (formQ p) p.length = none) (h2 : fstN (flowQ p) p.length = none) (h3 : fstN (loopQ (loopsL p)) (loopsL p).length = some k) :
    checkF p = (((loopsL p).getD k default).to, 8) := by rw [checkF, if_neg h]; simp only [h1]; simp only [h2]; simp only [h3]
theorem check_jump {p : List Instr} {k : Nat} (h : ¬ (p.length = 0 ∨ 64 < p.length)) (h1 : fstN (formQ p) p.length = none) (h2 : fstN (flowQ p) p.length = none) (h3 : fstN (loopQ (loopsL p)) (loopsL p).length = none)
    (h4 : fstN (jumpB p (loopsL p)) p.length = some k) : checkF p = ((k : Int), 8) := by rw [checkF, if_neg h]; simp only [h1]; simp only [h2]; simp only [h3]; simp only [h4]
theorem check_end {p : List Instr} (h : ¬ (p.length = 0 ∨ 64 < p.length)) (h1 : fstN (formQ p) p.length = none) (h2 : fstN (flowQ p) p.length = none) (h3 : fstN (loopQ (loopsL p)) (loopsL p).length = none)
    (h4 : fstN (jumpB p (loopsL p)) p.length = none) : checkF p = if (p.getD (p.length - 1) default).op = 21 then (0, 0) else ((p.length : Int) - 1, 7) := by rw [checkF, if_neg h]; simp only [h1]; simp only [h2]; simp only [h3]; simp only [h4]

theorem tgt_yes {x : Instr} (h : leadsI x = true) : tgtI x = x.n := by rw [tgtI, if_pos h]
theorem leads_fn (p : List Instr) (i : Nat) (hi : i < p.length) (hn : p.length ≤ 1000000) : Fn Try.prog 105 [.lst 5 (p.map eInstr), .int .i64 i] (.bool (leadsB p i)) := by
  refine fnb Try.func105 (entered_of (by kernel_rfl)) rfl rfl rfl ?_
  refine wlist 0 rfl (fun hall => ?_)
  have hx := instr_n hall i
  cases hl : leadsI (p.getD i default)
  · have e : leadsB p i = true := by rw [leadsB, leadsX, hl]; rfl
    have ht := target_fn _ hx
    rw [hl] at ht
    rw [e]
    repeat' (first | (show W _ _ _ _ _ _; first | apply kA | refine kB rfl ?_ | refine kC rfl rfl ?_ | refine kD rfl rfl ?_ | apply kE | apply kF | apply kG | apply kH | refine kI (by kernel_rfl) (by kernel_rfl) ?_) | (show O _ _ _ _ _ _ _; first | (show O _ _ _ _ (⟨_, .store _ _ _, _, _, _, _⟩ :: _) _ _; refine kJ rfl rfl rfl rfl rfl rfl rfl rfl rfl rfl rfl ?_) | apply kK) | apply kL | ((first | apply kM | apply kN); (iterate 3 (· exact rfl)); (· first | (show Y _ ⟨_, .call ⟨.value _, _, _⟩, _, _, _, _⟩ _ _ _; first | exact q_c (ht) rfl) | exact ya)) | refine kO rfl rfl rfl rfl rfl ?_ | refine kP rfl rfl rfl ?_ | ((first | refine kQ rfl rfl ?_ ?_ | refine kR rfl rfl rfl rfl rfl ?_ ?_ | refine kS rfl rfl rfl ?_ ?_) <;> intro hc <;> (try simp only [KL, cond_true, cond_false, beq_iff_eq, bne_iff_ne, ne_eq, reduceCtorEq] at hc) <;> (try (have hT : True := hc; clear hT hc)) <;> (try (exfalso; omega))) | apply kT | apply kU | apply kV | apply kW | refine kX rfl ?_ | apply kY | apply kZ)
    exact retq rfl rfl
  · have e : leadsB p i = if (p.getD i default).op = 16 then decide ((p.getD i default).n < i) else decide ((i : Int) < (p.getD i default).n ∧ (p.getD i default).n < p.length) := by rw [leadsB, leadsX, hl]; rfl
    have ht := target_fn _ hx
    rw [hl, tgt_yes hl] at ht
    rw [e]
    repeat' (first | (show W _ _ _ _ _ _; first | apply kA | refine kB rfl ?_ | refine kC rfl rfl ?_ | refine kD rfl rfl ?_ | apply kE | apply kF | apply kG | apply kH | refine kI (by kernel_rfl) (by kernel_rfl) ?_) | (show O _ _ _ _ _ _ _; first | (show O _ _ _ _ (⟨_, .store _ _ _, _, _, _, _⟩ :: _) _ _; refine kJ rfl rfl rfl rfl rfl rfl rfl rfl rfl rfl rfl ?_) | apply kK) | apply kL | ((first | apply kM | apply kN); (iterate 3 (· exact rfl)); (· first | (show Y _ ⟨_, .call ⟨.value _, _, _⟩, _, _, _, _⟩ _ _ _; first | exact q_c (ht) rfl) | exact ya)) | refine kO rfl rfl rfl rfl rfl ?_ | refine kP rfl rfl rfl ?_ | ((first | refine kQ rfl rfl ?_ ?_ | refine kR rfl rfl rfl rfl rfl ?_ ?_ | refine kS rfl rfl rfl ?_ ?_) <;> intro hc <;> (try simp only [KL, cond_true, cond_false, beq_iff_eq, bne_iff_ne, ne_eq, reduceCtorEq] at hc) <;> (try (have hT : True := hc; clear hT hc)) <;> (try (exfalso; omega))) | apply kT | apply kU | apply kV | apply kW | refine kX rfl ?_ | apply kY | apply kZ)
    all_goals first | (rw [if_pos (by assumption)]; exact retq rfl rfl) | (rw [if_neg (by assumption)]; exact retq rfl (congrArg AV.bool (by rw [Bool.eq_iff_iff]; (try simp only [cond_true, cond_false, decide_eq_true_eq, Bool.not_eq_true', decide_eq_false_iff_not, Bool.and_eq_true, Bool.or_eq_true, true_iff, false_iff, iff_true, iff_false, Bool.false_eq_true, Bool.not_true, Bool.not_false, reduceCtorEq]); (first | done | omega | (constructor <;> intros <;> omega)))))
theorem ck1_fn (p : List Instr) (i : Nat) (hi : i < p.length) : Fn Try.prog 102 [.int .i64 i, .ref [.lst 5 (p.map eInstr)]] (.bool (formQ p i)) := by
  refine fnb Try.func102 (entered_of (by kernel_rfl)) rfl rfl rfl ?_
  repeat' (first | (show W _ _ _ _ _ _; first | apply kA | refine kB rfl ?_ | refine kC rfl rfl ?_ | refine kD rfl rfl ?_ | apply kE | apply kF | apply kG | apply kH | refine kI (by kernel_rfl) (by kernel_rfl) ?_) | (show O _ _ _ _ _ _ _; first | (show O _ _ _ _ (⟨_, .store _ _ _, _, _, _, _⟩ :: _) _ _; refine kJ rfl rfl rfl rfl rfl rfl rfl rfl rfl rfl rfl ?_) | apply kK) | apply kL | ((first | apply kM | apply kN); (iterate 3 (· exact rfl)); (· first | (show Y _ ⟨_, .call ⟨.value _, _, _⟩, _, _, _, _⟩ _ _ _; first | exact q_c (right_fn _) rfl) | exact ya)) | refine kO rfl rfl rfl rfl rfl ?_ | refine kP rfl rfl rfl ?_ | ((first | refine kQ rfl rfl ?_ ?_ | refine kR rfl rfl rfl rfl rfl ?_ ?_ | refine kS rfl rfl rfl ?_ ?_) <;> intro hc <;> (try simp only [KL, cond_true, cond_false, beq_iff_eq, bne_iff_ne, ne_eq, reduceCtorEq] at hc) <;> (try (have hT : True := hc; clear hT hc)) <;> (try (exfalso; omega))) | apply kT | apply kU | apply kV | apply kW | refine kX rfl ?_ | apply kY | apply kZ)
  exact retq rfl rfl
theorem ck2_fn (p : List Instr) (i : Nat) (hi : i < p.length) (hn : p.length ≤ 1000000) : Fn Try.prog 104 [.int .i64 i, .ref [.lst 5 (p.map eInstr)]] (.bool (flowQ p i)) := by
  refine fnb Try.func104 (entered_of (by kernel_rfl)) rfl rfl rfl ?_
  repeat' (first | (show W _ _ _ _ _ _; first | apply kA | refine kB rfl ?_ | refine kC rfl rfl ?_ | refine kD rfl rfl ?_ | apply kE | apply kF | apply kG | apply kH | refine kI (by kernel_rfl) (by kernel_rfl) ?_) | (show O _ _ _ _ _ _ _; first | (show O _ _ _ _ (⟨_, .store _ _ _, _, _, _, _⟩ :: _) _ _; refine kJ rfl rfl rfl rfl rfl rfl rfl rfl rfl rfl rfl ?_) | apply kK) | apply kL | ((first | apply kM | apply kN); (iterate 3 (· exact rfl)); (· first | (show Y _ ⟨_, .call ⟨.value _, _, _⟩, _, _, _, _⟩ _ _ _; first | exact q_c (leads_fn p i hi hn) rfl) | exact ya)) | refine kO rfl rfl rfl rfl rfl ?_ | refine kP rfl rfl rfl ?_ | ((first | refine kQ rfl rfl ?_ ?_ | refine kR rfl rfl rfl rfl rfl ?_ ?_ | refine kS rfl rfl rfl ?_ ?_) <;> intro hc <;> (try simp only [KL, cond_true, cond_false, beq_iff_eq, bne_iff_ne, ne_eq, reduceCtorEq] at hc) <;> (try (have hT : True := hc; clear hT hc)) <;> (try (exfalso; omega))) | apply kT | apply kU | apply kV | apply kW | refine kX rfl ?_ | apply kY | apply kZ)
  exact retq rfl rfl
theorem ck3_fn (s a : Span) : Fn Try.prog 107 [.agg (eSpan a), .ref (eSpan s)] (.bool (overB s a)) := by
  refine fnb Try.func107 (entered_of (by kernel_rfl)) rfl rfl rfl ?_
  repeat' (first | (show W _ _ _ _ _ _; first | apply kA | refine kB rfl ?_ | refine kC rfl rfl ?_ | refine kD rfl rfl ?_ | apply kE | apply kF | apply kG | apply kH | refine kI (by kernel_rfl) (by kernel_rfl) ?_) | (show O _ _ _ _ _ _ _; first | (show O _ _ _ _ (⟨_, .store _ _ _, _, _, _, _⟩ :: _) _ _; refine kJ rfl rfl rfl rfl rfl rfl rfl rfl rfl rfl rfl ?_) | apply kK) | apply kL | ((first | apply kM | apply kN); (iterate 3 (· exact rfl)); (· first | (show Y _ ⟨_, .call ⟨.value _, _, _⟩, _, _, _, _⟩ _ _ _; first | exact q_c (overlaps_fn _ _) rfl) | exact ya)) | refine kO rfl rfl rfl rfl rfl ?_ | refine kP rfl rfl rfl ?_ | ((first | refine kQ rfl rfl ?_ ?_ | refine kR rfl rfl rfl rfl rfl ?_ ?_ | refine kS rfl rfl rfl ?_ ?_) <;> intro hc <;> (try simp only [KL, cond_true, cond_false, beq_iff_eq, bne_iff_ne, ne_eq, reduceCtorEq] at hc) <;> (try (have hT : True := hc; clear hT hc)) <;> (try (exfalso; omega))) | apply kT | apply kU | apply kV | apply kW | refine kX rfl ?_ | apply kY | apply kZ)
  exact retq rfl rfl
theorem ck4_fn (p : List Instr) (l : List Span) (i : Nat) (hi : i < p.length) (hn : p.length ≤ 1000000) (hl : l.length ≤ 1000000) (hx : 0 ≤ (p.getD i default).n ∧ (p.getD i default).n ≤ 4294967295) :
    Fn Try.prog 109 [.int .i64 i, .ref [.lst 5 (p.map eInstr)], .ref [.lst 2 (l.map eSpan)]] (.bool (jumpB p l i)) := by
  refine fnb Try.func109 (entered_of (by kernel_rfl)) rfl rfl rfl ?_
  have ht := target_fn _ hx
  cases hq : leadsI (p.getD i default)
  · rw [hq] at ht
    have e : jumpB p l i = false := by rw [jumpB, hq]; rfl
    rw [e]
    repeat' (first | (show W _ _ _ _ _ _; first | apply kA | refine kB rfl ?_ | refine kC rfl rfl ?_ | refine kD rfl rfl ?_ | apply kE | apply kF | apply kG | apply kH | refine kI (by kernel_rfl) (by kernel_rfl) ?_) | (show O _ _ _ _ _ _ _; first | (show O _ _ _ _ (⟨_, .store _ _ _, _, _, _, _⟩ :: _) _ _; refine kJ rfl rfl rfl rfl rfl rfl rfl rfl rfl rfl rfl ?_) | apply kK) | apply kL | ((first | apply kM | apply kN); (iterate 3 (· exact rfl)); (· first | (show Y _ ⟨_, .call ⟨.value _, _, _⟩, _, _, _, _⟩ _ _ _; first | exact q_c (ht) rfl | exact q_c (crosses_fn _ _ _ hl) rfl) | exact ya)) | refine kO rfl rfl rfl rfl rfl ?_ | refine kP rfl rfl rfl ?_ | ((first | refine kQ rfl rfl ?_ ?_ | refine kR rfl rfl rfl rfl rfl ?_ ?_ | refine kS rfl rfl rfl ?_ ?_) <;> intro hc <;> (try simp only [KL, cond_true, cond_false, beq_iff_eq, bne_iff_ne, ne_eq, reduceCtorEq] at hc) <;> (try (have hT : True := hc; clear hT hc)) <;> (try (exfalso; omega))) | apply kT | apply kU | apply kV | apply kW | refine kX rfl ?_ | apply kY | apply kZ)
    exact retq rfl rfl
  · rw [hq, tgt_yes hq] at ht
    have e : jumpB p l i = ((p.getD i default).op != 16 && crossB l i (p.getD i default).n) := by rw [jumpB, hq]; rfl
    rw [e]
    repeat' (first | (show W _ _ _ _ _ _; first | apply kA | refine kB rfl ?_ | refine kC rfl rfl ?_ | refine kD rfl rfl ?_ | apply kE | apply kF | apply kG | apply kH | refine kI (by kernel_rfl) (by kernel_rfl) ?_) | (show O _ _ _ _ _ _ _; first | (show O _ _ _ _ (⟨_, .store _ _ _, _, _, _, _⟩ :: _) _ _; refine kJ rfl rfl rfl rfl rfl rfl rfl rfl rfl rfl rfl ?_) | apply kK) | apply kL | ((first | apply kM | apply kN); (iterate 3 (· exact rfl)); (· first | (show Y _ ⟨_, .call ⟨.value _, _, _⟩, _, _, _, _⟩ _ _ _; first | exact q_c (ht) rfl | exact q_c (crosses_fn _ _ _ hl) rfl) | exact ya)) | refine kO rfl rfl rfl rfl rfl ?_ | refine kP rfl rfl rfl ?_ | ((first | refine kQ rfl rfl ?_ ?_ | refine kR rfl rfl rfl rfl rfl ?_ ?_ | refine kS rfl rfl rfl ?_ ?_) <;> intro hc <;> (try simp only [KL, cond_true, cond_false, beq_iff_eq, bne_iff_ne, ne_eq, reduceCtorEq] at hc) <;> (try (have hT : True := hc; clear hT hc)) <;> (try (exfalso; omega))) | apply kT | apply kU | apply kV | apply kW | refine kX rfl ?_ | apply kY | apply kZ)
    all_goals first | (have e2 : ((p.getD i default).op != 16) = false := by (rw [bne_eq_false_iff_eq]; assumption)); rw [e2]; exact retq rfl rfl | (have e2 : ((p.getD i default).op != 16) = true := by (rw [bne_iff_ne]; assumption)); rw [e2]; exact retq rfl rfl
theorem check_fn (p : List Instr) (hn : p.length ≤ 1000000) : Fn Try.prog 76 [.lst 5 (p.map eInstr)] (.tup [.int .i64 (checkF p).1, .int .i64 (checkF p).2]) := by
  by_cases h0 : p.length = 0 ∨ 64 < p.length
  · rw [check_arg h0]
    refine fnb Try.func76 (entered_of (by kernel_rfl)) rfl rfl rfl ?_
    repeat' (first | (show W _ _ _ _ _ _; first | apply kA | refine kB rfl ?_ | refine kC rfl rfl ?_ | refine kD rfl rfl ?_ | apply kE | apply kF | apply kG | apply kH | refine kI (by kernel_rfl) (by kernel_rfl) ?_) | (show O _ _ _ _ _ _ _; first | (show O _ _ _ _ (⟨_, .store _ _ _, _, _, _, _⟩ :: _) _ _; refine kJ rfl rfl rfl rfl rfl rfl rfl rfl rfl rfl rfl ?_) | apply kK) | apply kL | ((first | apply kM | apply kN); (iterate 3 (· exact rfl)); (· first | exact ya)) | refine kO rfl rfl rfl rfl rfl ?_ | refine kP rfl rfl rfl ?_ | ((first | refine kQ rfl rfl ?_ ?_ | refine kR rfl rfl rfl rfl rfl ?_ ?_ | refine kS rfl rfl rfl ?_ ?_) <;> intro hc <;> (try simp only [KL, cond_true, cond_false, beq_iff_eq, bne_iff_ne, ne_eq, reduceCtorEq] at hc) <;> (try (have hT : True := hc; clear hT hc)) <;> (try (exfalso; omega))) | apply kT | apply kU | apply kV | apply kW | refine kX rfl ?_ | apply kY | apply kZ)
    all_goals first | (exfalso; omega) | exact retq rfl rfl
  refine fnb Try.func76 (entered_of (by kernel_rfl)) rfl rfl rfl ?_
  refine wlist 0 rfl (fun hall => ?_)
  have hall := instr_n hall
  have c1 := first_fn p 102 [.ref [.lst 5 (p.map eInstr)]] (formQ p) (fun i hi => ck1_fn p i hi) hn
  have c2 := first_fn p 104 [.ref [.lst 5 (p.map eInstr)]] (flowQ p) (fun i hi => ck2_fn p i hi hn) hn
  cases hq1 : fstN (formQ p) p.length
  case some k =>
    rw [check_form h0 hq1]
    rw [hq1] at c1
    repeat' (first | (show W _ _ _ _ _ _; first | apply kA | refine kB rfl ?_ | refine kC rfl rfl ?_ | refine kD rfl rfl ?_ | apply kE | apply kF | apply kG | apply kH | refine kI (by kernel_rfl) (by kernel_rfl) ?_) | (show O _ _ _ _ _ _ _; first | (show O _ _ _ _ (⟨_, .store _ _ _, _, _, _, _⟩ :: _) _ _; refine kJ rfl rfl rfl rfl rfl rfl rfl rfl rfl rfl rfl ?_) | apply kK) | apply kL | ((first | apply kM | apply kN); (iterate 3 (· exact rfl)); (· first | (show Y _ ⟨_, .call ⟨.value _, _, _⟩, _, _, _, _⟩ _ _ _; first | exact q_c (c1) rfl) | exact ya)) | refine kO rfl rfl rfl rfl rfl ?_ | refine kP rfl rfl rfl ?_ | ((first | refine kQ rfl rfl ?_ ?_ | refine kR rfl rfl rfl rfl rfl ?_ ?_ | refine kS rfl rfl rfl ?_ ?_) <;> intro hc <;> (try simp only [KL, cond_true, cond_false, beq_iff_eq, bne_iff_ne, ne_eq, reduceCtorEq] at hc) <;> (try (have hT : True := hc; clear hT hc)) <;> (try (exfalso; omega))) | apply kT | apply kU | apply kV | apply kW | refine kX rfl ?_ | apply kY | apply kZ)
    all_goals first | (exfalso; omega) | exact retq rfl rfl
  rw [hq1] at c1
  cases hq2 : fstN (flowQ p) p.length
  case some k =>
    rw [check_flow h0 hq1 hq2]
    rw [hq2] at c2
    repeat' (first | (show W _ _ _ _ _ _; first | apply kA | refine kB rfl ?_ | refine kC rfl rfl ?_ | refine kD rfl rfl ?_ | apply kE | apply kF | apply kG | apply kH | refine kI (by kernel_rfl) (by kernel_rfl) ?_) | (show O _ _ _ _ _ _ _; first | (show O _ _ _ _ (⟨_, .store _ _ _, _, _, _, _⟩ :: _) _ _; refine kJ rfl rfl rfl rfl rfl rfl rfl rfl rfl rfl rfl ?_) | apply kK) | apply kL | ((first | apply kM | apply kN); (iterate 3 (· exact rfl)); (· first | (show Y _ ⟨_, .call ⟨.value _, _, _⟩, _, _, _, _⟩ _ _ _; first | exact q_c (c1) rfl | exact q_c (c2) rfl) | exact ya)) | refine kO rfl rfl rfl rfl rfl ?_ | refine kP rfl rfl rfl ?_ | ((first | refine kQ rfl rfl ?_ ?_ | refine kR rfl rfl rfl rfl rfl ?_ ?_ | refine kS rfl rfl rfl ?_ ?_) <;> intro hc <;> (try simp only [KL, cond_true, cond_false, beq_iff_eq, bne_iff_ne, ne_eq, reduceCtorEq] at hc) <;> (try (have hT : True := hc; clear hT hc)) <;> (try (exfalso; omega))) | apply kT | apply kU | apply kV | apply kW | refine kX rfl ?_ | apply kY | apply kZ)
    all_goals first | (exfalso; omega) | exact retq rfl rfl
  rw [hq2] at c2
  have hll : (loopsL p).length ≤ p.length := loopsTo_len p p.length
  have hloop := fun k => check_loop (k := k) h0 hq1 hq2
  have hjump := fun h3 k => check_jump (k := k) h0 hq1 hq2 h3
  have hend := check_end h0 hq1 hq2
  have c3 := loops_fn p hn
  have c4 := fun i hi => ck4_fn p (loopsL p) i hi hn (by omega) (hall i)
  generalize loopsL p = l at *
  repeat' (first | (show W _ _ _ _ _ _; first | apply kA | refine kB rfl ?_ | refine kC rfl rfl ?_ | refine kD rfl rfl ?_ | apply kE | apply kF | apply kG | apply kH | refine kI (by kernel_rfl) (by kernel_rfl) ?_) | (show O _ _ _ _ _ _ _; first | (show O _ _ _ _ (⟨_, .alloc _, _, _, _, _⟩ :: _) _ _; first | refine ao_alloc (id := 12) rfl rfl rfl rfl rfl rfl rfl ?_ | refine ao_alloc (id := 13) rfl rfl rfl rfl rfl rfl rfl ?_) | (show O _ _ _ _ (⟨_, .store _ _ _, _, _, _, _⟩ :: _) _ _; refine kJ rfl rfl rfl rfl rfl rfl rfl rfl rfl rfl rfl ?_) | apply kK) | apply kL | ((first | apply kM | apply kN); (iterate 3 (· exact rfl)); (· first | (show Y _ ⟨_, .call ⟨.value _, _, _⟩, _, _, _, _⟩ _ _ _; first | exact q_c (c1) rfl | exact q_c (c2) rfl | exact q_c (c3) rfl) | exact ya)) | refine kO rfl rfl rfl rfl rfl ?_ | refine kP rfl rfl rfl ?_ | ((first | refine kQ rfl rfl ?_ ?_ | refine kR rfl rfl rfl rfl rfl ?_ ?_ | refine kS rfl rfl rfl ?_ ?_) <;> intro hc <;> (try simp only [KL, cond_true, cond_false, beq_iff_eq, bne_iff_ne, ne_eq, reduceCtorEq] at hc) <;> (try (have hT : True := hc; clear hT hc)) <;> (try (exfalso; omega))) | apply kT | apply kU | apply kV | apply kW | refine kX rfl ?_ | apply kY | apply kZ)
  all_goals first | (exfalso; omega) | skip
  refine wloop (fun k : Nat => ([(1, .ref [.lst 5 (p.map eInstr)]), (8, .ptr 12 0), (41, .lst 2 (l.map eSpan)), (42, .int .i64 l.length), (43, .int .i64 k)], [(12, .blk _ [.lst 2 (l.map eSpan)])])) (fun k => k ≤ l.length ∧ ∀ j, j < k → loopQ l j = false) (fun k => l.length - k) 0 ⟨Nat.zero_le _, fun j h => absurd h (Nat.not_lt_zero j)⟩ les leh (fun k hx => ?_)
  obtain ⟨hk, hq⟩ := hx
  have c5 := conSpan_fn (l.take k) 107 [.ref (eSpan (l.getD k default))] (overB (l.getD k default)) (fun a => ck3_fn _ a) (by rw [List.length_take]; omega)
  rw [← loopQ] at c5
  rcases Nat.lt_or_ge k l.length with hlt | hge
  · repeat' (first | (show W _ _ _ _ _ _; first | apply kA | refine kB rfl ?_ | refine kC rfl rfl ?_ | refine kD rfl rfl ?_ | apply kE | apply kF | apply kG | apply kH | refine kI (by kernel_rfl) (by kernel_rfl) ?_) | (show O _ _ _ _ _ _ _; first | (show O _ _ _ _ (⟨_, .alloc _, _, _, _, _⟩ :: _) _ _; first | refine ao_alloc (id := 13) rfl rfl rfl rfl rfl rfl rfl ?_) | (show O _ _ _ _ (⟨_, .makeFunc _ _ _, _, _, _, _⟩ :: _) _ _; first | refine oturn (turn_freezeB (t := 10) rfl rfl rfl rfl) ?_) | (show O _ _ _ _ (⟨_, .store _ _ _, _, _, _, _⟩ :: _) _ _; refine kJ rfl rfl rfl rfl rfl rfl rfl rfl rfl rfl rfl ?_) | apply kK) | apply kL | ((first | apply kM | apply kN); (iterate 3 (· exact rfl)); (· first | (show Y _ ⟨_, .call ⟨.value _, _, _⟩, _, _, _, _⟩ _ _ _; first | exact q_c (c5) rfl) | exact ya)) | refine kO rfl rfl rfl rfl rfl ?_ | refine kP rfl rfl rfl ?_ | ((first | refine kQ rfl rfl ?_ ?_ | refine kR rfl rfl rfl rfl rfl ?_ ?_ | refine kS rfl rfl rfl ?_ ?_) <;> intro hc <;> (try simp only [KL, cond_true, cond_false, beq_iff_eq, bne_iff_ne, ne_eq, reduceCtorEq] at hc) <;> (try (have hT : True := hc; clear hT hc)) <;> (try (exfalso; omega))) | apply kT | apply kU | apply kV | apply kW | refine kX rfl ?_ | apply kY | apply kZ)
    · rw [hloop k (fstN_some (by omega) hc hq)]; exact retq rfl rfl
    · exact ⟨k + 1, ⟨by omega, fun j hj => by rcases Nat.lt_succ_iff_lt_or_eq.1 hj with h | rfl; exact hq j h; exact hc⟩, by omega, les, leh⟩
  obtain rfl : k = l.length := by omega
  have hno := fstN_none hq
  have c6 := first_fn p 109 [.ref [.lst 5 (p.map eInstr)], .ref [.lst 2 (l.map eSpan)]] (jumpB p l) c4 hn
  cases hq4 : fstN (jumpB p l) p.length
  case some j =>
    rw [hjump hno j hq4]
    rw [hq4] at c6
    repeat' (first | (show W _ _ _ _ _ _; first | apply kA | refine kB rfl ?_ | refine kC rfl rfl ?_ | refine kD rfl rfl ?_ | apply kE | apply kF | apply kG | apply kH | refine kI (by kernel_rfl) (by kernel_rfl) ?_) | (show O _ _ _ _ _ _ _; first | (show O _ _ _ _ (⟨_, .makeFunc _ _ _, _, _, _, _⟩ :: _) _ _; first | refine oturn (turn_freezeB (t := 8) rfl rfl rfl rfl) ?_) | (show O _ _ _ _ (⟨_, .store _ _ _, _, _, _, _⟩ :: _) _ _; refine kJ rfl rfl rfl rfl rfl rfl rfl rfl rfl rfl rfl ?_) | apply kK) | apply kL | ((first | apply kM | apply kN); (iterate 3 (· exact rfl)); (· first | (show Y _ ⟨_, .call ⟨.value _, _, _⟩, _, _, _, _⟩ _ _ _; first | exact q_c (c6) rfl) | exact ya)) | refine kO rfl rfl rfl rfl rfl ?_ | refine kP rfl rfl rfl ?_ | ((first | refine kQ rfl rfl ?_ ?_ | refine kR rfl rfl rfl rfl rfl ?_ ?_ | refine kS rfl rfl rfl ?_ ?_) <;> intro hc <;> (try simp only [KL, cond_true, cond_false, beq_iff_eq, bne_iff_ne, ne_eq, reduceCtorEq] at hc) <;> (try (have hT : True := hc; clear hT hc)) <;> (try (exfalso; omega))) | apply kT | apply kU | apply kV | apply kW | refine kX rfl ?_ | apply kY | apply kZ)
    all_goals first | (exfalso; omega) | exact retq rfl rfl
  rw [hend hno hq4]
  rw [hq4] at c6
  have hlast : ((p.length : Int) - 1).toNat = p.length - 1 := by omega
  repeat' (first | (show W _ _ _ _ _ _; first | apply kA | refine kB rfl ?_ | refine kC rfl rfl ?_ | refine kD rfl rfl ?_ | apply kE | apply kF | apply kG | apply kH | refine kI (by kernel_rfl) (by kernel_rfl) ?_) | (show O _ _ _ _ _ _ _; first | (show O _ _ _ _ (⟨_, .makeFunc _ _ _, _, _, _, _⟩ :: _) _ _; first | refine oturn (turn_freezeB (t := 8) rfl rfl rfl rfl) ?_) | (show O _ _ _ _ (⟨_, .store _ _ _, _, _, _, _⟩ :: _) _ _; refine kJ rfl rfl rfl rfl rfl rfl rfl rfl rfl rfl rfl ?_) | apply kK) | apply kL | ((first | apply kM | apply kN); (iterate 3 (· exact rfl)); (· first | (show Y _ ⟨_, .call ⟨.value _, _, _⟩, _, _, _, _⟩ _ _ _; first | exact q_c (c6) rfl) | exact ya)) | refine kO rfl rfl rfl rfl rfl ?_ | refine kP rfl rfl rfl ?_ | ((first | refine kQ rfl rfl ?_ ?_ | refine kR rfl rfl rfl rfl rfl ?_ ?_ | refine kS rfl rfl rfl ?_ ?_) <;> intro hc <;> (try simp only [KL, cond_true, cond_false, beq_iff_eq, bne_iff_ne, ne_eq, reduceCtorEq] at hc) <;> (try (have hT : True := hc; clear hT hc)) <;> (try (exfalso; omega))) | apply kT | apply kU | apply kV | apply kW | refine kX rfl ?_ | apply kY | apply kZ)
  · rw [hlast] at hc; rw [if_neg hc]; exact retq rfl rfl
  · rw [hlast] at hc; rw [if_pos hc]; exact retq rfl rfl
end Go.Proofs.Ytffciebjpiljgaa
namespace Go.Proofs.Ytffciebjpiljgaa
set_option linter.unusedSimpArgs false
set_option linter.unusedVariables false
set_option maxRecDepth 100000
open Go.RowKit
def cntN (q : Nat → Bool) (n : Nat) : Nat := (List.range n).countP q
def bothQ (a b : Span) (i : Nat) : Bool := hasB a i && hasB b i
def justQ (a b : Span) (i : Nat) : Bool := hasB a i && !hasB b i
def otherQ (a b : Span) (i : Nat) : Bool := !hasB a i && hasB b i
end Go.Proofs.Ytffciebjpiljgaa
namespace Go.Proofs.Ytffciebjpiljgaa
set_option linter.unusedSimpArgs false
set_option linter.unusedVariables false
set_option maxRecDepth 100000
open Go.RowKit
end Go.Proofs.Ytffciebjpiljgaa
