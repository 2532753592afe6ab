/- Are tasks few, and their programs short? No condition. -/
import Derived.Test.YtkkmageogkkchaaGreatT6
import Derived.Test.YtkkmageogkkchaaGreatT10
import Derived.Test.YtkkmageogkkchaaGreatT7
import Derived.Test.YtkkmageogkkchaaGreatT9
import Derived.Test.YtkkmageogkkchaaGreatT8
set_option linter.unusedSimpArgs false
set_option linter.unusedVariables false
set_option maxHeartbeats 1000000
namespace Go.Proofs.YtkkmageogkkchaaGreat
set_option maxRecDepth 100000
set_option maxRecDepth 100000
open Go.RowKit
def fewQ (l : List Task) (m : Int) : Bool := decide ((l.length : Int) ≤ m) && l.all fun t => decide (t.code.length ≤ 200)
theorem few_fn (l : List Task) (m : Int) (hm : m ≤ 1000000) : Fn Tryz.prog 49 [.lst 7 (l.map eTask), .int .i64 m] (.bool (fewQ l m)) := by
  refine fnb Tryz.func49 (entered_of (by kernel_rfl)) rfl rfl rfl ?_
  by_cases hlm : (l.length : Int) ≤ m
  · repeat' (first | refine sA ?_ | ((first | apply kM | apply kN); (iterate 3 (· exact rfl)); (· first | exact ya)) | refine sG ?_ | (refine sK ?_ ?_ <;> intro hc <;> (try simp only [KL, sL, reduceCtorEq] at hc) <;> (try (exfalso; omega))))
    all_goals first | (exfalso; omega) | skip
    refine wloop (fun k : Nat => ([(11, .lst 7 (l.map eTask)), (12, .int .i64 l.length), (13, .int .i64 k)], [])) (fun k => k ≤ l.length ∧ ∀ j, j < k → (l.getD j default).code.length ≤ 200) (fun k => l.length - k) 0 ⟨Nat.zero_le _, fun j h => absurd h (Nat.not_lt_zero _)⟩ les leh (fun k hk => ?_)
    obtain ⟨hk, hp⟩ := hk
    repeat' (first | refine sA ?_ | (show O _ _ _ _ _ _ _; first | refine ao_alloc (id := 16) rfl rfl rfl rfl rfl rfl rfl ?_) | ((first | apply kM | apply kN); (iterate 3 (· exact rfl)); (· first | exact ya)) | refine sG ?_ | (refine sK ?_ ?_ <;> intro hc <;> (try simp only [KL, sL, reduceCtorEq] at hc) <;> (try (exfalso; omega))))
    · refine retq rfl (congrArg AV.bool ?_)
      symm
      rw [fewQ, Bool.and_eq_false_iff]
      refine .inr (List.all_eq_false.2 ⟨l.getD k default, getD_mem (by omega), ?_⟩)
      simp only [decide_eq_true_eq]; omega
    · exact ⟨k + 1, ⟨by omega, fun j hj => by
        by_cases e : j = k
        · subst e; omega
        · exact hp j (by omega)⟩, by omega, les, leh⟩
    · obtain rfl : k = l.length := by omega
      refine retq rfl (congrArg AV.bool ?_)
      symm
      rw [fewQ, Bool.and_eq_true]
      refine ⟨decide_eq_true hlm, List.all_eq_true.2 fun t ht => ?_⟩
      obtain ⟨j, hj, rfl⟩ := List.getElem_of_mem ht
      have := hp j hj
      simpa [hj] using this
  · repeat' (first | refine sA ?_ | ((first | apply kM | apply kN); (iterate 3 (· exact rfl)); (· first | exact ya)) | refine sG ?_ | (refine sK ?_ ?_ <;> intro hc <;> (try simp only [KL, sL, reduceCtorEq] at hc) <;> (try (exfalso; omega))))
    all_goals first | (exfalso; omega) | skip
    exact retq rfl (congrArg AV.bool (by rw [fewQ, decide_eq_false hlm]; rfl))
end Go.Proofs.YtkkmageogkkchaaGreat
namespace Go.Proofs.YtkkmageogkkchaaGreat
set_option maxRecDepth 100000
set_option maxRecDepth 100000
open Go.RowKit
def LeV0 (x y : AV) : Prop := ∀ σ v, VR0 σ x v → VR0 σ y v
theorem LeV0.refl (x : AV) : LeV0 x x := fun _ _ h => h
theorem LeV0.nils (sz : Nat) : LeV0 .nils (.lst sz []) := fun σ v h => by
  cases h; exact .empty sz none 0 (by simp)
theorem LeV0.lst {sz : Nat} {xs ys : List (List AV)} (hl : xs.map (·.length) = ys.map (·.length)) (h : L2 LeV0 xs.flatten ys.flatten) : LeV0 (.lst sz xs) (.lst sz ys) := fun σ v h0 => by
  have hlen : xs.length = ys.length := by have := congrArg List.length hl; simpa using this
  cases h0 with
  | empty _ A cap hc =>
    have : ys = [] := List.eq_nil_of_length_eq_zero (by rw [← hlen]; rfl)
    subst this
    exact .empty sz A cap hc
  | lst _ _ b off cap g h1 h2 h3 h4 h5 =>
    rw [hlen] at h1 ⊢
    have hx : ∀ (j : Nat) (c : AV), ys.flatten[j]? = some c → ∃ c', xs.flatten[j]? = some c' ∧ LeV0 c' c := fun j c hc => by
      have hj : j < xs.flatten.length := by rw [h.1]; exact (List.getElem?_eq_some_iff.1 hc).1
      exact ⟨_, List.getElem?_eq_getElem hj, h.2 j _ c (List.getElem?_eq_getElem hj) hc⟩
    refine .lst sz ys b off cap g h1 h2 (fun c hc => ?_) (fun j c hc => ?_) (fun j c hc => ?_)
    · obtain ⟨i, hi, rfl⟩ := List.getElem_of_mem hc
      have e : (xs.map (·.length))[i]? = (ys.map (·.length))[i]? := by rw [hl]
      have hi' : i < xs.length := by omega
      simp [hi, hi'] at e
      rw [← e]; exact h3 _ (List.getElem_mem hi')
    · obtain ⟨c', e1, _⟩ := hx j c hc
      exact h4 j c' e1
    · obtain ⟨c', e1, e2⟩ := hx j c hc
      exact e2 _ _ (h5 j c' e1)
def flatLst : AV → Bool
  | .lst _ _ | .nils => true
  | _ => false
end Go.Proofs.YtkkmageogkkchaaGreat
namespace Go.Proofs.YtkkmageogkkchaaGreat
set_option maxRecDepth 100000
open Go.RowKit
theorem within_fn (n low high : Int) : Fn Tryz.prog 134 [.int .i64 n, .int .i64 low, .int .i64 high] (.bool (decide (low ≤ n ∧ n ≤ high))) := by
  refine fnb Tryz.func134 (entered_of (by kernel_rfl)) rfl rfl rfl ?_
  repeat' (first | refine sA ?_ | ((first | apply kM | apply kN); (iterate 3 (· exact rfl)); (· first | exact ya)) | refine sG ?_ | (refine sK ?_ ?_ <;> intro hc <;> (try simp only [KL, sL, reduceCtorEq] at hc) <;> (try (exfalso; omega))))
  all_goals exact retq rfl (congrArg AV.bool (by rw [Bool.eq_iff_iff]; (try simp only [cond_true, cond_false, decide_eq_true_eq, Bool.not_eq_true', decide_eq_false_iff_not, Bool.and_eq_true, Bool.or_eq_true, true_iff, false_iff, iff_true, iff_false, Bool.false_eq_true, Bool.not_true, Bool.not_false, reduceCtorEq]); (first | done | omega | (constructor <;> intros <;> omega))))
def plainB (t : Task) : Bool := decide ((t.kind = 1 ∨ t.kind = 2 ∧ t.offset = 0) ∧ (0 ≤ t.prio ∧ t.prio ≤ 255) ∧ (1 ≤ t.period ∧ t.period ≤ 1048576) ∧ (0 ≤ t.offset ∧ t.offset ≤ 1048576) ∧ (1 ≤ t.deadline ∧ t.deadline ≤ t.period) ∧ (1 ≤ t.own ∧ t.own ≤ 64))
theorem plain_fn (t : Task) : Fn Tryz.prog 177 [.agg (eTask t)] (.bool (plainB t)) := by
  refine fnb Tryz.func177 (entered_of (by kernel_rfl)) rfl rfl rfl ?_
  repeat' (first | refine sA ?_ | ((first | apply kM | apply kN); (iterate 3 (· exact rfl)); (· first | exact ya | exact q_c (within_fn _ _ _) rfl)) | refine sG ?_ | (refine sK ?_ ?_ <;> intro hc <;> (try simp only [KL, sL, reduceCtorEq] at hc) <;> (try (exfalso; omega))))
  all_goals exact retq rfl (congrArg AV.bool (by rw [Bool.eq_iff_iff]; (try simp only [plainB, cond_true, cond_false, decide_eq_true_eq, Bool.not_eq_true', decide_eq_false_iff_not, Bool.and_eq_true, Bool.or_eq_true, true_iff, false_iff, iff_true, iff_false, Bool.false_eq_true, Bool.not_true, Bool.not_false, reduceCtorEq]); (first | done | omega | (constructor <;> intros <;> omega))))
set_option maxHeartbeats 4000000 in
theorem rplain_fn (t : Task) : Fn Tryz.prog 153 [.agg (eTask t)] (.bool (plainB t)) := by
  refine fnb Tryz.func153 (entered_of (by kernel_rfl)) rfl rfl rfl ?_
  repeat' (first | refine sA ?_ | ((first | apply kM | apply kN); (iterate 3 (· exact rfl)); (· first | exact ya)) | refine sG ?_ | (refine sK ?_ ?_ <;> intro hc <;> (try simp only [KL, sL, reduceCtorEq] at hc) <;> (try (exfalso; omega))))
  all_goals exact retq rfl (congrArg AV.bool (by rw [Bool.eq_iff_iff]; (try simp only [plainB, cond_true, cond_false, decide_eq_true_eq, Bool.not_eq_true', decide_eq_false_iff_not, Bool.and_eq_true, Bool.or_eq_true, true_iff, false_iff, iff_true, iff_false, Bool.false_eq_true, Bool.not_true, Bool.not_false, reduceCtorEq]); (first | done | omega | (constructor <;> intros <;> omega))))
end Go.Proofs.YtkkmageogkkchaaGreat
namespace Go.Proofs.YtkkmageogkkchaaGreat
set_option maxRecDepth 100000
open Go.RowKit
def fineB (p : List Instr) : Bool := decide ((checkF p).2 = 0)
def loopsF (p : List Instr) : List Span := if fineB p = true then loopsL p else []
theorem fine_fn (p : List Instr) (hn : p.length ≤ 1000000) : Fn Tryz.prog 209 [.lst 5 (p.map eInstr)] (.bool (fineB p)) := by
  refine fnb Tryz.func209 (entered_of (by kernel_rfl)) rfl rfl rfl ?_
  repeat' (first | refine sA ?_ | ((first | apply kM | apply kN); (iterate 3 (· exact rfl)); (· first | exact ya | exact q_c (check_fn p hn) rfl)) | refine sG ?_ | (refine sK ?_ ?_ <;> intro hc <;> (try simp only [KL, sL, reduceCtorEq] at hc) <;> (try (exfalso; omega))))
  all_goals exact retq rfl (congrArg AV.bool (by rw [Bool.eq_iff_iff]; (try simp only [fineB, cond_true, cond_false, decide_eq_true_eq, Bool.not_eq_true', decide_eq_false_iff_not, Bool.and_eq_true, Bool.or_eq_true, true_iff, false_iff, iff_true, iff_false, Bool.false_eq_true, Bool.not_true, Bool.not_false, reduceCtorEq]); (first | done | omega | (constructor <;> intros <;> omega))))
theorem Loops_fn (p : List Instr) (hn : p.length ≤ 1000000) : Fn Tryz.prog 182 [.lst 5 (p.map eInstr)] (.lst 2 ((loopsF p).map eSpan)) := by
  have c1 := fine_fn p hn
  cases h : fineB p <;> rw [h] at c1
  · rw [loopsF, h]
    refine fnb Tryz.func182 (entered_of (by kernel_rfl)) rfl rfl rfl ?_
    repeat' (first | refine sA ?_ | ((first | apply kM | apply kN); (iterate 3 (· exact rfl)); (· first | exact ya | exact q_c (c1) rfl)) | refine sG ?_ | (refine sK ?_ ?_ <;> intro hc <;> (try simp only [KL, sL, reduceCtorEq] at hc) <;> (try (exfalso; omega))))
    refine retT (fun _ => turn_nil 2 (t := 2) rfl) ?_
    exact retq rfl rfl
  · rw [loopsF, h]
    refine fnb Tryz.func182 (entered_of (by kernel_rfl)) rfl rfl rfl ?_
    repeat' (first | refine sA ?_ | ((first | apply kM | apply kN); (iterate 3 (· exact rfl)); (· first | exact ya | exact q_c (c1) rfl | exact q_c (loops_fn p hn) rfl)) | refine sG ?_ | (refine sK ?_ ?_ <;> intro hc <;> (try simp only [KL, sL, reduceCtorEq] at hc) <;> (try (exfalso; omega))))
    exact retq rfl rfl
end Go.Proofs.YtkkmageogkkchaaGreat
namespace Go.Proofs.YtkkmageogkkchaaGreat
set_option maxRecDepth 100000
open Go.RowKit
theorem fst_none {q : Nat → Bool} {n : Nat} (h : fstN q n = none) : ∀ j, j < n → q j = false := by
  rw [fstN, List.find?_range_eq_none] at h
  exact fun j hj => by have := h j hj; simpa using this
end Go.Proofs.YtkkmageogkkchaaGreat
namespace Go.Proofs.YtkkmageogkkchaaGreat
set_option maxRecDepth 100000
open Go.RowKit
def arndL (p : List Instr) (pc : Int) : List Span := (loopsF p).filter fun s => hasB s pc
def innV (p : List Instr) (pc : Int) : Span := (arndL p pc).getD 0 ⟨0, 0⟩
def innB (p : List Instr) (pc : Int) : Bool := !(arndL p pc).isEmpty
def nextL (p : List Instr) (pc : Nat) : List Int :=
  if (p.getD pc default).op = 21 then [] else if (p.getD pc default).op = 14 then [tgtI (p.getD pc default)] else
  if leadsI (p.getD pc default) = false ∨ tgtI (p.getD pc default) = (pc : Int) + 1 then [(pc : Int) + 1] else
  [min (tgtI (p.getD pc default)) ((pc : Int) + 1), max (tgtI (p.getD pc default)) ((pc : Int) + 1)]
def nextF (p : List Instr) (pc : Int) : List Int := if fineB p = true ∧ 0 ≤ pc ∧ pc < p.length then nextL p pc.toNat else []
theorem next_fn (p : List Instr) (pc : Nat) (hpc : pc < p.length) (hn : p.length ≤ 1000000) : Fn Tryz.prog 238 [.lst 5 (p.map eInstr), .int .i64 pc] (.lst 1 ((nextL p pc).map eI)) := by
  refine fnb Tryz.func238 (entered_of (by kernel_rfl)) rfl rfl rfl ?_
  refine wlist 0 rfl (fun hall => ?_)
  have hall := instr_n hall pc
  have c1 := target_fn (p.getD pc default) hall
  generalize hto : tgtI (p.getD pc default) = to at *
  by_cases h1 : (p.getD pc default).op = 21
  · rw [nextL, if_pos h1]
    repeat' (first | refine sA ?_ | ((first | apply kM | apply kN); (iterate 3 (· exact rfl)); (· first | exact ya | exact q_c (c1) rfl)) | refine sG ?_ | (refine sK ?_ ?_ <;> intro hc <;> (try simp only [KL, sL, reduceCtorEq] at hc) <;> (try (exfalso; omega))))
    all_goals first | (exfalso; omega) | skip
    refine retT (fun _ => turn_nil 1 (t := 4) rfl) ?_
    exact retq rfl rfl
  rw [nextL, if_neg h1]
  by_cases h2 : (p.getD pc default).op = 14
  · rw [if_pos h2, hto]
    repeat' (first | refine sA ?_ | ((first | apply kM | apply kN); (iterate 3 (· exact rfl)); (· first | exact ya | exact q_c (c1) rfl)) | refine sG ?_ | (refine sK ?_ ?_ <;> intro hc <;> (try simp only [KL, sL, reduceCtorEq] at hc) <;> (try (exfalso; omega))))
    all_goals first | (exfalso; omega) | exact retq rfl rfl
  rw [if_neg h2, hto]
  cases h3 : leadsI (p.getD pc default) <;> rw [h3] at c1
  · rw [if_pos (.inl rfl)]
    repeat' (first | refine sA ?_ | ((first | apply kM | apply kN); (iterate 3 (· exact rfl)); (· first | exact ya | exact q_c (c1) rfl)) | refine sG ?_ | (refine sK ?_ ?_ <;> intro hc <;> (try simp only [KL, sL, reduceCtorEq] at hc) <;> (try (exfalso; omega))))
    all_goals first | (exfalso; omega) | exact retq rfl rfl
  · by_cases h4 : to = (pc : Int) + 1
    · rw [if_pos (.inr h4)]
      repeat' (first | refine sA ?_ | ((first | apply kM | apply kN); (iterate 3 (· exact rfl)); (· first | exact ya | exact q_c (c1) rfl)) | refine sG ?_ | (refine sK ?_ ?_ <;> intro hc <;> (try simp only [KL, sL, reduceCtorEq] at hc) <;> (try (exfalso; omega))))
      all_goals first | (exfalso; omega) | exact retq rfl rfl
    · rw [if_neg (by simp [h4])]
      repeat' (first | refine sA ?_ | ((first | apply kM | apply kN); (iterate 3 (· exact rfl)); (· first | exact ya | exact q_c (c1) rfl)) | refine sG ?_ | (refine sK ?_ ?_ <;> intro hc <;> (try simp only [KL, sL, reduceCtorEq] at hc) <;> (try (exfalso; omega))))
      all_goals first | (exfalso; omega) | exact retq rfl rfl
theorem Next_fn (p : List Instr) (pc : Int) (hn : p.length ≤ 1000000) : Fn Tryz.prog 229 [.lst 5 (p.map eInstr), .int .i64 pc] (.lst 1 ((nextF p pc).map eI)) := by
  have c1 := fine_fn p hn
  by_cases h : fineB p = true ∧ 0 ≤ pc ∧ pc < p.length
  · rw [nextF, if_pos h]
    obtain ⟨h1, h2, h3⟩ := h
    obtain ⟨k, rfl⟩ : ∃ k : Nat, pc = k := ⟨pc.toNat, by omega⟩
    rw [Int.toNat_natCast]
    rw [h1] at c1
    refine fnb Tryz.func229 (entered_of (by kernel_rfl)) rfl rfl rfl ?_
    repeat' (first | refine sA ?_ | ((first | apply kM | apply kN); (iterate 3 (· exact rfl)); (· first | exact ya | exact q_c (c1) rfl | exact q_c (next_fn p k (by omega) hn) rfl)) | refine sG ?_ | (refine sK ?_ ?_ <;> intro hc <;> (try simp only [KL, sL, reduceCtorEq] at hc) <;> (try (exfalso; omega))))
    all_goals first | (exfalso; omega) | exact retq rfl rfl
  · rw [nextF, if_neg h]
    refine fnb Tryz.func229 (entered_of (by kernel_rfl)) rfl rfl rfl ?_
    cases h1 : fineB p <;> rw [h1] at c1
    · repeat' (first | refine sA ?_ | ((first | apply kM | apply kN); (iterate 3 (· exact rfl)); (· first | exact ya | exact q_c (c1) rfl)) | refine sG ?_ | (refine sK ?_ ?_ <;> intro hc <;> (try simp only [KL, sL, reduceCtorEq] at hc) <;> (try (exfalso; omega))))
      all_goals first | (exfalso; omega) | skip
      all_goals refine retT (fun _ => turn_nil 1 (t := 4) rfl) ?_
      all_goals exact retq rfl rfl
    · have h' : ¬ (0 ≤ pc ∧ pc < p.length) := fun q => h ⟨h1, q⟩
      repeat' (first | refine sA ?_ | ((first | apply kM | apply kN); (iterate 3 (· exact rfl)); (· first | exact ya | exact q_c (c1) rfl)) | refine sG ?_ | (refine sK ?_ ?_ <;> intro hc <;> (try simp only [KL, sL, reduceCtorEq] at hc) <;> (try (exfalso; omega))))
      all_goals first | (exfalso; omega) | skip
      all_goals refine retT (fun _ => turn_nil 1 (t := 4) rfl) ?_
      all_goals exact retq rfl rfl
end Go.Proofs.YtkkmageogkkchaaGreat
namespace Go.Proofs.YtkkmageogkkchaaGreat
set_option maxRecDepth 100000
open Go.RowKit
def ex10 : List Instr := [⟨0, 0, 0, 0, 0⟩, ⟨16, 0, 0, 3, 0⟩, ⟨21, 0, 0, 0, 0⟩]
end Go.Proofs.YtkkmageogkkchaaGreat
namespace Go.Proofs.YtkkmageogkkchaaGreat
set_option maxRecDepth 100000
open Go.RowKit
end Go.Proofs.YtkkmageogkkchaaGreat
namespace Go.Proofs.YtkkmageogkkchaaGreat
set_option maxRecDepth 100000
open Go.RowKit
def faultF (t : Task) : Int × Int := if plainB t = true then (if (checkF t.code).2 = 0 then (-1, 0) else checkF t.code) else (-1, 1)
theorem fault_fn (t : Task) (hn : t.code.length ≤ 1000000) : Fn Tryz.prog 155 [.agg (eTask t)] (.tup [.int .i64 (faultF t).1, .int .i64 (faultF t).2]) := by
  have c1 := plain_fn t
  have c2 := check_fn t.code hn
  rw [faultF]
  generalize checkF t.code = r at *
  obtain ⟨r1, r2⟩ := r
  refine fnb Tryz.func155 (entered_of (by kernel_rfl)) rfl rfl rfl ?_
  cases h : plainB t <;> rw [h] at c1
  · repeat' (first | refine sA ?_ | ((first | apply kM | apply kN); (iterate 3 (· exact rfl)); (· first | exact ya | exact q_c (c1) rfl)) | refine sG ?_ | (refine sK ?_ ?_ <;> intro hc <;> (try simp only [KL, sL, reduceCtorEq] at hc) <;> (try (exfalso; omega))))
    exact retq rfl rfl
  · by_cases h2 : r2 = 0
    · rw [if_pos rfl, if_pos h2]
      repeat' (first | refine sA ?_ | ((first | apply kM | apply kN); (iterate 3 (· exact rfl)); (· first | exact ya | exact q_c (c1) rfl | exact q_c (c2) rfl)) | refine sG ?_ | (refine sK ?_ ?_ <;> intro hc <;> (try simp only [KL, sL, reduceCtorEq] at hc) <;> (try (exfalso; omega))))
      all_goals first | (exfalso; omega) | exact retq rfl (by rw [h2])
    · rw [if_pos rfl, if_neg h2]
      repeat' (first | refine sA ?_ | ((first | apply kM | apply kN); (iterate 3 (· exact rfl)); (· first | exact ya | exact q_c (c1) rfl | exact q_c (c2) rfl)) | refine sG ?_ | (refine sK ?_ ?_ <;> intro hc <;> (try simp only [KL, sL, reduceCtorEq] at hc) <;> (try (exfalso; omega))))
      all_goals first | (exfalso; omega) | exact retq rfl rfl
theorem rfault_fn (t : Task) (hn : t.code.length ≤ 1000000) : Fn Tryz.prog 117 [.agg (eTask t)] (.tup [.int .i64 (faultF t).1, .int .i64 (faultF t).2]) := by
  have c1 := rplain_fn t
  have c2 := rcheck_fn t.code hn
  rw [faultF]
  generalize checkF t.code = r at *
  obtain ⟨r1, r2⟩ := r
  refine fnb Tryz.func117 (entered_of (by kernel_rfl)) rfl rfl rfl ?_
  cases h : plainB t <;> rw [h] at c1
  · repeat' (first | refine sA ?_ | ((first | apply kM | apply kN); (iterate 3 (· exact rfl)); (· first | exact ya | exact q_c (c1) rfl)) | refine sG ?_ | (refine sK ?_ ?_ <;> intro hc <;> (try simp only [KL, sL, reduceCtorEq] at hc) <;> (try (exfalso; omega))))
    exact retq rfl rfl
  · by_cases h2 : r2 = 0
    · rw [if_pos rfl, if_pos h2]
      repeat' (first | refine sA ?_ | ((first | apply kM | apply kN); (iterate 3 (· exact rfl)); (· first | exact ya | exact q_c (c1) rfl | exact q_c (c2) rfl)) | refine sG ?_ | (refine sK ?_ ?_ <;> intro hc <;> (try simp only [KL, sL, reduceCtorEq] at hc) <;> (try (exfalso; omega))))
      all_goals first | (exfalso; omega) | exact retq rfl (by simp only [h2])
    · rw [if_pos rfl, if_neg h2]
      repeat' (first | refine sA ?_ | ((first | apply kM | apply kN); (iterate 3 (· exact rfl)); (· first | exact ya | exact q_c (c1) rfl | exact q_c (c2) rfl)) | refine sG ?_ | (refine sK ?_ ?_ <;> intro hc <;> (try simp only [KL, sL, reduceCtorEq] at hc) <;> (try (exfalso; omega))))
      all_goals first | (exfalso; omega) | exact retq rfl rfl
end Go.Proofs.YtkkmageogkkchaaGreat
namespace Go.Proofs.YtkkmageogkkchaaGreat
set_option maxRecDepth 100000
set_option maxRecDepth 100000
open Go.RowKit
def prioAt (l : List Task) (i : Int) : Int := (l.getD i.toNat default).prio
def aheadB (l : List Task) (a b : Int) : Bool :=
  decide (0 ≤ a ∧ a < l.length ∧ 0 ≤ b ∧ b < l.length) && (decide (prioAt l b < prioAt l a) || (prioAt l a == prioAt l b && decide (a < b)))
def aboveTo (l : List Task) (i : Int) (n : Nat) : List Int := ((List.range n).filter fun k : Nat => aheadB l (k : Int) i).map fun k : Nat => (k : Int)
theorem aboveTo_len (l : List Task) (i : Int) (n : Nat) : (aboveTo l i n).length ≤ n := by
  unfold aboveTo; rw [List.length_map]; exact Nat.le_trans (List.length_filter_le _ _) (by simp)
theorem aboveTo_yes {l : List Task} {i : Int} {n : Nat} (h : aheadB l n i = true) : aboveTo l i (n + 1) = aboveTo l i n ++ [(n : Int)] := by simp [aboveTo, List.range_succ, h]
theorem aboveTo_no {l : List Task} {i : Int} {n : Nat} (h : aheadB l n i = false) : aboveTo l i (n + 1) = aboveTo l i n := by simp [aboveTo, List.range_succ, h]
def aboveL (l : List Task) (i : Int) : List Int := aboveTo l i l.length

theorem ahead_lt {l : List Task} {a b : Int} : aheadB l a b = true ↔ (0 ≤ a ∧ a < l.length ∧ 0 ≤ b ∧ b < l.length) ∧ (prioAt l b < prioAt l a ∨ prioAt l a = prioAt l b ∧ a < b) := by
  simp [aheadB]
theorem ahead_fn (l : List Task) (a b : Int) (hn : l.length ≤ 1000000) : Fn Tryz.prog 98 [.lst 7 (l.map eTask), .int .i64 a, .int .i64 b] (.bool (aheadB l a b)) := by
  refine fnb Tryz.func98 (entered_of (by kernel_rfl)) rfl rfl rfl ?_
  repeat' (first | refine sA ?_ | ((first | apply kM | apply kN); (iterate 3 (· exact rfl)); (· first | exact ya | exact q_c (within_fn _ _ _) rfl)) | refine sG ?_ | (refine sK ?_ ?_ <;> intro hc <;> (try simp only [KL, sL, reduceCtorEq] at hc) <;> (try (exfalso; omega))))
  all_goals exact retq rfl (congrArg AV.bool (by rw [Bool.eq_iff_iff]; (try simp only [ahead_lt, prioAt, cond_true, cond_false, decide_eq_true_eq, Bool.not_eq_true', decide_eq_false_iff_not, Bool.and_eq_true, Bool.or_eq_true, true_iff, false_iff, iff_true, iff_false, Bool.false_eq_true, Bool.not_true, Bool.not_false, reduceCtorEq]); (first | done | omega | (constructor <;> intros <;> omega))))
theorem rahead_fn (l : List Task) (a b : Int) (hn : l.length ≤ 1000000) : Fn Tryz.prog 60 [.lst 7 (l.map eTask), .int .i64 a, .int .i64 b] (.bool (aheadB l a b)) := by
  refine fnb Tryz.func60 (entered_of (by kernel_rfl)) rfl rfl rfl ?_
  repeat' (first | refine sA ?_ | ((first | apply kM | apply kN); (iterate 3 (· exact rfl)); (· first | exact ya)) | refine sG ?_ | (refine sK ?_ ?_ <;> intro hc <;> (try simp only [KL, sL, reduceCtorEq] at hc) <;> (try (exfalso; omega))))
  all_goals exact retq rfl (congrArg AV.bool (by rw [Bool.eq_iff_iff]; (try simp only [ahead_lt, prioAt, cond_true, cond_false, decide_eq_true_eq, Bool.not_eq_true', decide_eq_false_iff_not, Bool.and_eq_true, Bool.or_eq_true, true_iff, false_iff, iff_true, iff_false, Bool.false_eq_true, Bool.not_true, Bool.not_false, reduceCtorEq]); (first | done | omega | (constructor <;> intros <;> omega))))
theorem above_fn (l : List Task) (i : Int) (hn : l.length ≤ 1000000) : Fn Tryz.prog 73 [.lst 7 (l.map eTask), .int .i64 i] (.lst 1 ((aboveL l i).map eI)) := by
  refine fnb Tryz.func73 (entered_of (by kernel_rfl)) rfl rfl rfl ?_
  repeat' (first | refine sA ?_ | ((first | apply kM | apply kN); (iterate 3 (· exact rfl)); (· first | exact ya)) | refine sG ?_ | (refine sK ?_ ?_ <;> intro hc <;> (try simp only [KL, sL, reduceCtorEq] at hc) <;> (try (exfalso; omega))))
  refine wturn (turn_own eI (t := 5) rfl 10 3 1 (by omega) rfl) ?_
  refine wloop (fun k : Nat => ([(0, .lst 7 (l.map eTask)), (1, .int .i64 i), (5, .own 10), (8, .int .i64 l.length), (9, .int .i64 k)], [(10, .row 3 1 ((aboveTo l i k).map eI))])) (fun k => k ≤ l.length) (fun k => l.length - k) 0 (Nat.zero_le _) les leh (fun k hk => ?_)
  have hl := aboveTo_len l i k
  have c1 := ahead_fn l (k : Int) i hn
  cases hb : aheadB l (k : Int) i <;> rw [hb] at c1
  · have e := aboveTo_no hb
    repeat' (first | refine sA ?_ | ((first | apply kM | apply kN); (iterate 3 (· exact rfl)); (· first | exact ya | exact q_c (c1) rfl)) | refine sG ?_ | (refine sK ?_ ?_ <;> intro hc <;> (try simp only [KL, sL, reduceCtorEq] at hc) <;> (try (exfalso; omega))))
    · exact ⟨k + 1, by omega, by omega, les, by simp only [e]; exact leh⟩
    · obtain rfl : k = l.length := by omega
      refine retT (fun _ => turn_freeze (t := 4) rfl rfl rfl) ?_
      exact retq rfl rfl
  · have e := aboveTo_yes hb
    repeat' (first | refine sA ?_ | ((first | apply kM | apply kN); (iterate 3 (· exact rfl)); (· first | exact ya | exact q_c (c1) rfl)) | refine sG ?_ | (refine sK ?_ ?_ <;> intro hc <;> (try simp only [KL, sL, reduceCtorEq] at hc) <;> (try (exfalso; omega))))
    · (refine ao_ap (id := 10) (ys := [(k : Int)]) (by_ := 8) rfl rfl rfl rfl rfl rfl rfl rfl rfl rfl (fun _ _ => rfl) ?_ ?_ rfl rfl rfl rfl rfl ?_; (· (first | omega | ((try simp only [List.length_cons, List.length_nil, List.length_append, List.length_map]) <;> omega))); (· (first | omega | ((try simp only [List.length_cons, List.length_nil, List.length_append, List.length_map]) <;> omega))))
      repeat' (first | refine sA ?_ | ((first | apply kM | apply kN); (iterate 3 (· exact rfl)); (· first | exact ya)) | refine sG ?_ | (refine sK ?_ ?_ <;> intro hc <;> (try simp only [KL, sL, reduceCtorEq] at hc) <;> (try (exfalso; omega))))
      exact ⟨k + 1, by omega, by omega, les, by simp only [e]; exact leh⟩
    · obtain rfl : k = l.length := by omega
      refine retT (fun _ => turn_freeze (t := 4) rfl rfl rfl) ?_
      exact retq rfl rfl
theorem rabove_fn (l : List Task) (i : Int) (hn : l.length ≤ 1000000) : Fn Tryz.prog 78 [.lst 7 (l.map eTask), .int .i64 i] (.lst 1 ((aboveL l i).map eI)) := by
  refine fnb Tryz.func78 (entered_of (by kernel_rfl)) rfl rfl rfl ?_
  repeat' (first | refine sA ?_ | ((first | apply kM | apply kN); (iterate 3 (· exact rfl)); (· first | exact ya)) | refine sG ?_ | (refine sK ?_ ?_ <;> intro hc <;> (try simp only [KL, sL, reduceCtorEq] at hc) <;> (try (exfalso; omega))))
  refine wturn (turn_own eI (t := 5) rfl 10 3 1 (by omega) rfl) ?_
  refine wloop (fun k : Nat => ([(0, .lst 7 (l.map eTask)), (1, .int .i64 i), (5, .own 10), (8, .int .i64 l.length), (9, .int .i64 k)], [(10, .row 3 1 ((aboveTo l i k).map eI))])) (fun k => k ≤ l.length) (fun k => l.length - k) 0 (Nat.zero_le _) les leh (fun k hk => ?_)
  have hl := aboveTo_len l i k
  have c1 := rahead_fn l (k : Int) i hn
  cases hb : aheadB l (k : Int) i <;> rw [hb] at c1
  · have e := aboveTo_no hb
    repeat' (first | refine sA ?_ | ((first | apply kM | apply kN); (iterate 3 (· exact rfl)); (· first | exact ya | exact q_c (c1) rfl)) | refine sG ?_ | (refine sK ?_ ?_ <;> intro hc <;> (try simp only [KL, sL, reduceCtorEq] at hc) <;> (try (exfalso; omega))))
    · exact ⟨k + 1, by omega, by omega, les, by simp only [e]; exact leh⟩
    · obtain rfl : k = l.length := by omega
      refine retT (fun _ => turn_freeze (t := 4) rfl rfl rfl) ?_
      exact retq rfl rfl
  · have e := aboveTo_yes hb
    repeat' (first | refine sA ?_ | ((first | apply kM | apply kN); (iterate 3 (· exact rfl)); (· first | exact ya | exact q_c (c1) rfl)) | refine sG ?_ | (refine sK ?_ ?_ <;> intro hc <;> (try simp only [KL, sL, reduceCtorEq] at hc) <;> (try (exfalso; omega))))
    · (refine ao_ap (id := 10) (ys := [(k : Int)]) (by_ := 8) rfl rfl rfl rfl rfl rfl rfl rfl rfl rfl (fun _ _ => rfl) ?_ ?_ rfl rfl rfl rfl rfl ?_; (· (first | omega | ((try simp only [List.length_cons, List.length_nil, List.length_append, List.length_map]) <;> omega))); (· (first | omega | ((try simp only [List.length_cons, List.length_nil, List.length_append, List.length_map]) <;> omega))))
      repeat' (first | refine sA ?_ | ((first | apply kM | apply kN); (iterate 3 (· exact rfl)); (· first | exact ya)) | refine sG ?_ | (refine sK ?_ ?_ <;> intro hc <;> (try simp only [KL, sL, reduceCtorEq] at hc) <;> (try (exfalso; omega))))
      exact ⟨k + 1, by omega, by omega, les, by simp only [e]; exact leh⟩
    · obtain rfl : k = l.length := by omega
      refine retT (fun _ => turn_freeze (t := 4) rfl rfl rfl) ?_
      exact retq rfl rfl
end Go.Proofs.YtkkmageogkkchaaGreat
namespace Go.Proofs.YtkkmageogkkchaaGreat
set_option maxRecDepth 100000
set_option maxRecDepth 100000
open Go.RowKit
def callsI (x : Instr) : Int := if rightI x = true ∧ 17 ≤ x.op ∧ x.op ≤ 20 then x.op - 16 else 0
theorem calls_b {x : Instr} (h : 0 < callsI x) : rightI x = true ∧ 17 ≤ x.op ∧ x.op ≤ 20 ∧ callsI x = x.op - 16 ∧ 0 ≤ x.b ∧ x.b ≤ 7 ∧ x.n ≤ 63 := by
  unfold callsI at h ⊢
  split at h
  · rename_i h1
    obtain ⟨h2, h3, h4⟩ := h1
    refine ⟨h2, h3, h4, by rw [if_pos ⟨h2, h3, h4⟩], ?_⟩
    have h5 : x.op = 17 ∨ x.op = 18 ∨ x.op = 19 ∨ x.op = 20 := by omega
    rcases h5 with h5 | h5 | h5 | h5
    all_goals
      rw [rightI, h5] at h2
      simp [kindsOf, kindsN, fitsB] at h2
      omega
  · omega
theorem calls_fn (x : Instr) : Fn Tryz.prog 136 [.agg (eInstr x)] (.tup [.int .i64 (if 0 < callsI x then x.b else 0), .int .i64 (callsI x), .bool (decide (0 < callsI x))]) := by
  have c1 := right_fn x
  by_cases h : rightI x = true ∧ 17 ≤ x.op ∧ x.op ≤ 20
  · have e : callsI x = x.op - 16 := by rw [callsI, if_pos h]
    rw [e, if_pos (by omega), decide_eq_true (by omega)]
    rw [h.1] at c1
    refine fnb Tryz.func136 (entered_of (by kernel_rfl)) rfl rfl rfl ?_
    repeat' (first | refine sA ?_ | ((first | apply kM | apply kN); (iterate 3 (· exact rfl)); (· first | exact ya | exact q_c (c1) rfl)) | refine sG ?_ | (refine sK ?_ ?_ <;> intro hc <;> (try simp only [KL, sL, reduceCtorEq] at hc) <;> (try (exfalso; omega))))
    all_goals first | (exfalso; omega) | exact retq rfl (congrArg (fun z => AV.tup [.int .i64 x.b, .int .i64 z, .bool true]) (by omega))
  · have e : callsI x = 0 := by rw [callsI, if_neg h]
    rw [e, if_neg (by omega), decide_eq_false (by omega)]
    by_cases h1 : rightI x = true
    · rw [h1] at c1
      have h2 : ¬ (17 ≤ x.op ∧ x.op ≤ 20) := fun e => h ⟨h1, e⟩
      refine fnb Tryz.func136 (entered_of (by kernel_rfl)) rfl rfl rfl ?_
      repeat' (first | refine sA ?_ | ((first | apply kM | apply kN); (iterate 3 (· exact rfl)); (· first | exact ya | exact q_c (c1) rfl)) | refine sG ?_ | (refine sK ?_ ?_ <;> intro hc <;> (try simp only [KL, sL, reduceCtorEq] at hc) <;> (try (exfalso; omega))))
      all_goals first | (exfalso; omega) | exact retq rfl rfl
    · rw [Bool.not_eq_true] at h1
      rw [h1] at c1
      refine fnb Tryz.func136 (entered_of (by kernel_rfl)) rfl rfl rfl ?_
      repeat' (first | refine sA ?_ | ((first | apply kM | apply kN); (iterate 3 (· exact rfl)); (· first | exact ya | exact q_c (c1) rfl)) | refine sG ?_ | (refine sK ?_ ?_ <;> intro hc <;> (try simp only [KL, sL, reduceCtorEq] at hc) <;> (try (exfalso; omega))))
      all_goals first | (exfalso; omega) | exact retq rfl rfl
theorem rcalls_fn (op : Int) : Fn Tryz.prog 119 [.int .i64 op] (.int .i64 (if 17 ≤ op ∧ op ≤ 20 then op - 16 else 0)) := by
  by_cases h : 17 ≤ op ∧ op ≤ 20
  · rw [if_pos h]
    refine fnb Tryz.func119 (entered_of (by kernel_rfl)) rfl rfl rfl ?_
    repeat' (first | refine sA ?_ | ((first | apply kM | apply kN); (iterate 3 (· exact rfl)); (· first | exact ya)) | refine sG ?_ | (refine sK ?_ ?_ <;> intro hc <;> (try simp only [KL, sL, reduceCtorEq] at hc) <;> (try (exfalso; omega))))
    all_goals first | (exfalso; omega) | exact retq rfl (congrArg (AV.int .i64) (by omega))
  · rw [if_neg h]
    refine fnb Tryz.func119 (entered_of (by kernel_rfl)) rfl rfl rfl ?_
    repeat' (first | refine sA ?_ | ((first | apply kM | apply kN); (iterate 3 (· exact rfl)); (· first | exact ya)) | refine sG ?_ | (refine sK ?_ ?_ <;> intro hc <;> (try simp only [KL, sL, reduceCtorEq] at hc) <;> (try (exfalso; omega))))
    all_goals first | (exfalso; omega) | exact retq rfl rfl
theorem VR0.lst_at {σ : Sig} {sz : Nat} {xs : List (List AV)} {v : Value} (h : VR0 σ (.lst sz xs) v) {c : AV} (hc : c ∈ xs.flatten) : ∃ u, VR0 σ c u := by
  cases h with
  | empty => simp at hc
  | lst _ _ b off cap g h1 h2 h3 h4 h5 =>
    obtain ⟨j, hj⟩ := List.getElem?_of_mem hc
    exact ⟨_, h5 j c hj⟩
def SysR (S : System) : Prop := (∀ j i : Nat, 0 ≤ ((S.tasks.getD j default).code.getD i default).n) ∧ ∀ k : Nat, (S.objects.getD k default).slots ≤ 9223372036854775807
theorem sys_words {σ : Sig} {ι : Nat → Value} {S : System} {v : Value} (hv : VR σ ι (.agg (eSystem S)) v) : SysR S := by
  obtain ⟨vs, _, h2⟩ := hv.agg_inv
  refine ⟨?_, fun k => ?_⟩
  case refine_2 =>
    obtain ⟨u, _, hu⟩ := h2.get (j := 1) (x := .lst 8 (S.objects.map eObject)) rfl
    have hu0 : VR0 σ (.lst 8 (S.objects.map eObject)) u := by cases hu; assumption
    by_cases hk : k < S.objects.length
    · obtain ⟨u1, h3⟩ := hu0.lst_at (c := .int .i64 (S.objects.getD k default).slots) (List.mem_flatten.2 ⟨eObject (S.objects.getD k default), List.mem_map_of_mem (getD_mem hk), by simp [eObject]⟩)
      have := (VR.base (ι := ι) _ _ h3).int_inv.2
      simp only [rangeP] at this
      omega
    · rw [List.getD_eq_getElem?_getD, List.getElem?_eq_none (by omega)]; decide
  obtain ⟨u, _, hu⟩ := h2.get (j := 0) (x := .lst 7 (S.tasks.map eTask)) rfl
  have hu0 : VR0 σ (.lst 7 (S.tasks.map eTask)) u := by cases hu; assumption
  intro j i
  by_cases hj : j < S.tasks.length
  · by_cases hi : i < (S.tasks.getD j default).code.length
    · obtain ⟨u1, h3⟩ := hu0.lst_at (c := .lst 5 ((S.tasks.getD j default).code.map eInstr)) (List.mem_flatten.2 ⟨eTask (S.tasks.getD j default), List.mem_map_of_mem (getD_mem hj), by simp [eTask]⟩)
      obtain ⟨u2, h4⟩ := h3.lst_at (c := .int .u32 ((S.tasks.getD j default).code.getD i default).n) (List.mem_flatten.2 ⟨eInstr ((S.tasks.getD j default).code.getD i default), List.mem_map_of_mem (getD_mem hi), by simp [eInstr]⟩)
      have := (VR.base (ι := ι) _ _ h4).int_inv.2
      simp only [rangeP] at this
      omega
    · rw [List.getD_eq_getElem?_getD (l := (S.tasks.getD j default).code), List.getElem?_eq_none (by omega)]; decide
  · rw [List.getD_eq_getElem?_getD (l := S.tasks), List.getElem?_eq_none (by omega)]
    show 0 ≤ (([] : List Instr).getD i default).n
    simp; decide
theorem wsys {P : Program} {n : Md} {c : Code} {Q : Exit → Slots → Heap → Prop} {s : Slots} {h : Heap} (t : Nat) {S : System} (hg : get s t = .agg (eSystem S)) (hk : SysR S → W P n c Q s h) : W P n c Q s h := ⟨by
  intro E σ ι a w hr ht
  have hv := ht.at_ t
  rw [hg] at hv
  exact (hk (sys_words hv)).out E σ ι a w hr ht⟩
structure OkS (S : System) : Prop where
  tl : S.tasks.length ≤ 100
  ol : S.objects.length ≤ 100
  cl : ∀ j, (S.tasks.getD j default).code.length ≤ 200
  il : ∀ k, (S.objects.getD k default).init.length ≤ 100
  rl : ∀ k, (S.objects.getD k default).readers.length ≤ 100
  n : ∀ j i : Nat, 0 ≤ ((S.tasks.getD j default).code.getD i default).n
  sl : ∀ k : Nat, (S.objects.getD k default).slots ≤ 9223372036854775807
def smallB (o : Object) : Bool := decide (o.init.length ≤ 100 ∧ o.readers.length ≤ 100)
def fewS (S : System) (m : Int) : Bool := fewQ S.tasks m && (decide ((S.objects.length : Int) ≤ m) && S.objects.all smallB)
theorem fewS_ok {S : System} {m : Int} (hm : m ≤ 100) (h : fewS S m = true) (hn : SysR S) : OkS S := by
  rw [fewS, Bool.and_eq_true, Bool.and_eq_true, fewQ, Bool.and_eq_true, decide_eq_true_eq, decide_eq_true_eq, List.all_eq_true, List.all_eq_true] at h
  obtain ⟨⟨h1, h2⟩, h3, h4⟩ := h
  have hO : ∀ k, (S.objects.getD k default).init.length ≤ 100 ∧ (S.objects.getD k default).readers.length ≤ 100 := fun k => by
    by_cases hk : k < S.objects.length
    · exact of_decide_eq_true (h4 _ (getD_mem hk))
    · rw [List.getD_eq_getElem?_getD, List.getElem?_eq_none (by omega)]; decide
  refine ⟨by omega, by omega, fun j => ?_, fun k => (hO k).1, fun k => (hO k).2, hn.1, hn.2⟩
  by_cases hj : j < S.tasks.length
  · exact of_decide_eq_true (h2 _ (getD_mem hj))
  · rw [List.getD_eq_getElem?_getD, List.getElem?_eq_none (by omega)]; decide
theorem ok2 (S : System) (ht : S.tasks.length ≤ 100 ∧ S.objects.length ≤ 100) (hc : (S.tasks.all fun t => decide (t.code.length ≤ 200) && t.code.all fun x => decide (0 ≤ x.n)) = true) (ho : (S.objects.all fun o => smallB o && decide (o.slots ≤ 9223372036854775807)) = true) : OkS S := by
  rw [List.all_eq_true] at hc ho
  have hT : ∀ j, (S.tasks.getD j default).code.length ≤ 200 ∧ ∀ i, 0 ≤ ((S.tasks.getD j default).code.getD i default).n := fun j => by
    by_cases hj : j < S.tasks.length
    · have h1 := hc _ (getD_mem hj)
      rw [Bool.and_eq_true, decide_eq_true_eq, List.all_eq_true] at h1
      refine ⟨h1.1, fun i => ?_⟩
      by_cases hi : i < (S.tasks.getD j default).code.length
      · exact of_decide_eq_true (h1.2 _ (getD_mem hi))
      · rw [List.getD_eq_getElem?_getD (l := (S.tasks.getD j default).code), List.getElem?_eq_none (by omega)]; decide
    · rw [List.getD_eq_getElem?_getD, List.getElem?_eq_none (by omega)]
      refine ⟨by decide, fun i => ?_⟩
      show 0 ≤ (([] : List Instr).getD i default).n
      simp; decide
  have hO : ∀ k, ((S.objects.getD k default).init.length ≤ 100 ∧ (S.objects.getD k default).readers.length ≤ 100) ∧ (S.objects.getD k default).slots ≤ 9223372036854775807 := fun k => by
    by_cases hk : k < S.objects.length
    · have h1 := ho _ (getD_mem hk)
      rw [Bool.and_eq_true, decide_eq_true_eq] at h1
      exact ⟨of_decide_eq_true h1.1, h1.2⟩
    · rw [List.getD_eq_getElem?_getD, List.getElem?_eq_none (by omega)]; decide
  exact ⟨ht.1, ht.2, fun j => (hT j).1, fun k => (hO k).1.1, fun k => (hO k).1.2, fun j => (hT j).2, fun k => (hO k).2⟩
theorem small_fn (o : Object) : Fn Tryz.prog 50 [.agg (eObject o)] (.bool (smallB o)) := by
  refine fnb Tryz.func50 (entered_of (by kernel_rfl)) rfl rfl rfl ?_
  repeat' (first | refine sA ?_ | ((first | apply kM | apply kN); (iterate 3 (· exact rfl)); (· first | exact ya)) | refine sG ?_ | (refine sK ?_ ?_ <;> intro hc <;> (try simp only [KL, sL, reduceCtorEq] at hc) <;> (try (exfalso; omega))))
  all_goals first | (exfalso; omega) | exact retq rfl (congrArg AV.bool (by rw [Bool.eq_iff_iff]; (try simp only [smallB, cond_true, cond_false, decide_eq_true_eq, Bool.not_eq_true', decide_eq_false_iff_not, Bool.and_eq_true, Bool.or_eq_true, true_iff, false_iff, iff_true, iff_false, Bool.false_eq_true, Bool.not_true, Bool.not_false, reduceCtorEq]); (first | done | omega | (constructor <;> intros <;> omega))))
theorem few31_fn (S : System) (m : Int) (hm : m ≤ 100) : Fn Tryz.prog 13 [.agg (eSystem S), .int .i64 m] (.bool (fewS S m)) := by
  have c1 := few_fn S.tasks m (by omega)
  refine fnb Tryz.func13 (entered_of (by kernel_rfl)) rfl rfl rfl ?_
  cases h1 : fewQ S.tasks m
  · rw [h1] at c1
    rw [fewS, h1, Bool.false_and]
    repeat' (first | refine sA ?_ | ((first | apply kM | apply kN); (iterate 3 (· exact rfl)); (· first | exact ya | exact q_c (c1) rfl)) | refine sG ?_ | (refine sK ?_ ?_ <;> intro hc <;> (try simp only [KL, sL, reduceCtorEq] at hc) <;> (try (exfalso; omega))))
    all_goals first | (exfalso; omega) | exact retq rfl rfl
  rw [h1] at c1
  by_cases h2 : (S.objects.length : Int) ≤ m
  case neg =>
    rw [fewS, decide_eq_false h2, Bool.false_and, Bool.and_false]
    repeat' (first | refine sA ?_ | ((first | apply kM | apply kN); (iterate 3 (· exact rfl)); (· first | exact ya | exact q_c (c1) rfl)) | refine sG ?_ | (refine sK ?_ ?_ <;> intro hc <;> (try simp only [KL, sL, reduceCtorEq] at hc) <;> (try (exfalso; omega))))
    all_goals first | (exfalso; omega) | exact retq rfl rfl
  rw [fewS, h1, decide_eq_true h2, Bool.true_and, Bool.true_and]
  repeat' (first | refine sA ?_ | ((first | apply kM | apply kN); (iterate 3 (· exact rfl)); (· first | exact ya | exact q_c (c1) rfl)) | refine sG ?_ | (refine sK ?_ ?_ <;> intro hc <;> (try simp only [KL, sL, reduceCtorEq] at hc) <;> (try (exfalso; omega))))
  all_goals first | (exfalso; omega) | skip
  refine wloop (fun k : Nat => ([(20, .lst 8 (S.objects.map eObject)), (21, .int .i64 S.objects.length), (22, .int .i64 k)], [])) (fun k => k ≤ S.objects.length ∧ ∀ j, j < k → smallB (S.objects.getD j default) = true) (fun k => S.objects.length - k) 0 ⟨Nat.zero_le _, fun j hj => by omega⟩ les leh (fun k hk => ?_)
  obtain ⟨hk, hp⟩ := hk
  rcases Nat.lt_or_eq_of_le hk with hkl | hkl
  · obtain ⟨o, ho⟩ : ∃ o, S.objects.getD k default = o := ⟨_, rfl⟩
    have c2 := small_fn o
    cases hs : smallB o
    · rw [hs] at c2
      have e : S.objects.all smallB = false := List.all_eq_false.2 ⟨_, getD_mem hkl, by rw [ho, hs]; simp⟩
      rw [e]
      repeat' (first | refine sA ?_ | (show O _ _ _ _ _ _ _; first | refine ao_alloc (id := 11) rfl rfl rfl rfl rfl rfl rfl ?_) | ((first | apply kM | apply kN); (iterate 3 (· exact rfl)); (· first | (show Y _ ⟨_, .indexAddr _ _ _, _, _, _, _⟩ _ _ _; first | exact Y.mk (ok_indexE (ho) rfl rfl rfl rfl rfl (by omega))) | exact ya | exact q_c (c2) rfl)) | refine sG ?_ | (refine sK ?_ ?_ <;> intro hc <;> (try simp only [KL, sL, reduceCtorEq] at hc) <;> (try (exfalso; omega))))
      all_goals first | (exfalso; omega) | exact retq rfl rfl
    · rw [hs] at c2
      repeat' (first | refine sA ?_ | (show O _ _ _ _ _ _ _; first | refine ao_alloc (id := 11) rfl rfl rfl rfl rfl rfl rfl ?_) | ((first | apply kM | apply kN); (iterate 3 (· exact rfl)); (· first | (show Y _ ⟨_, .indexAddr _ _ _, _, _, _, _⟩ _ _ _; first | exact Y.mk (ok_indexE (ho) rfl rfl rfl rfl rfl (by omega))) | exact ya | exact q_c (c2) rfl)) | refine sG ?_ | (refine sK ?_ ?_ <;> intro hc <;> (try simp only [KL, sL, reduceCtorEq] at hc) <;> (try (exfalso; omega))))
      all_goals first | (exfalso; omega) | exact ⟨k + 1, ⟨by omega, fun j hj => by
        by_cases e : j = k
        · subst e; rw [ho]; exact hs
        · exact hp j (by omega)⟩, by omega, les, leh⟩
  · subst hkl
    have e : S.objects.all smallB = true := List.all_eq_true.2 fun o ho => by
      obtain ⟨j, hj, rfl⟩ := List.getElem_of_mem ho
      have := hp j hj
      simpa [hj] using this
    rw [e]
    repeat' (first | refine sA ?_ | ((first | apply kM | apply kN); (iterate 3 (· exact rfl)); (· first | exact ya)) | refine sG ?_ | (refine sK ?_ ?_ <;> intro hc <;> (try simp only [KL, sL, reduceCtorEq] at hc) <;> (try (exfalso; omega))))
    all_goals first | (exfalso; omega) | exact retq rfl rfl
abbrev objD (S : System) (k : Int) : Object := S.objects.getD k.toNat default
abbrev tskD (S : System) (i : Int) : Task := S.tasks.getD i.toNat default
def roleO (o : Object) (i : Int) : Int := if o.kind < 1 ∨ 6 < o.kind then 0 else if o.writer = i then wrO o.kind else if 0 ≤ idxI o.readers i then rdO o.kind else 0
def roleI (S : System) (i k : Int) : Int := if i < 0 ∨ (S.tasks.length : Int) ≤ i ∨ k < 0 ∨ (S.objects.length : Int) ≤ k then 0 else roleO (objD S k) i
theorem wr_pos (k : Int) : 0 < wrO k := by unfold wrO; split <;> omega
theorem rd_pos (k : Int) : 0 < rdO k := by unfold rdO; split <;> omega
theorem ops_in {k : Int} (h : ¬ (k < 1 ∨ 6 < k)) : opsW k = wrO k ∧ opsR k = rdO k ∧ opsB k = true := by
  refine ⟨?_, ?_, decide_eq_true (by omega)⟩
  · unfold opsW wrO; repeat' split
    all_goals omega
  · unfold opsR rdO; repeat' split
    all_goals omega
theorem role_fn (S : System) (h : OkS S) (i k : Int) : Fn Tryz.prog 96 [.agg (eSystem S), .int .i64 i, .int .i64 k] (.tup [.int .i64 (roleI S i k), .bool (decide (0 < roleI S i k))]) := by
  have h1 := h.tl
  have h2 := h.ol
  by_cases ho : i < 0 ∨ (S.tasks.length : Int) ≤ i ∨ k < 0 ∨ (S.objects.length : Int) ≤ k
  · rw [roleI, if_pos ho]
    refine fnb Tryz.func96 (entered_of (by kernel_rfl)) rfl rfl rfl ?_
    repeat' (first | refine sA ?_ | ((first | apply kM | apply kN); (iterate 3 (· exact rfl)); (· first | exact ya)) | refine sG ?_ | (refine sK ?_ ?_ <;> intro hc <;> (try simp only [KL, sL, reduceCtorEq] at hc) <;> (try (exfalso; omega))))
    all_goals first | (exfalso; omega) | exact retq rfl rfl
  rw [roleI, if_neg ho]
  obtain ⟨m, rfl⟩ : ∃ m : Nat, k = m := ⟨k.toNat, by omega⟩
  have h3 := h.rl m
  rw [objD, Int.toNat_natCast]
  obtain ⟨o, hod⟩ : ∃ o, S.objects.getD m default = o := ⟨_, rfl⟩
  rw [hod] at h3 ⊢
  have c1 := ops_fn o.kind
  have c2 := reader_fn o i (by omega)
  by_cases hk : o.kind < 1 ∨ 6 < o.kind
  · rw [roleO, if_pos hk]
    rw [show opsB o.kind = false from decide_eq_false (by omega)] at c1
    refine fnb Tryz.func96 (entered_of (by kernel_rfl)) rfl rfl rfl ?_
    repeat' (first | refine sA ?_ | (show O _ _ _ _ _ _ _; first | refine ao_alloc (id := 10) rfl rfl rfl rfl rfl rfl rfl ?_) | ((first | apply kM | apply kN); (iterate 3 (· exact rfl)); (· first | (show Y _ ⟨_, .indexAddr _ _ _, _, _, _, _⟩ _ _ _; first | exact Y.mk (ok_indexE (hod) rfl rfl rfl rfl rfl (by omega))) | exact ya | exact q_c (c1) rfl)) | refine sG ?_ | (refine sK ?_ ?_ <;> intro hc <;> (try simp only [KL, sL, reduceCtorEq] at hc) <;> (try (exfalso; omega))))
    all_goals first | (exfalso; omega) | exact retq rfl rfl
  obtain ⟨e1, e2, e3⟩ := ops_in hk
  rw [e1, e2, e3] at c1
  rw [roleO, if_neg hk]
  have p1 := wr_pos o.kind
  have p2 := rd_pos o.kind
  by_cases hw : o.writer = i
  · rw [if_pos hw, decide_eq_true p1]
    refine fnb Tryz.func96 (entered_of (by kernel_rfl)) rfl rfl rfl ?_
    repeat' (first | refine sA ?_ | (show O _ _ _ _ _ _ _; first | refine ao_alloc (id := 10) rfl rfl rfl rfl rfl rfl rfl ?_) | ((first | apply kM | apply kN); (iterate 3 (· exact rfl)); (· first | (show Y _ ⟨_, .indexAddr _ _ _, _, _, _, _⟩ _ _ _; first | exact Y.mk (ok_indexE (hod) rfl rfl rfl rfl rfl (by omega))) | exact ya | exact q_c (c1) rfl)) | refine sG ?_ | (refine sK ?_ ?_ <;> intro hc <;> (try simp only [KL, sL, reduceCtorEq] at hc) <;> (try (exfalso; omega))))
    all_goals first | (exfalso; omega) | exact retq rfl rfl
  rw [if_neg hw]
  by_cases hr : 0 ≤ idxI o.readers i
  · rw [if_pos hr, decide_eq_true p2]
    rw [decide_eq_true hr] at c2
    refine fnb Tryz.func96 (entered_of (by kernel_rfl)) rfl rfl rfl ?_
    repeat' (first | refine sA ?_ | (show O _ _ _ _ _ _ _; first | refine ao_alloc (id := 10) rfl rfl rfl rfl rfl rfl rfl ?_) | ((first | apply kM | apply kN); (iterate 3 (· exact rfl)); (· first | (show Y _ ⟨_, .indexAddr _ _ _, _, _, _, _⟩ _ _ _; first | exact Y.mk (ok_indexE (hod) rfl rfl rfl rfl rfl (by omega))) | exact ya | exact q_c (c1) rfl | exact q_c (c2) rfl)) | refine sG ?_ | (refine sK ?_ ?_ <;> intro hc <;> (try simp only [KL, sL, reduceCtorEq] at hc) <;> (try (exfalso; omega))))
    all_goals first | (exfalso; omega) | exact retq rfl rfl
  · rw [if_neg hr]
    rw [decide_eq_false hr] at c2
    refine fnb Tryz.func96 (entered_of (by kernel_rfl)) rfl rfl rfl ?_
    repeat' (first | refine sA ?_ | (show O _ _ _ _ _ _ _; first | refine ao_alloc (id := 10) rfl rfl rfl rfl rfl rfl rfl ?_) | ((first | apply kM | apply kN); (iterate 3 (· exact rfl)); (· first | (show Y _ ⟨_, .indexAddr _ _ _, _, _, _, _⟩ _ _ _; first | exact Y.mk (ok_indexE (hod) rfl rfl rfl rfl rfl (by omega))) | exact ya | exact q_c (c1) rfl | exact q_c (c2) rfl)) | refine sG ?_ | (refine sK ?_ ?_ <;> intro hc <;> (try simp only [KL, sL, reduceCtorEq] at hc) <;> (try (exfalso; omega))))
    all_goals first | (exfalso; omega) | exact retq rfl rfl
theorem rrole_fn (S : System) (h : OkS S) (i k : Int) : Fn Tryz.prog 58 [.agg (eSystem S), .int .i64 i, .int .i64 k] (.int .i64 (roleI S i k)) := by
  have h1 := h.tl
  have h2 := h.ol
  by_cases ho : i < 0 ∨ (S.tasks.length : Int) ≤ i ∨ k < 0 ∨ (S.objects.length : Int) ≤ k
  · rw [roleI, if_pos ho]
    refine fnb Tryz.func58 (entered_of (by kernel_rfl)) rfl rfl rfl ?_
    repeat' (first | refine sA ?_ | ((first | apply kM | apply kN); (iterate 3 (· exact rfl)); (· first | exact ya)) | refine sG ?_ | (refine sK ?_ ?_ <;> intro hc <;> (try simp only [KL, sL, reduceCtorEq] at hc) <;> (try (exfalso; omega))))
    all_goals first | (exfalso; omega) | exact retq rfl rfl
  rw [roleI, if_neg ho]
  obtain ⟨m, rfl⟩ : ∃ m : Nat, k = m := ⟨k.toNat, by omega⟩
  have h3 := h.rl m
  rw [objD, Int.toNat_natCast]
  obtain ⟨o, hod⟩ : ∃ o, S.objects.getD m default = o := ⟨_, rfl⟩
  rw [hod] at h3 ⊢
  have c1 := wr_fn o.kind
  have c2 := rd_fn o.kind
  have c3 := rreader_fn o i (by omega)
  by_cases hk : o.kind < 1 ∨ 6 < o.kind
  · rw [roleO, if_pos hk]
    refine fnb Tryz.func58 (entered_of (by kernel_rfl)) rfl rfl rfl ?_
    repeat' (first | refine sA ?_ | (show O _ _ _ _ _ _ _; first | refine ao_alloc (id := 10) rfl rfl rfl rfl rfl rfl rfl ?_) | ((first | apply kM | apply kN); (iterate 3 (· exact rfl)); (· first | (show Y _ ⟨_, .indexAddr _ _ _, _, _, _, _⟩ _ _ _; first | exact Y.mk (ok_indexE (hod) rfl rfl rfl rfl rfl (by omega))) | exact ya)) | refine sG ?_ | (refine sK ?_ ?_ <;> intro hc <;> (try simp only [KL, sL, reduceCtorEq] at hc) <;> (try (exfalso; omega))))
    all_goals first | (exfalso; omega) | exact retq rfl rfl
  rw [roleO, if_neg hk]
  by_cases hw : o.writer = i
  · rw [if_pos hw]
    refine fnb Tryz.func58 (entered_of (by kernel_rfl)) rfl rfl rfl ?_
    repeat' (first | refine sA ?_ | (show O _ _ _ _ _ _ _; first | refine ao_alloc (id := 10) rfl rfl rfl rfl rfl rfl rfl ?_) | ((first | apply kM | apply kN); (iterate 3 (· exact rfl)); (· first | (show Y _ ⟨_, .indexAddr _ _ _, _, _, _, _⟩ _ _ _; first | exact Y.mk (ok_indexE (hod) rfl rfl rfl rfl rfl (by omega))) | exact ya | exact q_c (c1) rfl)) | refine sG ?_ | (refine sK ?_ ?_ <;> intro hc <;> (try simp only [KL, sL, reduceCtorEq] at hc) <;> (try (exfalso; omega))))
    all_goals first | (exfalso; omega) | exact retq rfl rfl
  rw [if_neg hw]
  by_cases hr : 0 ≤ idxI o.readers i
  · rw [if_pos hr]
    refine fnb Tryz.func58 (entered_of (by kernel_rfl)) rfl rfl rfl ?_
    repeat' (first | refine sA ?_ | (show O _ _ _ _ _ _ _; first | refine ao_alloc (id := 10) rfl rfl rfl rfl rfl rfl rfl ?_) | ((first | apply kM | apply kN); (iterate 3 (· exact rfl)); (· first | (show Y _ ⟨_, .indexAddr _ _ _, _, _, _, _⟩ _ _ _; first | exact Y.mk (ok_indexE (hod) rfl rfl rfl rfl rfl (by omega))) | exact ya | exact q_c (c1) rfl | exact q_c (c2) rfl | exact q_c (c3) rfl)) | refine sG ?_ | (refine sK ?_ ?_ <;> intro hc <;> (try simp only [KL, sL, reduceCtorEq] at hc) <;> (try (exfalso; omega))))
    all_goals first | (exfalso; omega) | exact retq rfl rfl
  · rw [if_neg hr]
    refine fnb Tryz.func58 (entered_of (by kernel_rfl)) rfl rfl rfl ?_
    repeat' (first | refine sA ?_ | (show O _ _ _ _ _ _ _; first | refine ao_alloc (id := 10) rfl rfl rfl rfl rfl rfl rfl ?_) | ((first | apply kM | apply kN); (iterate 3 (· exact rfl)); (· first | (show Y _ ⟨_, .indexAddr _ _ _, _, _, _, _⟩ _ _ _; first | exact Y.mk (ok_indexE (hod) rfl rfl rfl rfl rfl (by omega))) | exact ya | exact q_c (c1) rfl | exact q_c (c2) rfl | exact q_c (c3) rfl)) | refine sG ?_ | (refine sK ?_ ?_ <;> intro hc <;> (try simp only [KL, sL, reduceCtorEq] at hc) <;> (try (exfalso; omega))))
    all_goals first | (exfalso; omega) | exact retq rfl rfl
end Go.Proofs.YtkkmageogkkchaaGreat
