/- A system that is small enough; which calls there are; what a task does with an object. No condition. -/
import Derived.Test.YtkkmageogkkchaaOb2
import Derived.Test.YtkkmageogkkchaaIsaFn
import Derived.Test.YtkkmageogkkchaaEnSystem
import Derived.Test.YtkkmageogkkchaaLeL
import Derived.Test.YtkkmageogkkchaaTk
namespace Go.Proofs.Ytkkmageogkkchaa
set_option linter.unusedSimpArgs false
set_option linter.unusedVariables false
set_option maxRecDepth 100000
set_option linter.unusedSimpArgs false
set_option linter.unusedVariables false
set_option maxRecDepth 100000
open Go.RowKit
def callsI (x : Instr) : Int := if rightI x = true ∧ 17 ≤ x.op ∧ x.op ≤ 20 then x.op - 16 else 0
theorem calls_b {x : Instr} (h : 0 < callsI x) : rightI x = true ∧ 17 ≤ x.op ∧ x.op ≤ 20 ∧ callsI x = x.op - 16 ∧ 0 ≤ x.b ∧ x.b ≤ 7 ∧ x.n ≤ 63 := by
  unfold callsI at h ⊢
  split at h
  · rename_i h1
    obtain ⟨h2, h3, h4⟩ := h1
    refine ⟨h2, h3, h4, by rw [if_pos ⟨h2, h3, h4⟩], ?_⟩
    have h5 : x.op = 17 ∨ x.op = 18 ∨ x.op = 19 ∨ x.op = 20 := by omega
    rcases h5 with h5 | h5 | h5 | h5
    all_goals
      rw [rightI, h5] at h2
      simp [kindsOf, kindsN, fitsB] at h2
      omega
  · omega
theorem calls_fn (x : Instr) : Fn Try.prog 93 [.agg (eInstr x)] (.tup [.int .i64 (if 0 < callsI x then x.b else 0), .int .i64 (callsI x), .bool (decide (0 < callsI x))]) := by
  have c1 := right_fn x
  by_cases h : rightI x = true ∧ 17 ≤ x.op ∧ x.op ≤ 20
  · have e : callsI x = x.op - 16 := by rw [callsI, if_pos h]
    rw [e, if_pos (by omega), decide_eq_true (by omega)]
    rw [h.1] at c1
    refine fnb Try.func93 (entered_of (by kernel_rfl)) rfl rfl rfl ?_
    repeat' (first | (show W _ _ _ _ _ _; first | apply kA | refine kB rfl ?_ | refine kC rfl rfl ?_ | refine kD rfl rfl ?_ | apply kE | apply kF | apply kG | apply kH | refine kI (by kernel_rfl) (by kernel_rfl) ?_) | (show O _ _ _ _ _ _ _; first | (show O _ _ _ _ (⟨_, .store _ _ _, _, _, _, _⟩ :: _) _ _; refine kJ rfl rfl rfl rfl rfl rfl rfl rfl rfl rfl rfl ?_) | apply kK) | apply kL | ((first | apply kM | apply kN); (iterate 3 (· exact rfl)); (· first | (show Y _ ⟨_, .call ⟨.value _, _, _⟩, _, _, _, _⟩ _ _ _; first | exact q_c (c1) rfl) | exact ya)) | refine kO rfl rfl rfl rfl rfl ?_ | refine kP rfl rfl rfl ?_ | ((first | refine kQ rfl rfl ?_ ?_ | refine kR rfl rfl rfl rfl rfl ?_ ?_ | refine kS rfl rfl rfl ?_ ?_) <;> intro hc <;> (try simp only [KL, cond_true, cond_false, beq_iff_eq, bne_iff_ne, ne_eq, reduceCtorEq] at hc) <;> (try (have hT : True := hc; clear hT hc)) <;> (try (exfalso; omega))) | apply kT | apply kU | apply kV | apply kW | refine kX rfl ?_ | apply kY | apply kZ)
    all_goals first | (exfalso; omega) | exact retq rfl (congrArg (fun z => AV.tup [.int .i64 x.b, .int .i64 z, .bool true]) (by omega))
  · have e : callsI x = 0 := by rw [callsI, if_neg h]
    rw [e, if_neg (by omega), decide_eq_false (by omega)]
    by_cases h1 : rightI x = true
    · rw [h1] at c1
      have h2 : ¬ (17 ≤ x.op ∧ x.op ≤ 20) := fun e => h ⟨h1, e⟩
      refine fnb Try.func93 (entered_of (by kernel_rfl)) rfl rfl rfl ?_
      repeat' (first | (show W _ _ _ _ _ _; first | apply kA | refine kB rfl ?_ | refine kC rfl rfl ?_ | refine kD rfl rfl ?_ | apply kE | apply kF | apply kG | apply kH | refine kI (by kernel_rfl) (by kernel_rfl) ?_) | (show O _ _ _ _ _ _ _; first | (show O _ _ _ _ (⟨_, .store _ _ _, _, _, _, _⟩ :: _) _ _; refine kJ rfl rfl rfl rfl rfl rfl rfl rfl rfl rfl rfl ?_) | apply kK) | apply kL | ((first | apply kM | apply kN); (iterate 3 (· exact rfl)); (· first | (show Y _ ⟨_, .call ⟨.value _, _, _⟩, _, _, _, _⟩ _ _ _; first | exact q_c (c1) rfl) | exact ya)) | refine kO rfl rfl rfl rfl rfl ?_ | refine kP rfl rfl rfl ?_ | ((first | refine kQ rfl rfl ?_ ?_ | refine kR rfl rfl rfl rfl rfl ?_ ?_ | refine kS rfl rfl rfl ?_ ?_) <;> intro hc <;> (try simp only [KL, cond_true, cond_false, beq_iff_eq, bne_iff_ne, ne_eq, reduceCtorEq] at hc) <;> (try (have hT : True := hc; clear hT hc)) <;> (try (exfalso; omega))) | apply kT | apply kU | apply kV | apply kW | refine kX rfl ?_ | apply kY | apply kZ)
      all_goals first | (exfalso; omega) | exact retq rfl rfl
    · rw [Bool.not_eq_true] at h1
      rw [h1] at c1
      refine fnb Try.func93 (entered_of (by kernel_rfl)) rfl rfl rfl ?_
      repeat' (first | (show W _ _ _ _ _ _; first | apply kA | refine kB rfl ?_ | refine kC rfl rfl ?_ | refine kD rfl rfl ?_ | apply kE | apply kF | apply kG | apply kH | refine kI (by kernel_rfl) (by kernel_rfl) ?_) | (show O _ _ _ _ _ _ _; first | (show O _ _ _ _ (⟨_, .store _ _ _, _, _, _, _⟩ :: _) _ _; refine kJ rfl rfl rfl rfl rfl rfl rfl rfl rfl rfl rfl ?_) | apply kK) | apply kL | ((first | apply kM | apply kN); (iterate 3 (· exact rfl)); (· first | (show Y _ ⟨_, .call ⟨.value _, _, _⟩, _, _, _, _⟩ _ _ _; first | exact q_c (c1) rfl) | exact ya)) | refine kO rfl rfl rfl rfl rfl ?_ | refine kP rfl rfl rfl ?_ | ((first | refine kQ rfl rfl ?_ ?_ | refine kR rfl rfl rfl rfl rfl ?_ ?_ | refine kS rfl rfl rfl ?_ ?_) <;> intro hc <;> (try simp only [KL, cond_true, cond_false, beq_iff_eq, bne_iff_ne, ne_eq, reduceCtorEq] at hc) <;> (try (have hT : True := hc; clear hT hc)) <;> (try (exfalso; omega))) | apply kT | apply kU | apply kV | apply kW | refine kX rfl ?_ | apply kY | apply kZ)
      all_goals first | (exfalso; omega) | exact retq rfl rfl
theorem rcalls_fn (op : Int) : Fn Try.prog 39 [.int .i64 op] (.int .i64 (if 17 ≤ op ∧ op ≤ 20 then op - 16 else 0)) := by
  by_cases h : 17 ≤ op ∧ op ≤ 20
  · rw [if_pos h]
    refine fnb Try.func39 (entered_of (by kernel_rfl)) rfl rfl rfl ?_
    repeat' (first | (show W _ _ _ _ _ _; first | apply kA | refine kB rfl ?_ | refine kC rfl rfl ?_ | refine kD rfl rfl ?_ | apply kE | apply kF | apply kG | apply kH | refine kI (by kernel_rfl) (by kernel_rfl) ?_) | (show O _ _ _ _ _ _ _; first | (show O _ _ _ _ (⟨_, .store _ _ _, _, _, _, _⟩ :: _) _ _; refine kJ rfl rfl rfl rfl rfl rfl rfl rfl rfl rfl rfl ?_) | apply kK) | apply kL | ((first | apply kM | apply kN); (iterate 3 (· exact rfl)); (· first | exact ya)) | refine kO rfl rfl rfl rfl rfl ?_ | refine kP rfl rfl rfl ?_ | ((first | refine kQ rfl rfl ?_ ?_ | refine kR rfl rfl rfl rfl rfl ?_ ?_ | refine kS rfl rfl rfl ?_ ?_) <;> intro hc <;> (try simp only [KL, cond_true, cond_false, beq_iff_eq, bne_iff_ne, ne_eq, reduceCtorEq] at hc) <;> (try (have hT : True := hc; clear hT hc)) <;> (try (exfalso; omega))) | apply kT | apply kU | apply kV | apply kW | refine kX rfl ?_ | apply kY | apply kZ)
    all_goals first | (exfalso; omega) | exact retq rfl (congrArg (AV.int .i64) (by omega))
  · rw [if_neg h]
    refine fnb Try.func39 (entered_of (by kernel_rfl)) rfl rfl rfl ?_
    repeat' (first | (show W _ _ _ _ _ _; first | apply kA | refine kB rfl ?_ | refine kC rfl rfl ?_ | refine kD rfl rfl ?_ | apply kE | apply kF | apply kG | apply kH | refine kI (by kernel_rfl) (by kernel_rfl) ?_) | (show O _ _ _ _ _ _ _; first | (show O _ _ _ _ (⟨_, .store _ _ _, _, _, _, _⟩ :: _) _ _; refine kJ rfl rfl rfl rfl rfl rfl rfl rfl rfl rfl rfl ?_) | apply kK) | apply kL | ((first | apply kM | apply kN); (iterate 3 (· exact rfl)); (· first | exact ya)) | refine kO rfl rfl rfl rfl rfl ?_ | refine kP rfl rfl rfl ?_ | ((first | refine kQ rfl rfl ?_ ?_ | refine kR rfl rfl rfl rfl rfl ?_ ?_ | refine kS rfl rfl rfl ?_ ?_) <;> intro hc <;> (try simp only [KL, cond_true, cond_false, beq_iff_eq, bne_iff_ne, ne_eq, reduceCtorEq] at hc) <;> (try (have hT : True := hc; clear hT hc)) <;> (try (exfalso; omega))) | apply kT | apply kU | apply kV | apply kW | refine kX rfl ?_ | apply kY | apply kZ)
    all_goals first | (exfalso; omega) | exact retq rfl rfl
theorem VR0.lst_at {σ : Sig} {sz : Nat} {xs : List (List AV)} {v : Value} (h : VR0 σ (.lst sz xs) v) {c : AV} (hc : c ∈ xs.flatten) : ∃ u, VR0 σ c u := by
  cases h with
  | empty => simp at hc
  | lst _ _ b off cap g h1 h2 h3 h4 h5 =>
    obtain ⟨j, hj⟩ := List.getElem?_of_mem hc
    exact ⟨_, h5 j c hj⟩
/-- What a system's numbers are. -/
def SysR (S : System) : Prop := (∀ j i : Nat, 0 ≤ ((S.tasks.getD j default).code.getD i default).n) ∧ ∀ k : Nat, (S.objects.getD k default).slots ≤ 9223372036854775807
theorem sys_words {σ : Sig} {ι : Nat → Value} {S : System} {v : Value} (hv : VR σ ι (.agg (eSystem S)) v) : SysR S := by
  obtain ⟨vs, _, h2⟩ := hv.agg_inv
  refine ⟨?_, fun k => ?_⟩
  case refine_2 =>
    obtain ⟨u, _, hu⟩ := h2.get (j := 1) (x := .lst 8 (S.objects.map eObject)) rfl
    have hu0 : VR0 σ (.lst 8 (S.objects.map eObject)) u := by cases hu; assumption
    by_cases hk : k < S.objects.length
    · obtain ⟨u1, h3⟩ := hu0.lst_at (c := .int .i64 (S.objects.getD k default).slots) (List.mem_flatten.2 ⟨eObject (S.objects.getD k default), List.mem_map_of_mem (getD_mem hk), by simp [eObject]⟩)
      have := (VR.base (ι := ι) _ _ h3).int_inv.2
      simp only [rangeP] at this
      omega
    · rw [List.getD_eq_getElem?_getD, List.getElem?_eq_none (by omega)]; decide
  obtain ⟨u, _, hu⟩ := h2.get (j := 0) (x := .lst 7 (S.tasks.map eTask)) rfl
  have hu0 : VR0 σ (.lst 7 (S.tasks.map eTask)) u := by cases hu; assumption
  intro j i
  by_cases hj : j < S.tasks.length
  · by_cases hi : i < (S.tasks.getD j default).code.length
    · obtain ⟨u1, h3⟩ := hu0.lst_at (c := .lst 5 ((S.tasks.getD j default).code.map eInstr)) (List.mem_flatten.2 ⟨eTask (S.tasks.getD j default), List.mem_map_of_mem (getD_mem hj), by simp [eTask]⟩)
      obtain ⟨u2, h4⟩ := h3.lst_at (c := .int .u32 ((S.tasks.getD j default).code.getD i default).n) (List.mem_flatten.2 ⟨eInstr ((S.tasks.getD j default).code.getD i default), List.mem_map_of_mem (getD_mem hi), by simp [eInstr]⟩)
      have := (VR.base (ι := ι) _ _ h4).int_inv.2
      simp only [rangeP] at this
      omega
    · rw [List.getD_eq_getElem?_getD (l := (S.tasks.getD j default).code), List.getElem?_eq_none (by omega)]; decide
  · rw [List.getD_eq_getElem?_getD (l := S.tasks), List.getElem?_eq_none (by omega)]
    show 0 ≤ (([] : List Instr).getD i default).n
    simp; decide
theorem wsys {P : Program} {n : Md} {c : Code} {Q : Exit → Slots → Heap → Prop} {s : Slots} {h : Heap} (t : Nat) {S : System} (hg : get s t = .agg (eSystem S)) (hk : SysR S → W P n c Q s h) : W P n c Q s h := ⟨by
  intro E σ ι a w hr ht
  have hv := ht.at_ t
  rw [hg] at hv
  exact (hk (sys_words hv)).out E σ ι a w hr ht⟩
/-- A system that is small enough. -/
structure OkS (S : System) : Prop where
  tl : S.tasks.length ≤ 100
  ol : S.objects.length ≤ 100
  cl : ∀ j, (S.tasks.getD j default).code.length ≤ 200
  il : ∀ k, (S.objects.getD k default).init.length ≤ 100
  rl : ∀ k, (S.objects.getD k default).readers.length ≤ 100
  n : ∀ j i : Nat, 0 ≤ ((S.tasks.getD j default).code.getD i default).n
  sl : ∀ k : Nat, (S.objects.getD k default).slots ≤ 9223372036854775807
def smallB (o : Object) : Bool := decide (o.init.length ≤ 100 ∧ o.readers.length ≤ 100)
def fewS (S : System) (m : Int) : Bool := fewQ S.tasks m && (decide ((S.objects.length : Int) ≤ m) && S.objects.all smallB)
theorem fewS_ok {S : System} {m : Int} (hm : m ≤ 100) (h : fewS S m = true) (hn : SysR S) : OkS S := by
  rw [fewS, Bool.and_eq_true, Bool.and_eq_true, fewQ, Bool.and_eq_true, decide_eq_true_eq, decide_eq_true_eq, List.all_eq_true, List.all_eq_true] at h
  obtain ⟨⟨h1, h2⟩, h3, h4⟩ := h
  have hO : ∀ k, (S.objects.getD k default).init.length ≤ 100 ∧ (S.objects.getD k default).readers.length ≤ 100 := fun k => by
    by_cases hk : k < S.objects.length
    · exact of_decide_eq_true (h4 _ (getD_mem hk))
    · rw [List.getD_eq_getElem?_getD, List.getElem?_eq_none (by omega)]; decide
  refine ⟨by omega, by omega, fun j => ?_, fun k => (hO k).1, fun k => (hO k).2, hn.1, hn.2⟩
  by_cases hj : j < S.tasks.length
  · exact of_decide_eq_true (h2 _ (getD_mem hj))
  · rw [List.getD_eq_getElem?_getD, List.getElem?_eq_none (by omega)]; decide
theorem ok2 (S : System) (ht : S.tasks.length ≤ 100 ∧ S.objects.length ≤ 100) (hc : (S.tasks.all fun t => decide (t.code.length ≤ 200) && t.code.all fun x => decide (0 ≤ x.n)) = true) (ho : (S.objects.all fun o => smallB o && decide (o.slots ≤ 9223372036854775807)) = true) : OkS S := by
  rw [List.all_eq_true] at hc ho
  have hT : ∀ j, (S.tasks.getD j default).code.length ≤ 200 ∧ ∀ i, 0 ≤ ((S.tasks.getD j default).code.getD i default).n := fun j => by
    by_cases hj : j < S.tasks.length
    · have h1 := hc _ (getD_mem hj)
      rw [Bool.and_eq_true, decide_eq_true_eq, List.all_eq_true] at h1
      refine ⟨h1.1, fun i => ?_⟩
      by_cases hi : i < (S.tasks.getD j default).code.length
      · exact of_decide_eq_true (h1.2 _ (getD_mem hi))
      · rw [List.getD_eq_getElem?_getD (l := (S.tasks.getD j default).code), List.getElem?_eq_none (by omega)]; decide
    · rw [List.getD_eq_getElem?_getD, List.getElem?_eq_none (by omega)]
      refine ⟨by decide, fun i => ?_⟩
      show 0 ≤ (([] : List Instr).getD i default).n
      simp; decide
  have hO : ∀ k, ((S.objects.getD k default).init.length ≤ 100 ∧ (S.objects.getD k default).readers.length ≤ 100) ∧ (S.objects.getD k default).slots ≤ 9223372036854775807 := fun k => by
    by_cases hk : k < S.objects.length
    · have h1 := ho _ (getD_mem hk)
      rw [Bool.and_eq_true, decide_eq_true_eq] at h1
      exact ⟨of_decide_eq_true h1.1, h1.2⟩
    · rw [List.getD_eq_getElem?_getD, List.getElem?_eq_none (by omega)]; decide
  exact ⟨ht.1, ht.2, fun j => (hT j).1, fun k => (hO k).1.1, fun k => (hO k).1.2, fun j => (hT j).2, fun k => (hO k).2⟩
theorem small_fn (o : Object) : Fn Try.prog 43 [.agg (eObject o)] (.bool (smallB o)) := by
  refine fnb Try.func43 (entered_of (by kernel_rfl)) rfl rfl rfl ?_
  repeat' (first | (show W _ _ _ _ _ _; first | apply kA | refine kB rfl ?_ | refine kC rfl rfl ?_ | refine kD rfl rfl ?_ | apply kE | apply kF | apply kG | apply kH | refine kI (by kernel_rfl) (by kernel_rfl) ?_) | (show O _ _ _ _ _ _ _; first | (show O _ _ _ _ (⟨_, .store _ _ _, _, _, _, _⟩ :: _) _ _; refine kJ rfl rfl rfl rfl rfl rfl rfl rfl rfl rfl rfl ?_) | apply kK) | apply kL | ((first | apply kM | apply kN); (iterate 3 (· exact rfl)); (· first | exact ya)) | refine kO rfl rfl rfl rfl rfl ?_ | refine kP rfl rfl rfl ?_ | ((first | refine kQ rfl rfl ?_ ?_ | refine kR rfl rfl rfl rfl rfl ?_ ?_ | refine kS rfl rfl rfl ?_ ?_) <;> intro hc <;> (try simp only [KL, cond_true, cond_false, beq_iff_eq, bne_iff_ne, ne_eq, reduceCtorEq] at hc) <;> (try (have hT : True := hc; clear hT hc)) <;> (try (exfalso; omega))) | apply kT | apply kU | apply kV | apply kW | refine kX rfl ?_ | apply kY | apply kZ)
  all_goals first | (exfalso; omega) | exact retq rfl (congrArg AV.bool (by rw [Bool.eq_iff_iff]; (try simp only [smallB, cond_true, cond_false, decide_eq_true_eq, Bool.not_eq_true', decide_eq_false_iff_not, Bool.and_eq_true, Bool.or_eq_true, true_iff, false_iff, iff_true, iff_false, Bool.false_eq_true, Bool.not_true, Bool.not_false, reduceCtorEq]); (first | done | omega | (constructor <;> intros <;> omega))))
theorem few31_fn (S : System) (m : Int) (hm : m ≤ 100) : Fn Try.prog 12 [.agg (eSystem S), .int .i64 m] (.bool (fewS S m)) := by
  have c1 := few_fn S.tasks m (by omega)
  refine fnb Try.func12 (entered_of (by kernel_rfl)) rfl rfl rfl ?_
  cases h1 : fewQ S.tasks m
  · rw [h1] at c1
    rw [fewS, h1, Bool.false_and]
    repeat' (first | (show W _ _ _ _ _ _; first | apply kA | refine kB rfl ?_ | refine kC rfl rfl ?_ | refine kD rfl rfl ?_ | apply kE | apply kF | apply kG | apply kH | refine kI (by kernel_rfl) (by kernel_rfl) ?_) | (show O _ _ _ _ _ _ _; first | (show O _ _ _ _ (⟨_, .store _ _ _, _, _, _, _⟩ :: _) _ _; refine kJ rfl rfl rfl rfl rfl rfl rfl rfl rfl rfl rfl ?_) | apply kK) | apply kL | ((first | apply kM | apply kN); (iterate 3 (· exact rfl)); (· first | (show Y _ ⟨_, .call ⟨.value _, _, _⟩, _, _, _, _⟩ _ _ _; first | exact q_c (c1) rfl) | exact ya)) | refine kO rfl rfl rfl rfl rfl ?_ | refine kP rfl rfl rfl ?_ | ((first | refine kQ rfl rfl ?_ ?_ | refine kR rfl rfl rfl rfl rfl ?_ ?_ | refine kS rfl rfl rfl ?_ ?_) <;> intro hc <;> (try simp only [KL, cond_true, cond_false, beq_iff_eq, bne_iff_ne, ne_eq, reduceCtorEq] at hc) <;> (try (have hT : True := hc; clear hT hc)) <;> (try (exfalso; omega))) | apply kT | apply kU | apply kV | apply kW | refine kX rfl ?_ | apply kY | apply kZ)
    all_goals first | (exfalso; omega) | exact retq rfl rfl
  rw [h1] at c1
  by_cases h2 : (S.objects.length : Int) ≤ m
  case neg =>
    rw [fewS, decide_eq_false h2, Bool.false_and, Bool.and_false]
    repeat' (first | (show W _ _ _ _ _ _; first | apply kA | refine kB rfl ?_ | refine kC rfl rfl ?_ | refine kD rfl rfl ?_ | apply kE | apply kF | apply kG | apply kH | refine kI (by kernel_rfl) (by kernel_rfl) ?_) | (show O _ _ _ _ _ _ _; first | (show O _ _ _ _ (⟨_, .store _ _ _, _, _, _, _⟩ :: _) _ _; refine kJ rfl rfl rfl rfl rfl rfl rfl rfl rfl rfl rfl ?_) | apply kK) | apply kL | ((first | apply kM | apply kN); (iterate 3 (· exact rfl)); (· first | (show Y _ ⟨_, .call ⟨.value _, _, _⟩, _, _, _, _⟩ _ _ _; first | exact q_c (c1) rfl) | exact ya)) | refine kO rfl rfl rfl rfl rfl ?_ | refine kP rfl rfl rfl ?_ | ((first | refine kQ rfl rfl ?_ ?_ | refine kR rfl rfl rfl rfl rfl ?_ ?_ | refine kS rfl rfl rfl ?_ ?_) <;> intro hc <;> (try simp only [KL, cond_true, cond_false, beq_iff_eq, bne_iff_ne, ne_eq, reduceCtorEq] at hc) <;> (try (have hT : True := hc; clear hT hc)) <;> (try (exfalso; omega))) | apply kT | apply kU | apply kV | apply kW | refine kX rfl ?_ | apply kY | apply kZ)
    all_goals first | (exfalso; omega) | exact retq rfl rfl
  rw [fewS, h1, decide_eq_true h2, Bool.true_and, Bool.true_and]
  repeat' (first | (show W _ _ _ _ _ _; first | apply kA | refine kB rfl ?_ | refine kC rfl rfl ?_ | refine kD rfl rfl ?_ | apply kE | apply kF | apply kG | apply kH | refine kI (by kernel_rfl) (by kernel_rfl) ?_) | (show O _ _ _ _ _ _ _; first | (show O _ _ _ _ (⟨_, .store _ _ _, _, _, _, _⟩ :: _) _ _; refine kJ rfl rfl rfl rfl rfl rfl rfl rfl rfl rfl rfl ?_) | apply kK) | apply kL | ((first | apply kM | apply kN); (iterate 3 (· exact rfl)); (· first | (show Y _ ⟨_, .call ⟨.value _, _, _⟩, _, _, _, _⟩ _ _ _; first | exact q_c (c1) rfl) | exact ya)) | refine kO rfl rfl rfl rfl rfl ?_ | refine kP rfl rfl rfl ?_ | ((first | refine kQ rfl rfl ?_ ?_ | refine kR rfl rfl rfl rfl rfl ?_ ?_ | refine kS rfl rfl rfl ?_ ?_) <;> intro hc <;> (try simp only [KL, cond_true, cond_false, beq_iff_eq, bne_iff_ne, ne_eq, reduceCtorEq] at hc) <;> (try (have hT : True := hc; clear hT hc)) <;> (try (exfalso; omega))) | apply kT | apply kU | apply kV | apply kW | refine kX rfl ?_ | apply kY | apply kZ)
  all_goals first | (exfalso; omega) | skip
  refine wloop (fun k : Nat => ([(20, .lst 8 (S.objects.map eObject)), (21, .int .i64 S.objects.length), (22, .int .i64 k)], [])) (fun k => k ≤ S.objects.length ∧ ∀ j, j < k → smallB (S.objects.getD j default) = true) (fun k => S.objects.length - k) 0 ⟨Nat.zero_le _, fun j hj => by omega⟩ les leh (fun k hk => ?_)
  obtain ⟨hk, hp⟩ := hk
  rcases Nat.lt_or_eq_of_le hk with hkl | hkl
  · obtain ⟨o, ho⟩ : ∃ o, S.objects.getD k default = o := ⟨_, rfl⟩
    have c2 := small_fn o
    cases hs : smallB o
    · rw [hs] at c2
      have e : S.objects.all smallB = false := List.all_eq_false.2 ⟨_, getD_mem hkl, by rw [ho, hs]; simp⟩
      rw [e]
      repeat' (first | (show W _ _ _ _ _ _; first | apply kA | refine kB rfl ?_ | refine kC rfl rfl ?_ | refine kD rfl rfl ?_ | apply kE | apply kF | apply kG | apply kH | refine kI (by kernel_rfl) (by kernel_rfl) ?_) | (show O _ _ _ _ _ _ _; first | (show O _ _ _ _ (⟨_, .alloc _, _, _, _, _⟩ :: _) _ _; first | refine ao_alloc (id := 11) rfl rfl rfl rfl rfl rfl rfl ?_) | (show O _ _ _ _ (⟨_, .store _ _ _, _, _, _, _⟩ :: _) _ _; refine kJ rfl rfl rfl rfl rfl rfl rfl rfl rfl rfl rfl ?_) | apply kK) | apply kL | ((first | apply kM | apply kN); (iterate 3 (· exact rfl)); (· first | (show Y _ ⟨_, .indexAddr _ _ _, _, _, _, _⟩ _ _ _; first | exact Y.mk (ok_indexE (ho) rfl rfl rfl rfl rfl (by omega))) | (show Y _ ⟨_, .call ⟨.value _, _, _⟩, _, _, _, _⟩ _ _ _; first | exact q_c (c2) rfl) | exact ya)) | refine kO rfl rfl rfl rfl rfl ?_ | refine kP rfl rfl rfl ?_ | ((first | refine kQ rfl rfl ?_ ?_ | refine kR rfl rfl rfl rfl rfl ?_ ?_ | refine kS rfl rfl rfl ?_ ?_) <;> intro hc <;> (try simp only [KL, cond_true, cond_false, beq_iff_eq, bne_iff_ne, ne_eq, reduceCtorEq] at hc) <;> (try (have hT : True := hc; clear hT hc)) <;> (try (exfalso; omega))) | apply kT | apply kU | apply kV | apply kW | refine kX rfl ?_ | apply kY | apply kZ)
      all_goals first | (exfalso; omega) | exact retq rfl rfl
    · rw [hs] at c2
      repeat' (first | (show W _ _ _ _ _ _; first | apply kA | refine kB rfl ?_ | refine kC rfl rfl ?_ | refine kD rfl rfl ?_ | apply kE | apply kF | apply kG | apply kH | refine kI (by kernel_rfl) (by kernel_rfl) ?_) | (show O _ _ _ _ _ _ _; first | (show O _ _ _ _ (⟨_, .alloc _, _, _, _, _⟩ :: _) _ _; first | refine ao_alloc (id := 11) rfl rfl rfl rfl rfl rfl rfl ?_) | (show O _ _ _ _ (⟨_, .store _ _ _, _, _, _, _⟩ :: _) _ _; refine kJ rfl rfl rfl rfl rfl rfl rfl rfl rfl rfl rfl ?_) | apply kK) | apply kL | ((first | apply kM | apply kN); (iterate 3 (· exact rfl)); (· first | (show Y _ ⟨_, .indexAddr _ _ _, _, _, _, _⟩ _ _ _; first | exact Y.mk (ok_indexE (ho) rfl rfl rfl rfl rfl (by omega))) | (show Y _ ⟨_, .call ⟨.value _, _, _⟩, _, _, _, _⟩ _ _ _; first | exact q_c (c2) rfl) | exact ya)) | refine kO rfl rfl rfl rfl rfl ?_ | refine kP rfl rfl rfl ?_ | ((first | refine kQ rfl rfl ?_ ?_ | refine kR rfl rfl rfl rfl rfl ?_ ?_ | refine kS rfl rfl rfl ?_ ?_) <;> intro hc <;> (try simp only [KL, cond_true, cond_false, beq_iff_eq, bne_iff_ne, ne_eq, reduceCtorEq] at hc) <;> (try (have hT : True := hc; clear hT hc)) <;> (try (exfalso; omega))) | apply kT | apply kU | apply kV | apply kW | refine kX rfl ?_ | apply kY | apply kZ)
      all_goals first | (exfalso; omega) | exact ⟨k + 1, ⟨by omega, fun j hj => by
        by_cases e : j = k
        · subst e; rw [ho]; exact hs
        · exact hp j (by omega)⟩, by omega, les, leh⟩
  · subst hkl
    have e : S.objects.all smallB = true := List.all_eq_true.2 fun o ho => by
      obtain ⟨j, hj, rfl⟩ := List.getElem_of_mem ho
      have := hp j hj
      simpa [hj] using this
    rw [e]
    repeat' (first | (show W _ _ _ _ _ _; first | apply kA | refine kB rfl ?_ | refine kC rfl rfl ?_ | refine kD rfl rfl ?_ | apply kE | apply kF | apply kG | apply kH | refine kI (by kernel_rfl) (by kernel_rfl) ?_) | (show O _ _ _ _ _ _ _; first | (show O _ _ _ _ (⟨_, .store _ _ _, _, _, _, _⟩ :: _) _ _; refine kJ rfl rfl rfl rfl rfl rfl rfl rfl rfl rfl rfl ?_) | apply kK) | apply kL | ((first | apply kM | apply kN); (iterate 3 (· exact rfl)); (· first | exact ya)) | refine kO rfl rfl rfl rfl rfl ?_ | refine kP rfl rfl rfl ?_ | ((first | refine kQ rfl rfl ?_ ?_ | refine kR rfl rfl rfl rfl rfl ?_ ?_ | refine kS rfl rfl rfl ?_ ?_) <;> intro hc <;> (try simp only [KL, cond_true, cond_false, beq_iff_eq, bne_iff_ne, ne_eq, reduceCtorEq] at hc) <;> (try (have hT : True := hc; clear hT hc)) <;> (try (exfalso; omega))) | apply kT | apply kU | apply kV | apply kW | refine kX rfl ?_ | apply kY | apply kZ)
    all_goals first | (exfalso; omega) | exact retq rfl rfl
abbrev objD (S : System) (k : Int) : Object := S.objects.getD k.toNat default
abbrev tskD (S : System) (i : Int) : Task := S.tasks.getD i.toNat default
def roleO (o : Object) (i : Int) : Int := if o.kind < 1 ∨ 6 < o.kind then 0 else if o.writer = i then wrO o.kind else if 0 ≤ idxI o.readers i then rdO o.kind else 0
def roleI (S : System) (i k : Int) : Int := if i < 0 ∨ (S.tasks.length : Int) ≤ i ∨ k < 0 ∨ (S.objects.length : Int) ≤ k then 0 else roleO (objD S k) i
theorem wr_pos (k : Int) : 0 < wrO k := by unfold wrO; split <;> omega
theorem rd_pos (k : Int) : 0 < rdO k := by unfold rdO; split <;> omega
theorem ops_in {k : Int} (h : ¬ (k < 1 ∨ 6 < k)) : opsW k = wrO k ∧ opsR k = rdO k ∧ opsB k = true := by
  refine ⟨?_, ?_, decide_eq_true (by omega)⟩
  · unfold opsW wrO; repeat' split
    all_goals omega
  · unfold opsR rdO; repeat' split
    all_goals omega
theorem role_fn (S : System) (h : OkS S) (i k : Int) : Fn Try.prog 30 [.agg (eSystem S), .int .i64 i, .int .i64 k] (.tup [.int .i64 (roleI S i k), .bool (decide (0 < roleI S i k))]) := by
  have h1 := h.tl
  have h2 := h.ol
  by_cases ho : i < 0 ∨ (S.tasks.length : Int) ≤ i ∨ k < 0 ∨ (S.objects.length : Int) ≤ k
  · rw [roleI, if_pos ho]
    refine fnb Try.func30 (entered_of (by kernel_rfl)) rfl rfl rfl ?_
    repeat' (first | (show W _ _ _ _ _ _; first | apply kA | refine kB rfl ?_ | refine kC rfl rfl ?_ | refine kD rfl rfl ?_ | apply kE | apply kF | apply kG | apply kH | refine kI (by kernel_rfl) (by kernel_rfl) ?_) | (show O _ _ _ _ _ _ _; first | (show O _ _ _ _ (⟨_, .store _ _ _, _, _, _, _⟩ :: _) _ _; refine kJ rfl rfl rfl rfl rfl rfl rfl rfl rfl rfl rfl ?_) | apply kK) | apply kL | ((first | apply kM | apply kN); (iterate 3 (· exact rfl)); (· first | exact ya)) | refine kO rfl rfl rfl rfl rfl ?_ | refine kP rfl rfl rfl ?_ | ((first | refine kQ rfl rfl ?_ ?_ | refine kR rfl rfl rfl rfl rfl ?_ ?_ | refine kS rfl rfl rfl ?_ ?_) <;> intro hc <;> (try simp only [KL, cond_true, cond_false, beq_iff_eq, bne_iff_ne, ne_eq, reduceCtorEq] at hc) <;> (try (have hT : True := hc; clear hT hc)) <;> (try (exfalso; omega))) | apply kT | apply kU | apply kV | apply kW | refine kX rfl ?_ | apply kY | apply kZ)
    all_goals first | (exfalso; omega) | exact retq rfl rfl
  rw [roleI, if_neg ho]
  obtain ⟨m, rfl⟩ : ∃ m : Nat, k = m := ⟨k.toNat, by omega⟩
  have h3 := h.rl m
  rw [objD, Int.toNat_natCast]
  obtain ⟨o, hod⟩ : ∃ o, S.objects.getD m default = o := ⟨_, rfl⟩
  rw [hod] at h3 ⊢
  have c1 := ops_fn o.kind
  have c2 := reader_fn o i (by omega)
  by_cases hk : o.kind < 1 ∨ 6 < o.kind
  · rw [roleO, if_pos hk]
    rw [show opsB o.kind = false from decide_eq_false (by omega)] at c1
    refine fnb Try.func30 (entered_of (by kernel_rfl)) rfl rfl rfl ?_
    repeat' (first | (show W _ _ _ _ _ _; first | apply kA | refine kB rfl ?_ | refine kC rfl rfl ?_ | refine kD rfl rfl ?_ | apply kE | apply kF | apply kG | apply kH | refine kI (by kernel_rfl) (by kernel_rfl) ?_) | (show O _ _ _ _ _ _ _; first | (show O _ _ _ _ (⟨_, .alloc _, _, _, _, _⟩ :: _) _ _; first | refine ao_alloc (id := 10) rfl rfl rfl rfl rfl rfl rfl ?_) | (show O _ _ _ _ (⟨_, .store _ _ _, _, _, _, _⟩ :: _) _ _; refine kJ rfl rfl rfl rfl rfl rfl rfl rfl rfl rfl rfl ?_) | apply kK) | apply kL | ((first | apply kM | apply kN); (iterate 3 (· exact rfl)); (· first | (show Y _ ⟨_, .indexAddr _ _ _, _, _, _, _⟩ _ _ _; first | exact Y.mk (ok_indexE (hod) rfl rfl rfl rfl rfl (by omega))) | (show Y _ ⟨_, .call ⟨.value _, _, _⟩, _, _, _, _⟩ _ _ _; first | exact q_c (c1) rfl) | exact ya)) | refine kO rfl rfl rfl rfl rfl ?_ | refine kP rfl rfl rfl ?_ | ((first | refine kQ rfl rfl ?_ ?_ | refine kR rfl rfl rfl rfl rfl ?_ ?_ | refine kS rfl rfl rfl ?_ ?_) <;> intro hc <;> (try simp only [KL, cond_true, cond_false, beq_iff_eq, bne_iff_ne, ne_eq, reduceCtorEq] at hc) <;> (try (have hT : True := hc; clear hT hc)) <;> (try (exfalso; omega))) | apply kT | apply kU | apply kV | apply kW | refine kX rfl ?_ | apply kY | apply kZ)
    all_goals first | (exfalso; omega) | exact retq rfl rfl
  obtain ⟨e1, e2, e3⟩ := ops_in hk
  rw [e1, e2, e3] at c1
  rw [roleO, if_neg hk]
  have p1 := wr_pos o.kind
  have p2 := rd_pos o.kind
  by_cases hw : o.writer = i
  · rw [if_pos hw, decide_eq_true p1]
    refine fnb Try.func30 (entered_of (by kernel_rfl)) rfl rfl rfl ?_
    repeat' (first | (show W _ _ _ _ _ _; first | apply kA | refine kB rfl ?_ | refine kC rfl rfl ?_ | refine kD rfl rfl ?_ | apply kE | apply kF | apply kG | apply kH | refine kI (by kernel_rfl) (by kernel_rfl) ?_) | (show O _ _ _ _ _ _ _; first | (show O _ _ _ _ (⟨_, .alloc _, _, _, _, _⟩ :: _) _ _; first | refine ao_alloc (id := 10) rfl rfl rfl rfl rfl rfl rfl ?_) | (show O _ _ _ _ (⟨_, .store _ _ _, _, _, _, _⟩ :: _) _ _; refine kJ rfl rfl rfl rfl rfl rfl rfl rfl rfl rfl rfl ?_) | apply kK) | apply kL | ((first | apply kM | apply kN); (iterate 3 (· exact rfl)); (· first | (show Y _ ⟨_, .indexAddr _ _ _, _, _, _, _⟩ _ _ _; first | exact Y.mk (ok_indexE (hod) rfl rfl rfl rfl rfl (by omega))) | (show Y _ ⟨_, .call ⟨.value _, _, _⟩, _, _, _, _⟩ _ _ _; first | exact q_c (c1) rfl) | exact ya)) | refine kO rfl rfl rfl rfl rfl ?_ | refine kP rfl rfl rfl ?_ | ((first | refine kQ rfl rfl ?_ ?_ | refine kR rfl rfl rfl rfl rfl ?_ ?_ | refine kS rfl rfl rfl ?_ ?_) <;> intro hc <;> (try simp only [KL, cond_true, cond_false, beq_iff_eq, bne_iff_ne, ne_eq, reduceCtorEq] at hc) <;> (try (have hT : True := hc; clear hT hc)) <;> (try (exfalso; omega))) | apply kT | apply kU | apply kV | apply kW | refine kX rfl ?_ | apply kY | apply kZ)
    all_goals first | (exfalso; omega) | exact retq rfl rfl
  rw [if_neg hw]
  by_cases hr : 0 ≤ idxI o.readers i
  · rw [if_pos hr, decide_eq_true p2]
    rw [decide_eq_true hr] at c2
    refine fnb Try.func30 (entered_of (by kernel_rfl)) rfl rfl rfl ?_
    repeat' (first | (show W _ _ _ _ _ _; first | apply kA | refine kB rfl ?_ | refine kC rfl rfl ?_ | refine kD rfl rfl ?_ | apply kE | apply kF | apply kG | apply kH | refine kI (by kernel_rfl) (by kernel_rfl) ?_) | (show O _ _ _ _ _ _ _; first | (show O _ _ _ _ (⟨_, .alloc _, _, _, _, _⟩ :: _) _ _; first | refine ao_alloc (id := 10) rfl rfl rfl rfl rfl rfl rfl ?_) | (show O _ _ _ _ (⟨_, .store _ _ _, _, _, _, _⟩ :: _) _ _; refine kJ rfl rfl rfl rfl rfl rfl rfl rfl rfl rfl rfl ?_) | apply kK) | apply kL | ((first | apply kM | apply kN); (iterate 3 (· exact rfl)); (· first | (show Y _ ⟨_, .indexAddr _ _ _, _, _, _, _⟩ _ _ _; first | exact Y.mk (ok_indexE (hod) rfl rfl rfl rfl rfl (by omega))) | (show Y _ ⟨_, .call ⟨.value _, _, _⟩, _, _, _, _⟩ _ _ _; first | exact q_c (c1) rfl | exact q_c (c2) rfl) | exact ya)) | refine kO rfl rfl rfl rfl rfl ?_ | refine kP rfl rfl rfl ?_ | ((first | refine kQ rfl rfl ?_ ?_ | refine kR rfl rfl rfl rfl rfl ?_ ?_ | refine kS rfl rfl rfl ?_ ?_) <;> intro hc <;> (try simp only [KL, cond_true, cond_false, beq_iff_eq, bne_iff_ne, ne_eq, reduceCtorEq] at hc) <;> (try (have hT : True := hc; clear hT hc)) <;> (try (exfalso; omega))) | apply kT | apply kU | apply kV | apply kW | refine kX rfl ?_ | apply kY | apply kZ)
    all_goals first | (exfalso; omega) | exact retq rfl rfl
  · rw [if_neg hr]
    rw [decide_eq_false hr] at c2
    refine fnb Try.func30 (entered_of (by kernel_rfl)) rfl rfl rfl ?_
    repeat' (first | (show W _ _ _ _ _ _; first | apply kA | refine kB rfl ?_ | refine kC rfl rfl ?_ | refine kD rfl rfl ?_ | apply kE | apply kF | apply kG | apply kH | refine kI (by kernel_rfl) (by kernel_rfl) ?_) | (show O _ _ _ _ _ _ _; first | (show O _ _ _ _ (⟨_, .alloc _, _, _, _, _⟩ :: _) _ _; first | refine ao_alloc (id := 10) rfl rfl rfl rfl rfl rfl rfl ?_) | (show O _ _ _ _ (⟨_, .store _ _ _, _, _, _, _⟩ :: _) _ _; refine kJ rfl rfl rfl rfl rfl rfl rfl rfl rfl rfl rfl ?_) | apply kK) | apply kL | ((first | apply kM | apply kN); (iterate 3 (· exact rfl)); (· first | (show Y _ ⟨_, .indexAddr _ _ _, _, _, _, _⟩ _ _ _; first | exact Y.mk (ok_indexE (hod) rfl rfl rfl rfl rfl (by omega))) | (show Y _ ⟨_, .call ⟨.value _, _, _⟩, _, _, _, _⟩ _ _ _; first | exact q_c (c1) rfl | exact q_c (c2) rfl) | exact ya)) | refine kO rfl rfl rfl rfl rfl ?_ | refine kP rfl rfl rfl ?_ | ((first | refine kQ rfl rfl ?_ ?_ | refine kR rfl rfl rfl rfl rfl ?_ ?_ | refine kS rfl rfl rfl ?_ ?_) <;> intro hc <;> (try simp only [KL, cond_true, cond_false, beq_iff_eq, bne_iff_ne, ne_eq, reduceCtorEq] at hc) <;> (try (have hT : True := hc; clear hT hc)) <;> (try (exfalso; omega))) | apply kT | apply kU | apply kV | apply kW | refine kX rfl ?_ | apply kY | apply kZ)
    all_goals first | (exfalso; omega) | exact retq rfl rfl
theorem rrole_fn (S : System) (h : OkS S) (i k : Int) : Fn Try.prog 31 [.agg (eSystem S), .int .i64 i, .int .i64 k] (.int .i64 (roleI S i k)) := by
  have h1 := h.tl
  have h2 := h.ol
  by_cases ho : i < 0 ∨ (S.tasks.length : Int) ≤ i ∨ k < 0 ∨ (S.objects.length : Int) ≤ k
  · rw [roleI, if_pos ho]
    refine fnb Try.func31 (entered_of (by kernel_rfl)) rfl rfl rfl ?_
    repeat' (first | (show W _ _ _ _ _ _; first | apply kA | refine kB rfl ?_ | refine kC rfl rfl ?_ | refine kD rfl rfl ?_ | apply kE | apply kF | apply kG | apply kH | refine kI (by kernel_rfl) (by kernel_rfl) ?_) | (show O _ _ _ _ _ _ _; first | (show O _ _ _ _ (⟨_, .store _ _ _, _, _, _, _⟩ :: _) _ _; refine kJ rfl rfl rfl rfl rfl rfl rfl rfl rfl rfl rfl ?_) | apply kK) | apply kL | ((first | apply kM | apply kN); (iterate 3 (· exact rfl)); (· first | exact ya)) | refine kO rfl rfl rfl rfl rfl ?_ | refine kP rfl rfl rfl ?_ | ((first | refine kQ rfl rfl ?_ ?_ | refine kR rfl rfl rfl rfl rfl ?_ ?_ | refine kS rfl rfl rfl ?_ ?_) <;> intro hc <;> (try simp only [KL, cond_true, cond_false, beq_iff_eq, bne_iff_ne, ne_eq, reduceCtorEq] at hc) <;> (try (have hT : True := hc; clear hT hc)) <;> (try (exfalso; omega))) | apply kT | apply kU | apply kV | apply kW | refine kX rfl ?_ | apply kY | apply kZ)
    all_goals first | (exfalso; omega) | exact retq rfl rfl
  rw [roleI, if_neg ho]
  obtain ⟨m, rfl⟩ : ∃ m : Nat, k = m := ⟨k.toNat, by omega⟩
  have h3 := h.rl m
  rw [objD, Int.toNat_natCast]
  obtain ⟨o, hod⟩ : ∃ o, S.objects.getD m default = o := ⟨_, rfl⟩
  rw [hod] at h3 ⊢
  have c1 := wr_fn o.kind
  have c2 := rd_fn o.kind
  have c3 := rreader_fn o i (by omega)
  by_cases hk : o.kind < 1 ∨ 6 < o.kind
  · rw [roleO, if_pos hk]
    refine fnb Try.func31 (entered_of (by kernel_rfl)) rfl rfl rfl ?_
    repeat' (first | (show W _ _ _ _ _ _; first | apply kA | refine kB rfl ?_ | refine kC rfl rfl ?_ | refine kD rfl rfl ?_ | apply kE | apply kF | apply kG | apply kH | refine kI (by kernel_rfl) (by kernel_rfl) ?_) | (show O _ _ _ _ _ _ _; first | (show O _ _ _ _ (⟨_, .alloc _, _, _, _, _⟩ :: _) _ _; first | refine ao_alloc (id := 10) rfl rfl rfl rfl rfl rfl rfl ?_) | (show O _ _ _ _ (⟨_, .store _ _ _, _, _, _, _⟩ :: _) _ _; refine kJ rfl rfl rfl rfl rfl rfl rfl rfl rfl rfl rfl ?_) | apply kK) | apply kL | ((first | apply kM | apply kN); (iterate 3 (· exact rfl)); (· first | (show Y _ ⟨_, .indexAddr _ _ _, _, _, _, _⟩ _ _ _; first | exact Y.mk (ok_indexE (hod) rfl rfl rfl rfl rfl (by omega))) | exact ya)) | refine kO rfl rfl rfl rfl rfl ?_ | refine kP rfl rfl rfl ?_ | ((first | refine kQ rfl rfl ?_ ?_ | refine kR rfl rfl rfl rfl rfl ?_ ?_ | refine kS rfl rfl rfl ?_ ?_) <;> intro hc <;> (try simp only [KL, cond_true, cond_false, beq_iff_eq, bne_iff_ne, ne_eq, reduceCtorEq] at hc) <;> (try (have hT : True := hc; clear hT hc)) <;> (try (exfalso; omega))) | apply kT | apply kU | apply kV | apply kW | refine kX rfl ?_ | apply kY | apply kZ)
    all_goals first | (exfalso; omega) | exact retq rfl rfl
  rw [roleO, if_neg hk]
  by_cases hw : o.writer = i
  · rw [if_pos hw]
    refine fnb Try.func31 (entered_of (by kernel_rfl)) rfl rfl rfl ?_
    repeat' (first | (show W _ _ _ _ _ _; first | apply kA | refine kB rfl ?_ | refine kC rfl rfl ?_ | refine kD rfl rfl ?_ | apply kE | apply kF | apply kG | apply kH | refine kI (by kernel_rfl) (by kernel_rfl) ?_) | (show O _ _ _ _ _ _ _; first | (show O _ _ _ _ (⟨_, .alloc _, _, _, _, _⟩ :: _) _ _; first | refine ao_alloc (id := 10) rfl rfl rfl rfl rfl rfl rfl ?_) | (show O _ _ _ _ (⟨_, .store _ _ _, _, _, _, _⟩ :: _) _ _; refine kJ rfl rfl rfl rfl rfl rfl rfl rfl rfl rfl rfl ?_) | apply kK) | apply kL | ((first | apply kM | apply kN); (iterate 3 (· exact rfl)); (· first | (show Y _ ⟨_, .indexAddr _ _ _, _, _, _, _⟩ _ _ _; first | exact Y.mk (ok_indexE (hod) rfl rfl rfl rfl rfl (by omega))) | (show Y _ ⟨_, .call ⟨.value _, _, _⟩, _, _, _, _⟩ _ _ _; first | exact q_c (c1) rfl) | exact ya)) | refine kO rfl rfl rfl rfl rfl ?_ | refine kP rfl rfl rfl ?_ | ((first | refine kQ rfl rfl ?_ ?_ | refine kR rfl rfl rfl rfl rfl ?_ ?_ | refine kS rfl rfl rfl ?_ ?_) <;> intro hc <;> (try simp only [KL, cond_true, cond_false, beq_iff_eq, bne_iff_ne, ne_eq, reduceCtorEq] at hc) <;> (try (have hT : True := hc; clear hT hc)) <;> (try (exfalso; omega))) | apply kT | apply kU | apply kV | apply kW | refine kX rfl ?_ | apply kY | apply kZ)
    all_goals first | (exfalso; omega) | exact retq rfl rfl
  rw [if_neg hw]
  by_cases hr : 0 ≤ idxI o.readers i
  · rw [if_pos hr]
    refine fnb Try.func31 (entered_of (by kernel_rfl)) rfl rfl rfl ?_
    repeat' (first | (show W _ _ _ _ _ _; first | apply kA | refine kB rfl ?_ | refine kC rfl rfl ?_ | refine kD rfl rfl ?_ | apply kE | apply kF | apply kG | apply kH | refine kI (by kernel_rfl) (by kernel_rfl) ?_) | (show O _ _ _ _ _ _ _; first | (show O _ _ _ _ (⟨_, .alloc _, _, _, _, _⟩ :: _) _ _; first | refine ao_alloc (id := 10) rfl rfl rfl rfl rfl rfl rfl ?_) | (show O _ _ _ _ (⟨_, .store _ _ _, _, _, _, _⟩ :: _) _ _; refine kJ rfl rfl rfl rfl rfl rfl rfl rfl rfl rfl rfl ?_) | apply kK) | apply kL | ((first | apply kM | apply kN); (iterate 3 (· exact rfl)); (· first | (show Y _ ⟨_, .indexAddr _ _ _, _, _, _, _⟩ _ _ _; first | exact Y.mk (ok_indexE (hod) rfl rfl rfl rfl rfl (by omega))) | (show Y _ ⟨_, .call ⟨.value _, _, _⟩, _, _, _, _⟩ _ _ _; first | exact q_c (c1) rfl | exact q_c (c2) rfl | exact q_c (c3) rfl) | exact ya)) | refine kO rfl rfl rfl rfl rfl ?_ | refine kP rfl rfl rfl ?_ | ((first | refine kQ rfl rfl ?_ ?_ | refine kR rfl rfl rfl rfl rfl ?_ ?_ | refine kS rfl rfl rfl ?_ ?_) <;> intro hc <;> (try simp only [KL, cond_true, cond_false, beq_iff_eq, bne_iff_ne, ne_eq, reduceCtorEq] at hc) <;> (try (have hT : True := hc; clear hT hc)) <;> (try (exfalso; omega))) | apply kT | apply kU | apply kV | apply kW | refine kX rfl ?_ | apply kY | apply kZ)
    all_goals first | (exfalso; omega) | exact retq rfl rfl
  · rw [if_neg hr]
    refine fnb Try.func31 (entered_of (by kernel_rfl)) rfl rfl rfl ?_
    repeat' (first | (show W _ _ _ _ _ _; first | apply kA | refine kB rfl ?_ | refine kC rfl rfl ?_ | refine kD rfl rfl ?_ | apply kE | apply kF | apply kG | apply kH | refine kI (by kernel_rfl) (by kernel_rfl) ?_) | (show O _ _ _ _ _ _ _; first | (show O _ _ _ _ (⟨_, .alloc _, _, _, _, _⟩ :: _) _ _; first | refine ao_alloc (id := 10) rfl rfl rfl rfl rfl rfl rfl ?_) | (show O _ _ _ _ (⟨_, .store _ _ _, _, _, _, _⟩ :: _) _ _; refine kJ rfl rfl rfl rfl rfl rfl rfl rfl rfl rfl rfl ?_) | apply kK) | apply kL | ((first | apply kM | apply kN); (iterate 3 (· exact rfl)); (· first | (show Y _ ⟨_, .indexAddr _ _ _, _, _, _, _⟩ _ _ _; first | exact Y.mk (ok_indexE (hod) rfl rfl rfl rfl rfl (by omega))) | (show Y _ ⟨_, .call ⟨.value _, _, _⟩, _, _, _, _⟩ _ _ _; first | exact q_c (c1) rfl | exact q_c (c2) rfl | exact q_c (c3) rfl) | exact ya)) | refine kO rfl rfl rfl rfl rfl ?_ | refine kP rfl rfl rfl ?_ | ((first | refine kQ rfl rfl ?_ ?_ | refine kR rfl rfl rfl rfl rfl ?_ ?_ | refine kS rfl rfl rfl ?_ ?_) <;> intro hc <;> (try simp only [KL, cond_true, cond_false, beq_iff_eq, bne_iff_ne, ne_eq, reduceCtorEq] at hc) <;> (try (have hT : True := hc; clear hT hc)) <;> (try (exfalso; omega))) | apply kT | apply kU | apply kV | apply kW | refine kX rfl ?_ | apply kY | apply kZ)
    all_goals first | (exfalso; omega) | exact retq rfl rfl
end Go.Proofs.Ytkkmageogkkchaa
