/- Frames: copies, whether two are the same, what becomes of a step. No condition. -/
import Derived.Test.YtffciebjpiljgaaG14
import Derived.DeepKeys
import Derived.Test.YtffciebjpiljgaaG6
namespace Go.Proofs.Ytffciebjpiljgaa
set_option linter.unusedSimpArgs false
set_option linter.unusedVariables false
set_option maxRecDepth 100000
set_option linter.unusedSimpArgs false
set_option linter.unusedVariables false
set_option maxRecDepth 100000
open Go.RowKit
abbrev dumI : Heap := [(5, .row 3 1 (([] : List Int).map eI))]
abbrev tnH (i : Nat) (tn : List Int) : Heap := [(i, .row 3 1 (tn.map eI))]
theorem clO_I (l : List Int) (hn : l.length ≤ 1000000) : FnH Try.prog 93 [.lst 1 (l.map eI)] dumI (fun r h' => r = .own 5 ∧ h' = tnH 5 l) := by
  refine FnH.drop' (fnhb Try.func93 (entered_of (by kernel_rfl)) rfl rfl ?_)
  refine wle (s' := [(0, .lst 1 (l.map eI))]) (h' := []) les leh ?_
  repeat' (first | (show W _ _ _ _ _ _; first | apply kA | refine kB rfl ?_ | refine kC rfl rfl ?_ | refine kD rfl rfl ?_ | apply kE | apply kF | apply kG | apply kH | refine kI (by kernel_rfl) (by kernel_rfl) ?_) | (show O _ _ _ _ _ _ _; first | (show O _ _ _ _ (⟨_, .store _ _ _, _, _, _, _⟩ :: _) _ _; refine kJ rfl rfl rfl rfl rfl rfl rfl rfl rfl rfl rfl ?_) | apply kK) | apply kL | ((first | apply kM | apply kN); (iterate 3 (· exact rfl)); (· first | exact ya)) | refine kO rfl rfl rfl rfl rfl ?_ | refine kP rfl rfl rfl ?_ | ((first | refine kQ rfl rfl ?_ ?_ | refine kR rfl rfl rfl rfl rfl ?_ ?_ | refine kS rfl rfl rfl ?_ ?_) <;> intro hc <;> (try simp only [KL, cond_true, cond_false, beq_iff_eq, bne_iff_ne, ne_eq, reduceCtorEq] at hc) <;> (try (have hT : True := hc; clear hT hc)) <;> (try (exfalso; omega))) | apply kT | apply kU | apply kV | apply kW | refine kX rfl ?_ | apply kY | apply kZ)
  refine ao_nilq rfl rfl rfl rfl rfl rfl rfl (fun b hb => ?_)
  cases b
  · repeat' (first | (show W _ _ _ _ _ _; first | apply kA | refine kB rfl ?_ | refine kC rfl rfl ?_ | refine kD rfl rfl ?_ | apply kE | apply kF | apply kG | apply kH | refine kI (by kernel_rfl) (by kernel_rfl) ?_) | (show O _ _ _ _ _ _ _; first | (show O _ _ _ _ (⟨_, .store _ _ _, _, _, _, _⟩ :: _) _ _; refine kJ rfl rfl rfl rfl rfl rfl rfl rfl rfl rfl rfl ?_) | apply kK) | apply kL | ((first | apply kM | apply kN); (iterate 3 (· exact rfl)); (· first | exact yag)) | refine kO rfl rfl rfl rfl rfl ?_ | refine kP rfl rfl rfl ?_ | ((first | refine kQ rfl rfl ?_ ?_ | refine kR rfl rfl rfl rfl rfl ?_ ?_ | refine kS rfl rfl rfl ?_ ?_) <;> intro hc <;> (try simp only [KL, cond_true, cond_false, beq_iff_eq, bne_iff_ne, ne_eq, reduceCtorEq] at hc) <;> (try (have hT : True := hc; clear hT hc)) <;> (try (exfalso; omega))) | apply kT | apply kU | apply kV | apply kW | refine kX rfl ?_ | apply kY | apply kZ)
    refine o_blit (f := eI) (l := []) (id := 5) (sz := 1) rfl rfl rfl rfl rfl rfl rfl rfl rfl rfl rfl rfl rfl rfl ?_
    repeat' (first | (show W _ _ _ _ _ _; first | apply kA | refine kB rfl ?_ | refine kC rfl rfl ?_ | refine kD rfl rfl ?_ | apply kE | apply kF | apply kG | apply kH | refine kI (by kernel_rfl) (by kernel_rfl) ?_) | (show O _ _ _ _ _ _ _; first | (show O _ _ _ _ (⟨_, .store _ _ _, _, _, _, _⟩ :: _) _ _; refine kJ rfl rfl rfl rfl rfl rfl rfl rfl rfl rfl rfl ?_) | apply kK) | apply kL | ((first | apply kM | apply kN); (iterate 3 (· exact rfl)); (· first | exact ya)) | refine kO rfl rfl rfl rfl rfl ?_ | refine kP rfl rfl rfl ?_ | ((first | refine kQ rfl rfl ?_ ?_ | refine kR rfl rfl rfl rfl rfl ?_ ?_ | refine kS rfl rfl rfl ?_ ?_) <;> intro hc <;> (try simp only [KL, cond_true, cond_false, beq_iff_eq, bne_iff_ne, ne_eq, reduceCtorEq] at hc) <;> (try (have hT : True := hc; clear hT hc)) <;> (try (exfalso; omega))) | apply kT | apply kU | apply kV | apply kW | refine kX rfl ?_ | apply kY | apply kZ)
    (refine ao_ap (id := 5) (ys := l) (by_ := 8) rfl rfl rfl rfl rfl rfl rfl rfl rfl rfl (fun _ _ => rfl) ?_ ?_ rfl rfl rfl rfl rfl ?_; (· (first | omega | ((try simp only [List.length_cons, List.length_nil, List.length_append, List.length_map]) <;> omega))); (· (first | omega | ((try simp only [List.length_cons, List.length_nil, List.length_append, List.length_map]) <;> omega))))
    repeat' (first | (show W _ _ _ _ _ _; first | apply kA | refine kB rfl ?_ | refine kC rfl rfl ?_ | refine kD rfl rfl ?_ | apply kE | apply kF | apply kG | apply kH | refine kI (by kernel_rfl) (by kernel_rfl) ?_) | (show O _ _ _ _ _ _ _; first | (show O _ _ _ _ (⟨_, .store _ _ _, _, _, _, _⟩ :: _) _ _; refine kJ rfl rfl rfl rfl rfl rfl rfl rfl rfl rfl rfl ?_) | apply kK) | apply kL | ((first | apply kM | apply kN); (iterate 3 (· exact rfl)); (· first | exact ya)) | refine kO rfl rfl rfl rfl rfl ?_ | refine kP rfl rfl rfl ?_ | ((first | refine kQ rfl rfl ?_ ?_ | refine kR rfl rfl rfl rfl rfl ?_ ?_ | refine kS rfl rfl rfl ?_ ?_) <;> intro hc <;> (try simp only [KL, cond_true, cond_false, beq_iff_eq, bne_iff_ne, ne_eq, reduceCtorEq] at hc) <;> (try (have hT : True := hc; clear hT hc)) <;> (try (exfalso; omega))) | apply kT | apply kU | apply kV | apply kW | refine kX rfl ?_ | apply kY | apply kZ)
    exact retq rfl ⟨tnH 5 l, leh, rfl, rfl⟩
  · have h0 : l = [] := by simpa using hb rfl
    subst h0
    repeat' (first | (show W _ _ _ _ _ _; first | apply kA | refine kB rfl ?_ | refine kC rfl rfl ?_ | refine kD rfl rfl ?_ | apply kE | apply kF | apply kG | apply kH | refine kI (by kernel_rfl) (by kernel_rfl) ?_) | (show O _ _ _ _ _ _ _; first | (show O _ _ _ _ (⟨_, .store _ _ _, _, _, _, _⟩ :: _) _ _; refine kJ rfl rfl rfl rfl rfl rfl rfl rfl rfl rfl rfl ?_) | apply kK) | apply kL | ((first | apply kM | apply kN); (iterate 3 (· exact rfl)); (· first | exact ya)) | refine kO rfl rfl rfl rfl rfl ?_ | refine kP rfl rfl rfl ?_ | ((first | refine kQ rfl rfl ?_ ?_ | refine kR rfl rfl rfl rfl rfl ?_ ?_ | refine kS rfl rfl rfl ?_ ?_) <;> intro hc <;> (try simp only [KL, cond_true, cond_false, beq_iff_eq, bne_iff_ne, ne_eq, reduceCtorEq] at hc) <;> (try (have hT : True := hc; clear hT hc)) <;> (try (exfalso; omega))) | apply kT | apply kU | apply kV | apply kW | refine kX rfl ?_ | apply kY | apply kZ)
    refine retT (fun _ => turn_own eI (t := 2) rfl 5 3 1 (by omega) rfl) ?_
    exact retq rfl ⟨tnH 5 [], leh, rfl, rfl⟩
theorem own13_fn (pc : Int) (rg : Nat → Int) (tn : List Int) (htl : tn.length ≤ 1000000) : FnH Try.prog 66 [.agg (eFw pc rg (.lst 1 (tn.map eI)))] dumI (fun r h' => r = .agg (eFw pc rg (.own 5)) ∧ h' = tnH 5 tn) := by
  refine FnH.drop' (fnhb Try.func66 (entered_of (by kernel_rfl)) rfl rfl ?_)
  repeat' (first | (show W _ _ _ _ _ _; first | apply kA | refine kB rfl ?_ | refine kC rfl rfl ?_ | refine kD rfl rfl ?_ | apply kE | apply kF | apply kG | apply kH | refine kI (by kernel_rfl) (by kernel_rfl) ?_) | (show O _ _ _ _ _ _ _; first | (show O _ _ _ _ (⟨_, .box _ _, _, _, _, _⟩ :: _) _ _; first | refine ao_box (id := 20) rfl rfl rfl rfl rfl rfl rfl rfl ?_) | (show O _ _ _ _ (⟨_, .alloc _, _, _, _, _⟩ :: _) _ _; first | refine ao_alloc (id := 21) rfl rfl rfl rfl rfl rfl rfl ?_) | (show O _ _ _ _ (⟨_, .store _ _ _, _, _, _, _⟩ :: _) _ _; refine kJ rfl rfl rfl rfl rfl rfl rfl rfl rfl rfl rfl ?_) | apply kK) | apply kL | ((first | apply kM | apply kN); (iterate 3 (· exact rfl)); (· first | exact yab)) | refine kO rfl rfl rfl rfl rfl ?_ | refine kP rfl rfl rfl ?_ | ((first | refine kQ rfl rfl ?_ ?_ | refine kR rfl rfl rfl rfl rfl ?_ ?_ | refine kS rfl rfl rfl ?_ ?_) <;> intro hc <;> (try simp only [KL, cond_true, cond_false, beq_iff_eq, bne_iff_ne, ne_eq, reduceCtorEq] at hc) <;> (try (have hT : True := hc; clear hT hc)) <;> (try (exfalso; omega))) | apply kT | apply kU | apply kV | apply kW | refine kX rfl ?_ | apply kY | apply kZ)
  refine zcall (fun i => i) (clO_I tn htl) rfl rfl leh rfl rfl rfl rfl rfl rfl (fun r h' hR => ?_)
  obtain ⟨rfl, rfl⟩ := hR
  refine ⟨rfl, rfl, ?_⟩
  repeat' (first | (show W _ _ _ _ _ _; first | apply kA | refine kB rfl ?_ | refine kC rfl rfl ?_ | refine kD rfl rfl ?_ | apply kE | apply kF | apply kG | apply kH | refine kI (by kernel_rfl) (by kernel_rfl) ?_) | (show O _ _ _ _ _ _ _; first | (show O _ _ _ _ (⟨_, .store _ _ _, _, _, _, _⟩ :: _) _ _; refine kJ rfl rfl rfl rfl rfl rfl rfl rfl rfl rfl rfl ?_) | apply kK) | apply kL | ((first | apply kM | apply kN); (iterate 3 (· exact rfl)); (· first | exact ya)) | refine kO rfl rfl rfl rfl rfl ?_ | refine kP rfl rfl rfl ?_ | ((first | refine kQ rfl rfl ?_ ?_ | refine kR rfl rfl rfl rfl rfl ?_ ?_ | refine kS rfl rfl rfl ?_ ?_) <;> intro hc <;> (try simp only [KL, cond_true, cond_false, beq_iff_eq, bne_iff_ne, ne_eq, reduceCtorEq] at hc) <;> (try (have hT : True := hc; clear hT hc)) <;> (try (exfalso; omega))) | apply kT | apply kU | apply kV | apply kW | refine kX rfl ?_ | apply kY | apply kZ)
  exact retq rfl ⟨tnH 5 tn, leh, rfl, rfl⟩
def kindI (op : Int) : Int := if 17 ≤ op ∧ op ≤ 20 then 1 else if op = 21 then 2 else 0
theorem kind13_fn (x : Instr) : Fn Try.prog 67 [.agg (eInstr x)] (.int .i64 (kindI x.op)) := by
  rw [kindI]
  by_cases h1 : 17 ≤ x.op ∧ x.op ≤ 20
  · rw [if_pos h1]
    refine fnb Try.func67 (entered_of (by kernel_rfl)) rfl rfl rfl ?_
    repeat' (first | (show W _ _ _ _ _ _; first | apply kA | refine kB rfl ?_ | refine kC rfl rfl ?_ | refine kD rfl rfl ?_ | apply kE | apply kF | apply kG | apply kH | refine kI (by kernel_rfl) (by kernel_rfl) ?_) | (show O _ _ _ _ _ _ _; first | (show O _ _ _ _ (⟨_, .store _ _ _, _, _, _, _⟩ :: _) _ _; refine kJ rfl rfl rfl rfl rfl rfl rfl rfl rfl rfl rfl ?_) | apply kK) | apply kL | ((first | apply kM | apply kN); (iterate 3 (· exact rfl)); (· first | exact ya)) | refine kO rfl rfl rfl rfl rfl ?_ | refine kP rfl rfl rfl ?_ | ((first | refine kQ rfl rfl ?_ ?_ | refine kR rfl rfl rfl rfl rfl ?_ ?_ | refine kS rfl rfl rfl ?_ ?_) <;> intro hc <;> (try simp only [KL, cond_true, cond_false, beq_iff_eq, bne_iff_ne, ne_eq, reduceCtorEq] at hc) <;> (try (have hT : True := hc; clear hT hc)) <;> (try (exfalso; omega))) | apply kT | apply kU | apply kV | apply kW | refine kX rfl ?_ | apply kY | apply kZ)
    all_goals first | (exfalso; omega) | exact retq rfl rfl
  · rw [if_neg h1]
    by_cases h2 : x.op = 21
    · rw [if_pos h2]
      refine fnb Try.func67 (entered_of (by kernel_rfl)) rfl rfl rfl ?_
      repeat' (first | (show W _ _ _ _ _ _; first | apply kA | refine kB rfl ?_ | refine kC rfl rfl ?_ | refine kD rfl rfl ?_ | apply kE | apply kF | apply kG | apply kH | refine kI (by kernel_rfl) (by kernel_rfl) ?_) | (show O _ _ _ _ _ _ _; first | (show O _ _ _ _ (⟨_, .store _ _ _, _, _, _, _⟩ :: _) _ _; refine kJ rfl rfl rfl rfl rfl rfl rfl rfl rfl rfl rfl ?_) | apply kK) | apply kL | ((first | apply kM | apply kN); (iterate 3 (· exact rfl)); (· first | exact ya)) | refine kO rfl rfl rfl rfl rfl ?_ | refine kP rfl rfl rfl ?_ | ((first | refine kQ rfl rfl ?_ ?_ | refine kR rfl rfl rfl rfl rfl ?_ ?_ | refine kS rfl rfl rfl ?_ ?_) <;> intro hc <;> (try simp only [KL, cond_true, cond_false, beq_iff_eq, bne_iff_ne, ne_eq, reduceCtorEq] at hc) <;> (try (have hT : True := hc; clear hT hc)) <;> (try (exfalso; omega))) | apply kT | apply kU | apply kV | apply kW | refine kX rfl ?_ | apply kY | apply kZ)
      all_goals first | (exfalso; omega) | exact retq rfl rfl
    · rw [if_neg h2]
      refine fnb Try.func67 (entered_of (by kernel_rfl)) rfl rfl rfl ?_
      repeat' (first | (show W _ _ _ _ _ _; first | apply kA | refine kB rfl ?_ | refine kC rfl rfl ?_ | refine kD rfl rfl ?_ | apply kE | apply kF | apply kG | apply kH | refine kI (by kernel_rfl) (by kernel_rfl) ?_) | (show O _ _ _ _ _ _ _; first | (show O _ _ _ _ (⟨_, .store _ _ _, _, _, _, _⟩ :: _) _ _; refine kJ rfl rfl rfl rfl rfl rfl rfl rfl rfl rfl rfl ?_) | apply kK) | apply kL | ((first | apply kM | apply kN); (iterate 3 (· exact rfl)); (· first | exact ya)) | refine kO rfl rfl rfl rfl rfl ?_ | refine kP rfl rfl rfl ?_ | ((first | refine kQ rfl rfl ?_ ?_ | refine kR rfl rfl rfl rfl rfl ?_ ?_ | refine kS rfl rfl rfl ?_ ?_) <;> intro hc <;> (try simp only [KL, cond_true, cond_false, beq_iff_eq, bne_iff_ne, ne_eq, reduceCtorEq] at hc) <;> (try (have hT : True := hc; clear hT hc)) <;> (try (exfalso; omega))) | apply kT | apply kU | apply kV | apply kW | refine kX rfl ?_ | apply kY | apply kZ)
      all_goals first | (exfalso; omega) | exact retq rfl rfl
/-- Eight words, held against each other. -/
def sameR (a b : Nat → Int) : Prop := a 0 = b 0 ∧ a 1 = b 1 ∧ a 2 = b 2 ∧ a 3 = b 3 ∧ a 4 = b 4 ∧ a 5 = b 5 ∧ a 6 = b 6 ∧ a 7 = b 7
instance (a b : Nat → Int) : Decidable (sameR a b) := by unfold sameR; infer_instance
def eRg (rg : Nat → Int) : List AV := [.int .u32 (rg 0), .int .u32 (rg 1), .int .u32 (rg 2), .int .u32 (rg 3), .int .u32 (rg 4), .int .u32 (rg 5), .int .u32 (rg 6), .int .u32 (rg 7)]
def vRg (rg : Nat → Int) : List Value := [.int .u32 (rg 0), .int .u32 (rg 1), .int .u32 (rg 2), .int .u32 (rg 3), .int .u32 (rg 4), .int .u32 (rg 5), .int .u32 (rg 6), .int .u32 (rg 7)]
def lRg (rg : Nat → Int) : List Lit := [.int .u32 (rg 0), .int .u32 (rg 1), .int .u32 (rg 2), .int .u32 (rg 3), .int .u32 (rg 4), .int .u32 (rg 5), .int .u32 (rg 6), .int .u32 (rg 7)]
def wf8 (a : Nat → Int) : Prop := (Lit.int .u32 (a 0)).wf = true ∧ (Lit.int .u32 (a 1)).wf = true ∧ (Lit.int .u32 (a 2)).wf = true ∧ (Lit.int .u32 (a 3)).wf = true ∧ (Lit.int .u32 (a 4)).wf = true ∧ (Lit.int .u32 (a 5)).wf = true ∧ (Lit.int .u32 (a 6)).wf = true ∧ (Lit.int .u32 (a 7)).wf = true
def sameF (f g : Fr) : Bool := decide (f.pc = g.pc ∧ sameR f.rg g.rg ∧ f.tn = g.tn)
end Go.Proofs.Ytffciebjpiljgaa
namespace Go.Proofs.Ytffciebjpiljgaa
set_option linter.unusedSimpArgs false
set_option linter.unusedVariables false
set_option maxRecDepth 100000
open Go.RowKit

/-- The word that a kind makes of two words. -/
def aluW (op b c : Int) : Int :=
  if op = 3 then (b + c) % 4294967296 else if op = 4 then (b - c) % 4294967296 else if op = 5 then (b * c) % 4294967296 else if op = 6 then ((b.toNat &&& c.toNat : Nat) : Int) else if op = 7 then ((b.toNat ||| c.toNat : Nat) : Int)
  else if op = 8 then ((b.toNat ^^^ c.toNat : Nat) : Int) else if op = 9 then (if b < c then 1 else 0) else if op = 10 then (if b = c then 1 else 0) else 0
def aluIs (op : Int) : Bool := decide (3 ≤ op ∧ op ≤ 10)

theorem aluIs_any (op : Int) (w : World) : Calls Try.prog 121 #[.int .i64 op] w fun e w' => e = .returned (.bool (aluIs op)) ∧ w = w' := by
  by_cases h1 : 3 ≤ op
  · by_cases h2 : op ≤ 10
    · go_enter Try.func121, Try.ntmps121
      go_wp2
      go_ret
      exact ⟨by simp [aluIs, h1, h2], rfl⟩
    · go_enter Try.func121, Try.ntmps121
      go_wp2
      go_ret
      exact ⟨by simp [aluIs, h1, h2], rfl⟩
  · go_enter Try.func121, Try.ntmps121
    go_wp2
    go_ret
    exact ⟨rbool (by simp [aluIs]; omega), rfl⟩

set_option maxHeartbeats 400000 in
theorem aluDo_any (op b c : Int) (w : World) (hb : 0 ≤ b) (hb' : b < 4294967296) (hc : 0 ≤ c) (hc' : c < 4294967296) :
    Calls Try.prog 100 #[.int .i64 op, .int .u32 b, .int .u32 c] w fun e w' => e = .returned (.tuple #[.int .u32 (aluW op b c), .bool (aluIs op)]) ∧ w = w' := by
  have ha := u32_and b c hb hb' hc hc'
  have ho := u32_or b c hb hb' hc hc'
  have hx := u32_xor b c hb hb' hc hc'
  by_cases h3 : op = 3
  · subst h3; go_enter Try.func100, Try.ntmps100; go_wp2_with (first | (go_at_call 121; refine (aluIs_any _ _).mono ?_; rintro e w' ⟨rfl, rfl⟩)); go_ret2; exact ⟨ret2 (vint (by simp [aluW])) rfl, rfl⟩
  by_cases h4 : op = 4
  · subst h4; go_enter Try.func100, Try.ntmps100; go_wp2_with (first | (go_at_call 121; refine (aluIs_any _ _).mono ?_; rintro e w' ⟨rfl, rfl⟩)); go_ret2; exact ⟨ret2 (vint (by simp [aluW])) rfl, rfl⟩
  by_cases h5 : op = 5
  · subst h5; go_enter Try.func100, Try.ntmps100; go_wp2_with (first | (go_at_call 121; refine (aluIs_any _ _).mono ?_; rintro e w' ⟨rfl, rfl⟩)); go_ret2; exact ⟨ret2 (vint (by simp [aluW])) rfl, rfl⟩
  by_cases h6 : op = 6
  · subst h6; go_enter Try.func100, Try.ntmps100; go_wp2_with (first | (go_at_call 121; refine (aluIs_any _ _).mono ?_; rintro e w' ⟨rfl, rfl⟩)); go_ret2; exact ⟨ret2 (vint (by simp [aluW, ha])) rfl, rfl⟩
  by_cases h7 : op = 7
  · subst h7; go_enter Try.func100, Try.ntmps100; go_wp2_with (first | (go_at_call 121; refine (aluIs_any _ _).mono ?_; rintro e w' ⟨rfl, rfl⟩)); go_ret2; exact ⟨ret2 (vint (by simp [aluW, ho])) rfl, rfl⟩
  by_cases h8 : op = 8
  · subst h8; go_enter Try.func100, Try.ntmps100; go_wp2_with (first | (go_at_call 121; refine (aluIs_any _ _).mono ?_; rintro e w' ⟨rfl, rfl⟩)); go_ret2; exact ⟨ret2 (vint (by simp [aluW, hx])) rfl, rfl⟩
  clear ha ho hx
  by_cases h9 : op = 9
  · subst h9
    by_cases hbc : b < c
    · go_enter Try.func100, Try.ntmps100; go_wp2_with (first | (go_at_call 121; refine (aluIs_any _ _).mono ?_; rintro e w' ⟨rfl, rfl⟩) | go_in); go_ret2; exact ⟨ret2 (vint (by simp [aluW, hbc])) rfl, rfl⟩
    · go_enter Try.func100, Try.ntmps100; go_wp2_with (first | (go_at_call 121; refine (aluIs_any _ _).mono ?_; rintro e w' ⟨rfl, rfl⟩) | go_in); go_ret2; exact ⟨ret2 (vint (by simp [aluW, hbc])) rfl, rfl⟩
  by_cases h10 : op = 10
  · subst h10
    by_cases hbc : b = c
    · have e1 : (b == c) = true := by simp [hbc]
      have hbc' := hide hbc; clear hbc
      go_enter Try.func100, Try.ntmps100; go_wp2_with (first | (go_at_call 121; refine (aluIs_any _ _).mono ?_; rintro e w' ⟨rfl, rfl⟩) | go_in); go_ret2; exact ⟨ret2 (vint (by simp [aluW, hbc'.out])) rfl, rfl⟩
    · have e1 : (b == c) = false := by simp [hbc]
      go_enter Try.func100, Try.ntmps100; go_wp2_with (first | (go_at_call 121; refine (aluIs_any _ _).mono ?_; rintro e w' ⟨rfl, rfl⟩) | go_in); go_ret2; exact ⟨ret2 (vint (by simp [aluW, hbc])) rfl, rfl⟩
  · go_enter Try.func100, Try.ntmps100; go_wp2_with (first | (go_at_call 121; refine (aluIs_any _ _).mono ?_; rintro e w' ⟨rfl, rfl⟩) | go_in); go_ret2; exact ⟨ret2 (vint (by simp [aluW, h3, h4, h5, h6, h7, h8, h9, h10])) rfl, rfl⟩

/-! ## The reference: bit by bit -/
/-- The bit that a kind makes of two bits. -/
def bitOf (op p q : Nat) : Nat := if op = 6 then p * q else if op = 7 then p + q - p * q else (p + q) % 2
/-- The lowest k bits of what a kind makes. -/
def low (op x y : Nat) : Nat → Nat
  | 0 => 0
  | k + 1 => low op x y k + 2 ^ k * bitOf op (x / 2 ^ k % 2) (y / 2 ^ k % 2)

/-- One round of the reference's loop: what the slots hold. -/
def slots (op x y k : Nat) (vx vy vw vb vi : Value) : Prop :=
  ∃ X Y B W : Nat, X = x / 2 ^ k ∧ Y = y / 2 ^ k ∧ B = 2 ^ k ∧ W = low op x y k ∧ vi = .int .i64 k ∧ vx = .int .u64 (X : Int) ∧ vy = .int .u64 (Y : Int) ∧ vb = .int .u64 (B : Int) ∧ vw = .int .u64 (W : Int)

end Go.Proofs.Ytffciebjpiljgaa
