/- Plain steps and runs (FrameGoes). No condition. -/
import Derived.Test.YtffciebjpiljgaaG20
import Derived.Test.YtffciebjpiljgaaG23
import Derived.Test.YtffciebjpiljgaaG24
namespace Go.Proofs.Ytffciebjpiljgaa
set_option linter.unusedSimpArgs false
set_option linter.unusedVariables false
set_option maxRecDepth 100000
set_option linter.unusedSimpArgs false
set_option linter.unusedVariables false
set_option maxRecDepth 100000
open Go.RowKit
def gT (f : Bool) (cs : List AV) : Heap := bif f then [(20, .blk 52 cs)] else []
def gH (L : List Int) (rf : Fr) (rs : Int) (rL : List Int) : Nat → Bool → Heap
  | 0, f => [(15, .row 3 1 (([] : List Int).map eI)), (16, .row 47 1 (([] : List Int).map eU))] ++ gT f (eFw 0 (fun _ => 0) .nils)
  | 1, f => [(15, .blk 124 [.own 16, .int .i64 0]), (16, .row 47 1 (L.map eU))] ++ gT f (eFw 0 (fun _ => 0) .nils)
  | 2, f => [(15, .blk 124 [.own 16, .int .i64 rs]), (16, .row 47 1 (rL.map eU))] ++ gT f (eFw 0 (fun _ => 0) .nils)
  | _ + 3, f => [(15, .blk 124 [.own 16, .int .i64 rs]), (16, .row 47 1 (rL.map eU))] ++ gT f (eFr rf)
def gN (i : Nat) : List Nat := bif Nat.beq i 7 then [15, 16] else []
set_option maxHeartbeats 4000000 in
theorem goes13_fn (pc : Int) (rg : Nat → Int) (tn : List Int) (p : List Instr) (L : List Int) (a l : Int) (h8 : ∀ i, 8 ≤ i → rg i = 0) : Fn Try.prog 12 [.agg (csF pc rg tn p L a l)] (.bool true) := by
  have c0 := awake13_fn
  have c1 := light13_fn pc rg tn p L a l
  refine fnb Try.func12 (entered_of (by kernel_rfl)) rfl rfl rfl ?_
  refine wagg 0 rfl (fun hall => ?_)
  refine waggl (sz := 5) 0 10 p eInstr rfl rfl (fun hpp => ?_)
  refine waggl (sz := 1) 0 11 L eU rfl rfl (fun hll => ?_)
  have hrg := regs_B h8 hall
  have hn := instr_n hpp
  have hLB := words_wB hll
  have hal := hall .i64 a (by simp [eFw])
  have hlr := hall .i64 l (by simp [eFw])
  simp only [rangeP] at hal hlr
  clear hall hpp hll
  by_cases hlen : p.length ≤ 200 ∧ L.length ≤ 300 ∧ tn.length ≤ 200
  case neg =>
    rw [decide_eq_false hlen] at c1
    repeat' (first | (show W _ _ _ _ _ _; first | apply kA | refine kB rfl ?_ | refine kC rfl rfl ?_ | refine kD rfl rfl ?_ | apply kE | apply kF | apply kG | apply kH | refine kI (by kernel_rfl) (by kernel_rfl) ?_) | (show O _ _ _ _ _ _ _; first | (show O _ _ _ _ (⟨_, .store _ _ _, _, _, _, _⟩ :: _) _ _; refine kJ rfl rfl rfl rfl rfl rfl rfl rfl rfl rfl rfl ?_) | apply kK) | apply kL | ((first | apply kM | apply kN); (iterate 3 (· exact rfl)); (· first | (show Y _ ⟨_, .call ⟨.value _, _, _⟩, _, _, _, _⟩ _ _ _; first | exact q_c (c0) rfl | exact q_c (c1) rfl) | exact ya)) | refine kO rfl rfl rfl rfl rfl ?_ | refine kP rfl rfl rfl ?_ | ((first | refine kQ rfl rfl ?_ ?_ | refine kR rfl rfl rfl rfl rfl ?_ ?_ | refine kS rfl rfl rfl ?_ ?_) <;> intro hc <;> (try simp only [KL, cond_true, cond_false, beq_iff_eq, bne_iff_ne, ne_eq, reduceCtorEq] at hc) <;> (try (have hT : True := hc; clear hT hc)) <;> (try (exfalso; omega))) | apply kT | apply kU | apply kV | apply kW | refine kX rfl ?_ | apply kY | apply kZ)
    all_goals first | (exfalso; omega) | exact retq rfl rfl
  rw [decide_eq_true hlen] at c1
  obtain ⟨hl1, hl2, hl3⟩ := hlen
  have hn0 := fun i => (hn i).1
  have cM := memory13_fn L (by omega)
  have cR := step13_fn p ⟨pc, rg, tn⟩ a l 0 L (by omega) hn hrg (by show tn.length ≤ _; omega) (by omega) (by decide)
  have hin := step_inv p ⟨pc, rg, tn⟩ a l 0 L hn hrg hLB
  have hwd := fun i => words_own (p := p) (f := ⟨pc, rg, tn⟩) (a := a) (l := l) (st := 0) (L := L) i
  have hwt := went_right (p := p) (f := ⟨pc, rg, tn⟩) (a := a) (l := l) (st := 0) (L := L) hn0
  generalize stepF p ⟨pc, rg, tn⟩ a l 0 L = S at cR hin hwd hwt
  obtain ⟨⟨pc2, rg2, tn2⟩, sk, ss, sL⟩ := S
  simp only at cR hin hwd hwt
  obtain ⟨_, _, hsl, htl2, hs0, hs1⟩ := hin
  have c7 := kright13_fn p pc2 rg2 tn2 (by omega) (by omega)
  have cT := msteps_fn ss sL
  have cW := words13_fn ss sL (by omega)
  have c11 := ones_fn p (by omega)
  have c12 := most_fn p (onesL p) hn0 (by omega) (by rw [onesL, List.length_replicate]; omega)
  have hcost : ∀ n, (costF max p (onesL p)) = (n, 0) → n ≤ 20000 → fineB p = true → ((runF p a l n.toNat ⟨0, fun _ => 0, List.replicate p.length 0⟩ 0 L).n : Int) < n := fun n e h h' => start_short h' hn0 a l L (by rw [e]) h
  have hfine : fineB p = false → (costF max p (onesL p)).2 ≠ 0 := fun e => by
    have h1 : (checkF p).2 ≠ 0 := of_decide_eq_false e
    rw [costF, if_pos h1]
    exact h1
  change Fn _ _ _ (.lst 1 ((onesL p).map eI)) at c11
  generalize onesL p = os at *
  generalize costF max p os = co at *
  obtain ⟨n, e⟩ := co
  simp only at c12 hcost hfine
  have c9 := start13_fn p (by omega)
  repeat' (first | (show W _ _ _ _ _ _; first | apply kA | refine kB rfl ?_ | refine kC rfl rfl ?_ | refine kD rfl rfl ?_ | apply kE | apply kF | apply kG | apply kH | refine kI (by kernel_rfl) (by kernel_rfl) ?_) | (show O _ _ _ _ _ _ _; first | (show O _ _ _ _ (⟨_, .store _ _ _, _, _, _, _⟩ :: _) _ _; refine kJ rfl rfl rfl rfl rfl rfl rfl rfl rfl rfl rfl ?_) | apply kK) | apply kL | ((first | apply kM | apply kN); (iterate 3 (· exact rfl)); (· first | (show Y _ ⟨_, .call ⟨.value _, _, _⟩, _, _, _, _⟩ _ _ _; first | exact q_c (c0) rfl | exact q_c (c1) rfl) | exact ya)) | refine kO rfl rfl rfl rfl rfl ?_ | refine kP rfl rfl rfl ?_ | ((first | refine kQ rfl rfl ?_ ?_ | refine kR rfl rfl rfl rfl rfl ?_ ?_ | refine kS rfl rfl rfl ?_ ?_) <;> intro hc <;> (try simp only [KL, cond_true, cond_false, beq_iff_eq, bne_iff_ne, ne_eq, reduceCtorEq] at hc) <;> (try (have hT : True := hc; clear hT hc)) <;> (try (exfalso; omega))) | apply kT | apply kU | apply kV | apply kW | refine kX rfl ?_ | apply kY | apply kZ)
  all_goals first | (exfalso; omega) | skip
  refine oturn (turn_dummy eI 15 3 1 (by omega) rfl) ?_
  refine oturn (turn_dummy eU 16 47 1 (by omega) rfl) ?_
  refine zcall (fun i => i + 10) (cM) rfl rfl leh rfl rfl rfl rfl rfl rfl (fun r h' hR => ?_)
  obtain ⟨rfl, rfl⟩ := hR
  refine ⟨rfl, rfl, ?_⟩
  repeat' (first | (show W _ _ _ _ _ _; first | apply kA | refine kB rfl ?_ | refine kC rfl rfl ?_ | refine kD rfl rfl ?_ | apply kE | apply kF | apply kG | apply kH | refine kI (by kernel_rfl) (by kernel_rfl) ?_) | (show O _ _ _ _ _ _ _; first | (show O _ _ _ _ (⟨_, .store _ _ _, _, _, _, _⟩ :: _) _ _; refine kJ rfl rfl rfl rfl rfl rfl rfl rfl rfl rfl rfl ?_) | apply kK) | apply kL | ((first | apply kM | apply kN); (iterate 3 (· exact rfl)); (· first | exact ya)) | refine kO rfl rfl rfl rfl rfl ?_ | refine kP rfl rfl rfl ?_ | ((first | refine kQ rfl rfl ?_ ?_ | refine kR rfl rfl rfl rfl rfl ?_ ?_ | refine kS rfl rfl rfl ?_ ?_) <;> intro hc <;> (try simp only [KL, cond_true, cond_false, beq_iff_eq, bne_iff_ne, ne_eq, reduceCtorEq] at hc) <;> (try (have hT : True := hc; clear hT hc)) <;> (try (exfalso; omega))) | apply kT | apply kU | apply kV | apply kW | refine kX rfl ?_ | apply kY | apply kZ)
  refine zcall (fun i => i + 14) (cR) rfl rfl leh rfl rfl rfl rfl rfl rfl (fun r h' hR => ?_)
  obtain ⟨rfl, rfl⟩ := hR
  refine ⟨rfl, rfl, ?_⟩
  have main : ∀ (s : Slots) (h : Heap), True := fun _ _ => trivial
  by_cases hk : sk = 0
  · obtain ⟨hne, hrt⟩ := hwt hk
    rw [hrt] at c7
    repeat' (first | (show W _ _ _ _ _ _; first | apply kA | refine kB rfl ?_ | refine kC rfl rfl ?_ | refine kD rfl rfl ?_ | apply kE | apply kF | apply kG | apply kH | refine kI (by kernel_rfl) (by kernel_rfl) ?_) | (show O _ _ _ _ _ _ _; first | (show O _ _ _ _ (⟨_, .alloc _, _, _, _, _⟩ :: _) _ _; first | refine ao_alloc (id := 20) rfl rfl rfl rfl rfl rfl rfl ?_) | (show O _ _ _ _ (⟨_, .store _ _ _, _, _, _, _⟩ :: _) _ _; refine kJ rfl rfl rfl rfl rfl rfl rfl rfl rfl rfl rfl ?_) | apply kK) | apply kL | ((first | apply kM | apply kN); (iterate 3 (· exact rfl)); (· first | (show Y _ ⟨_, .call ⟨.value _, _, _⟩, _, _, _, _⟩ _ _ _; first | exact q_c (c7) rfl) | exact ya)) | refine kO rfl rfl rfl rfl rfl ?_ | refine kP rfl rfl rfl ?_ | ((first | refine kQ rfl rfl ?_ ?_ | refine kR rfl rfl rfl rfl rfl ?_ ?_ | refine kS rfl rfl rfl ?_ ?_) <;> intro hc <;> (try simp only [KL, cond_true, cond_false, beq_iff_eq, bne_iff_ne, ne_eq, reduceCtorEq] at hc) <;> (try (have hT : True := hc; clear hT hc)) <;> (try (exfalso; omega))) | apply kT | apply kU | apply kV | apply kW | refine kX rfl ?_ | apply kY | apply kZ)
    all_goals first | (exfalso; omega) | skip
    refine zcall (fun i => i + 14) (cT) rfl rfl leh rfl rfl rfl rfl rfl rfl (fun r h' hR => ?_)
    obtain ⟨rfl, rfl⟩ := hR
    refine ⟨rfl, rfl, ?_⟩
    repeat' (first | (show W _ _ _ _ _ _; first | apply kA | refine kB rfl ?_ | refine kC rfl rfl ?_ | refine kD rfl rfl ?_ | apply kE | apply kF | apply kG | apply kH | refine kI (by kernel_rfl) (by kernel_rfl) ?_) | (show O _ _ _ _ _ _ _; first | (show O _ _ _ _ (⟨_, .store _ _ _, _, _, _, _⟩ :: _) _ _; refine kJ rfl rfl rfl rfl rfl rfl rfl rfl rfl rfl rfl ?_) | apply kK) | apply kL | ((first | apply kM | apply kN); (iterate 3 (· exact rfl)); (· first | exact ya)) | refine kO rfl rfl rfl rfl rfl ?_ | refine kP rfl rfl rfl ?_ | ((first | refine kQ rfl rfl ?_ ?_ | refine kR rfl rfl rfl rfl rfl ?_ ?_ | refine kS rfl rfl rfl ?_ ?_) <;> intro hc <;> (try simp only [KL, cond_true, cond_false, beq_iff_eq, bne_iff_ne, ne_eq, reduceCtorEq] at hc) <;> (try (have hT : True := hc; clear hT hc)) <;> (try (exfalso; omega))) | apply kT | apply kU | apply kV | apply kW | refine kX rfl ?_ | apply kY | apply kZ)
    all_goals first | (exfalso; omega) | skip
    refine zcall (fun i => i + 14) (cW) rfl rfl leh rfl rfl rfl rfl rfl rfl (fun r h' hR => ?_)
    obtain ⟨rfl, rfl⟩ := hR
    refine ⟨rfl, rfl, ?_⟩
    repeat' (first | (show W _ _ _ _ _ _; first | apply kA | refine kB rfl ?_ | refine kC rfl rfl ?_ | refine kD rfl rfl ?_ | apply kE | apply kF | apply kG | apply kH) | (show O _ _ _ _ _ _ _; first | (show O _ _ _ _ (⟨_, .store _ _ _, _, _, _, _⟩ :: _) _ _; refine kJ rfl rfl rfl rfl rfl rfl rfl rfl rfl rfl rfl ?_) | apply kK) | apply kL | ((first | apply kM | apply kN); (iterate 3 (· exact rfl)); (· first | exact ya)) | refine kO rfl rfl rfl rfl rfl ?_ | refine kP rfl rfl rfl ?_ | ((first | refine kQ rfl rfl ?_ ?_ | refine kR rfl rfl rfl rfl rfl ?_ ?_ | refine kS rfl rfl rfl ?_ ?_) <;> intro hc <;> (try simp only [KL, cond_true, cond_false, beq_iff_eq, bne_iff_ne, ne_eq, reduceCtorEq] at hc) <;> (try (have hT : True := hc; clear hT hc)) <;> (try (exfalso; omega))) | apply kT | apply kU | apply kV | apply kW | refine kX rfl ?_ | apply kY | apply kZ)
    refine wloop (fun k : Nat => ([(1, .ref (csF pc rg tn p L a l)), (54, .lst 1 (sL.map eU)), (55, .int .i64 sL.length), (56, .int .i64 k)], [])) (fun k => k ≤ sL.length) (fun k => sL.length - k) 0 (Nat.zero_le _) les leh (fun k hk2 => ?_)
    rcases Nat.lt_or_eq_of_le hk2 with hlt | rfl
    · obtain ⟨u, hu⟩ : ∃ u, sL.getD k default = u := ⟨_, rfl⟩
      obtain ⟨v, hv⟩ : ∃ v, L.getD k default = v := ⟨_, rfl⟩
      have hw := hwd k
      rw [hu, hv] at hw
      by_cases huv : u = v
      · repeat' (first | (show W _ _ _ _ _ _; first | apply kA | refine kB rfl ?_ | refine kC rfl rfl ?_ | refine kD rfl rfl ?_ | apply kE | apply kF | apply kG | apply kH) | (show O _ _ _ _ _ _ _; first | (show O _ _ _ _ (⟨_, .store _ _ _, _, _, _, _⟩ :: _) _ _; refine kJ rfl rfl rfl rfl rfl rfl rfl rfl rfl rfl rfl ?_) | apply kK) | apply kL | ((first | apply kM | apply kN); (iterate 3 (· exact rfl)); (· first | (show Y _ ⟨_, .indexAddr _ _ _, _, _, _, _⟩ _ _ _; first | exact Y.mk (ok_indexE (hu) rfl rfl rfl rfl rfl (by omega)) | exact Y.mk (ok_indexE (hv) rfl rfl rfl rfl rfl (by omega))) | exact ya | exact q_w rfl)) | refine kO rfl rfl rfl rfl rfl ?_ | refine kP rfl rfl rfl ?_ | ((first | refine kQ rfl rfl ?_ ?_ | refine kR rfl rfl rfl rfl rfl ?_ ?_ | refine kS rfl rfl rfl ?_ ?_) <;> intro hc <;> (try simp only [KL, cond_true, cond_false, beq_iff_eq, bne_iff_ne, ne_eq, reduceCtorEq] at hc) <;> (try (have hT : True := hc; clear hT hc)) <;> (try (exfalso; omega))) | apply kT | apply kU | apply kV | apply kW | refine kX rfl ?_ | apply kY | apply kZ)
        all_goals first | (exfalso; omega) | exact ⟨k + 1, by omega, by omega, les, leh⟩
      · have hw := hw huv
        repeat' (first | (show W _ _ _ _ _ _; first | apply kA | refine kB rfl ?_ | refine kC rfl rfl ?_ | refine kD rfl rfl ?_ | apply kE | apply kF | apply kG | apply kH) | (show O _ _ _ _ _ _ _; first | (show O _ _ _ _ (⟨_, .store _ _ _, _, _, _, _⟩ :: _) _ _; refine kJ rfl rfl rfl rfl rfl rfl rfl rfl rfl rfl rfl ?_) | apply kK) | apply kL | ((first | apply kM | apply kN); (iterate 3 (· exact rfl)); (· first | (show Y _ ⟨_, .indexAddr _ _ _, _, _, _, _⟩ _ _ _; first | exact Y.mk (ok_indexE (hu) rfl rfl rfl rfl rfl (by omega)) | exact Y.mk (ok_indexE (hv) rfl rfl rfl rfl rfl (by omega))) | exact ya)) | refine kO rfl rfl rfl rfl rfl ?_ | refine kP rfl rfl rfl ?_ | ((first | refine kQ rfl rfl ?_ ?_ | refine kR rfl rfl rfl rfl rfl ?_ ?_ | refine kS rfl rfl rfl ?_ ?_) <;> intro hc <;> (try simp only [KL, cond_true, cond_false, beq_iff_eq, bne_iff_ne, ne_eq, reduceCtorEq] at hc) <;> (try (have hT : True := hc; clear hT hc)) <;> (try (exfalso; omega))) | apply kT | apply kU | apply kV | apply kW | refine kX rfl ?_ | apply kY | apply kZ)
        all_goals first | (exfalso; omega) | exact ⟨k + 1, by omega, by omega, les, leh⟩
    repeat' (first | (show W _ _ _ _ _ _; first | apply kA | refine kB rfl ?_ | refine kC rfl rfl ?_ | refine kD rfl rfl ?_ | apply kE | apply kF | apply kG | apply kH) | (show O _ _ _ _ _ _ _; first | (show O _ _ _ _ (⟨_, .store _ _ _, _, _, _, _⟩ :: _) _ _; refine kJ rfl rfl rfl rfl rfl rfl rfl rfl rfl rfl rfl ?_) | apply kK) | apply kL | ((first | apply kM | apply kN); (iterate 3 (· exact rfl)); (· first | exact ya)) | refine kO rfl rfl rfl rfl rfl ?_ | refine kP rfl rfl rfl ?_ | ((first | refine kQ rfl rfl ?_ ?_ | refine kR rfl rfl rfl rfl rfl ?_ ?_ | refine kS rfl rfl rfl ?_ ?_) <;> intro hc <;> (try simp only [KL, cond_true, cond_false, beq_iff_eq, bne_iff_ne, ne_eq, reduceCtorEq] at hc) <;> (try (have hT : True := hc; clear hT hc)) <;> (try (exfalso; omega))) | apply kT | apply kU | apply kV | apply kW | refine kX rfl ?_ | apply kY | apply kZ)
    all_goals first | (exfalso; omega) | skip
    refine wdraw (by kernel_rfl) (by kernel_rfl) ?_
    repeat' (first | (show W _ _ _ _ _ _; first | apply kA | refine kB rfl ?_ | refine kC rfl rfl ?_ | refine kD rfl rfl ?_ | apply kE | apply kF | apply kG | apply kH) | (show O _ _ _ _ _ _ _; first | (show O _ _ _ _ (⟨_, .store _ _ _, _, _, _, _⟩ :: _) _ _; refine kJ rfl rfl rfl rfl rfl rfl rfl rfl rfl rfl rfl ?_) | apply kK) | apply kL | ((first | apply kM | apply kN); (iterate 3 (· exact rfl)); (· first | (show Y _ ⟨_, .call ⟨.value _, _, _⟩, _, _, _, _⟩ _ _ _; first | exact q_c (c11) rfl | exact q_c (c12) rfl | exact q_c (c0) rfl) | exact ya)) | refine kO rfl rfl rfl rfl rfl ?_ | refine kP rfl rfl rfl ?_ | ((first | refine kQ rfl rfl ?_ ?_ | refine kR rfl rfl rfl rfl rfl ?_ ?_ | refine kS rfl rfl rfl ?_ ?_) <;> intro hc <;> (try simp only [KL, cond_true, cond_false, beq_iff_eq, bne_iff_ne, ne_eq, reduceCtorEq] at hc) <;> (try (have hT : True := hc; clear hT hc)) <;> (try (exfalso; omega))) | apply kT | apply kU | apply kV | apply kW | refine kX rfl ?_ | apply kY | apply kZ)
    all_goals first | (exfalso; omega) | exact retq rfl rfl | skip
    have he0 : e = 0 := by omega
    have hfb : fineB p = true := by
      cases hq : fineB p with
      | true => rfl
      | false => exact absurd he0 (hfine hq)
    have hsh := hcost n (by rw [he0]) (by omega) hfb
    have cR2 := run13_fn p ⟨0, fun _ => 0, List.replicate p.length 0⟩ a l 0 n L (by omega) hn (fun i => ⟨Int.le_refl 0, (by show (0 : Int) ≤ 4294967295; decide)⟩) (by show (List.replicate p.length (0 : Int)).length ≤ _; rw [List.length_replicate]; omega) (by omega) hLB (by decide) (by omega)
    generalize runF p a l n.toNat ⟨0, fun _ => 0, List.replicate p.length 0⟩ 0 L = R at hsh cR2
    obtain ⟨rf, rn, rk, rs, rL⟩ := R
    simp only at hsh cR2
    refine wle (s' := [(1, .ref (csF pc rg tn p L a l)), (8, .int .i64 n)]) (h' := []) les leh ?_
    refine wturn (turn_dummy eI 15 3 1 (by omega) rfl) ?_
    refine wturn (turn_dummy eU 16 47 1 (by omega) rfl) ?_
    refine wdrawQ (gH L rf rs rL) (fun _ => True) (fun y => y ≤ 2) [7, 11, 17] [] 16 20 gN 0 (show LeH _ [(15, .row 3 1 (([] : List Int).map eI)), (16, .row 47 1 (([] : List Int).map eU))] from leh) (by kernel_rfl) (by kernel_rfl) (by kernel_rfl) trivial (Nat.zero_le _) rfl rfl rfl rfl ?_
    repeat' (first | (show W _ _ _ _ _ _; first | apply kA | refine kB rfl ?_ | refine kC rfl rfl ?_ | refine kD rfl rfl ?_ | apply kE | apply kF | apply kG | apply kH) | (show O _ _ _ _ _ _ _; first | (show O _ _ _ _ (⟨_, .store _ _ _, _, _, _, _⟩ :: _) _ _; refine kJ rfl rfl rfl rfl rfl rfl rfl rfl rfl rfl rfl ?_) | apply kK) | apply kL | ((first | apply kM | apply kN); (iterate 3 (· exact rfl)); (· first | (show Y _ ⟨_, .call ⟨.value _, _, _⟩, _, _, _, _⟩ _ _ _; first | exact q_c (c9) rfl) | exact ya)) | (show QW _ _ _ _ _ _ _ _ _ _ _ _ _ _ _; first | refine qw_nil ?_ | (apply qw_any; (· exact rfl); (· exact rfl); (· exact rfl); (· intro y' f' hy'; first | (show Y _ ⟨_, .call ⟨.value _, _, _⟩, _, _, _, _⟩ _ _ _; first | exact q_c (c9) rfl) | exact ya); (· first | exact rfl | kernel_rfl))) | refine kO rfl rfl rfl rfl rfl ?_ | refine kP rfl rfl rfl ?_ | ((first | refine kQ rfl rfl ?_ ?_ | refine kR rfl rfl rfl rfl rfl ?_ ?_ | refine kS rfl rfl rfl ?_ ?_) <;> intro hc <;> (try simp only [KL, cond_true, cond_false, beq_iff_eq, bne_iff_ne, ne_eq, reduceCtorEq] at hc) <;> (try (have hT : True := hc; clear hT hc)) <;> (try (exfalso; omega))) | apply kT | apply kU | apply kV | apply kW | refine kX rfl ?_ | apply kY | apply kZ)
    refine qw_tu (x' := 1) (v := .ptr 15 0) rfl rfl rfl trivial (by decide) (fun f _ => ?_) (by kernel_rfl) ?_
    · cases f
      · show TuL _ _ _ _ [(15, .row 3 1 (([] : List Int).map eI)), (16, .row 47 1 (([] : List Int).map eU))] [(15, .blk 124 [.own 16, .int .i64 0]), (16, .row 47 1 (L.map eU))] _
        exact tl_call (fun i => i + 10) cM rfl leh rfl rfl rfl rfl rfl rfl rfl rfl leh
      · show TuL _ _ _ _ [(15, .row 3 1 (([] : List Int).map eI)), (16, .row 47 1 (([] : List Int).map eU)), (20, .blk 52 (eFw 0 (fun _ => 0) .nils))] [(15, .blk 124 [.own 16, .int .i64 0]), (16, .row 47 1 (L.map eU)), (20, .blk 52 (eFw 0 (fun _ => 0) .nils))] _
        exact tl_call (fun i => i + 10) cM rfl leh rfl rfl rfl rfl rfl rfl rfl rfl leh
    repeat' (first | (show W _ _ _ _ _ _; first | apply kA | refine kB rfl ?_ | refine kC rfl rfl ?_ | refine kD rfl rfl ?_ | apply kE | apply kF | apply kG | apply kH) | (show O _ _ _ _ _ _ _; first | (show O _ _ _ _ (⟨_, .store _ _ _, _, _, _, _⟩ :: _) _ _; refine kJ rfl rfl rfl rfl rfl rfl rfl rfl rfl rfl rfl ?_) | apply kK) | apply kL | ((first | apply kM | apply kN); (iterate 3 (· exact rfl)); (· first | exact ya)) | (show QW _ _ _ _ _ _ _ _ _ _ _ _ _ _ _; first | refine qw_nil ?_ | (apply qw_any; (· exact rfl); (· exact rfl); (· exact rfl); (· intro y' f' hy'; first | exact ya); (· first | exact rfl | kernel_rfl))) | refine kO rfl rfl rfl rfl rfl ?_ | refine kP rfl rfl rfl ?_ | ((first | refine kQ rfl rfl ?_ ?_ | refine kR rfl rfl rfl rfl rfl ?_ ?_ | refine kS rfl rfl rfl ?_ ?_) <;> intro hc <;> (try simp only [KL, cond_true, cond_false, beq_iff_eq, bne_iff_ne, ne_eq, reduceCtorEq] at hc) <;> (try (have hT : True := hc; clear hT hc)) <;> (try (exfalso; omega))) | apply kT | apply kU | apply kV | apply kW | refine kX rfl ?_ | apply kY | apply kZ)
    refine qw_tu (x' := 2) (v := .tup [.agg (eFr rf), .int .i64 rn, .int .i64 rk]) rfl rfl rfl trivial (by decide) (fun f _ => ?_) (by kernel_rfl) ?_
    · cases f
      · show TuL _ _ _ _ [(15, .blk 124 [.own 16, .int .i64 0]), (16, .row 47 1 (L.map eU))] [(15, .blk 124 [.own 16, .int .i64 rs]), (16, .row 47 1 (rL.map eU))] _
        exact TuO.toL (tu_call (fun i => i + 14) cR2 rfl leh rfl rfl rfl rfl rfl rfl leh)
      · show TuL _ _ _ _ [(15, .blk 124 [.own 16, .int .i64 0]), (16, .row 47 1 (L.map eU)), (20, .blk 52 (eFw 0 (fun _ => 0) .nils))] [(15, .blk 124 [.own 16, .int .i64 rs]), (16, .row 47 1 (rL.map eU)), (20, .blk 52 (eFw 0 (fun _ => 0) .nils))] _
        exact TuO.toL (tu_call (fun i => i + 14) cR2 rfl leh rfl rfl rfl rfl rfl rfl leh)
    repeat' (first | (show W _ _ _ _ _ _; first | apply kA | refine kB rfl ?_ | refine kC rfl rfl ?_ | refine kD rfl rfl ?_ | apply kE | apply kF | apply kG | apply kH) | (show O _ _ _ _ _ _ _; first | (show O _ _ _ _ (⟨_, .store _ _ _, _, _, _, _⟩ :: _) _ _; refine kJ rfl rfl rfl rfl rfl rfl rfl rfl rfl rfl rfl ?_) | apply kK) | apply kL | ((first | apply kM | apply kN); (iterate 3 (· exact rfl)); (· first | exact ya)) | (show QW _ _ _ _ _ _ _ _ _ _ _ _ _ _ _; first | refine qw_nil ?_ | (apply qw_any; (· exact rfl); (· exact rfl); (· exact rfl); (· intro y' f' hy'; first | exact ya); (· first | exact rfl | kernel_rfl))) | refine kO rfl rfl rfl rfl rfl ?_ | refine kP rfl rfl rfl ?_ | ((first | refine kQ rfl rfl ?_ ?_ | refine kR rfl rfl rfl rfl rfl ?_ ?_ | refine kS rfl rfl rfl ?_ ?_) <;> intro hc <;> (try simp only [KL, cond_true, cond_false, beq_iff_eq, bne_iff_ne, ne_eq, reduceCtorEq] at hc) <;> (try (have hT : True := hc; clear hT hc)) <;> (try (exfalso; omega))) | apply kT | apply kU | apply kV | apply kW | refine kX rfl ?_ | apply kY | apply kZ)
    refine qw_new (v := .ptr 20 0) rfl rfl (by kernel_rfl) (fun y hy => ?_) ?_
    · rcases y with _ | _ | _ | y
      · show TuN _ _ _ _ [(15, .row 3 1 (([] : List Int).map eI)), (16, .row 47 1 (([] : List Int).map eU))] [(15, .row 3 1 (([] : List Int).map eI)), (16, .row 47 1 (([] : List Int).map eU)), (20, .blk 52 (eFw 0 (fun _ => 0) .nils))] _
        exact TuN.post (tn_alloc rfl rfl rfl rfl rfl) leh
      · show TuN _ _ _ _ [(15, .blk 124 [.own 16, .int .i64 0]), (16, .row 47 1 (L.map eU))] [(15, .blk 124 [.own 16, .int .i64 0]), (16, .row 47 1 (L.map eU)), (20, .blk 52 (eFw 0 (fun _ => 0) .nils))] _
        exact TuN.post (tn_alloc rfl rfl rfl rfl rfl) leh
      · show TuN _ _ _ _ [(15, .blk 124 [.own 16, .int .i64 rs]), (16, .row 47 1 (rL.map eU))] [(15, .blk 124 [.own 16, .int .i64 rs]), (16, .row 47 1 (rL.map eU)), (20, .blk 52 (eFw 0 (fun _ => 0) .nils))] _
        exact TuN.post (tn_alloc rfl rfl rfl rfl rfl) leh
      · exact absurd hy (by omega)
    repeat' (first | (show W _ _ _ _ _ _; first | apply kA | refine kB rfl ?_ | refine kC rfl rfl ?_ | refine kD rfl rfl ?_ | apply kE | apply kF | apply kG | apply kH) | (show O _ _ _ _ _ _ _; first | (show O _ _ _ _ (⟨_, .store _ _ _, _, _, _, _⟩ :: _) _ _; refine kJ rfl rfl rfl rfl rfl rfl rfl rfl rfl rfl rfl ?_) | apply kK) | apply kL | ((first | apply kM | apply kN); (iterate 3 (· exact rfl)); (· first | exact ya)) | (show QW _ _ _ _ _ _ _ _ _ _ _ _ _ _ _; first | refine qw_nil ?_ | (apply qw_any; (· exact rfl); (· exact rfl); (· exact rfl); (· intro y' f' hy'; first | exact ya); (· first | exact rfl | kernel_rfl))) | refine kO rfl rfl rfl rfl rfl ?_ | refine kP rfl rfl rfl ?_ | ((first | refine kQ rfl rfl ?_ ?_ | refine kR rfl rfl rfl rfl rfl ?_ ?_ | refine kS rfl rfl rfl ?_ ?_) <;> intro hc <;> (try simp only [KL, cond_true, cond_false, beq_iff_eq, bne_iff_ne, ne_eq, reduceCtorEq] at hc) <;> (try (have hT : True := hc; clear hT hc)) <;> (try (exfalso; omega))) | apply kT | apply kU | apply kV | apply kW | refine kX rfl ?_ | apply kY | apply kZ)
    refine qw_tu1 (x' := 3) (v := .undef) rfl rfl rfl trivial (by kernel_rfl) ?_ (by kernel_rfl) ?_
    · show TuL _ _ _ _ [(15, .blk 124 [.own 16, .int .i64 rs]), (16, .row 47 1 (rL.map eU)), (20, .blk 52 (eFw 0 (fun _ => 0) .nils))] [(15, .blk 124 [.own 16, .int .i64 rs]), (16, .row 47 1 (rL.map eU)), (20, .blk 52 (eFr rf))] _
      exact TuO.toL (TuO.post (tu_st (sto_B rfl rfl rfl rfl rfl rfl (Nat.le_refl 10)) rfl) leh)
    repeat' (first | (show W _ _ _ _ _ _; first | apply kA | refine kB rfl ?_ | refine kC rfl rfl ?_ | refine kD rfl rfl ?_ | apply kE | apply kF | apply kG | apply kH) | (show O _ _ _ _ _ _ _; first | (show O _ _ _ _ (⟨_, .store _ _ _, _, _, _, _⟩ :: _) _ _; refine kJ rfl rfl rfl rfl rfl rfl rfl rfl rfl rfl rfl ?_) | apply kK) | apply kL | ((first | apply kM | apply kN); (iterate 3 (· exact rfl)); (· first | (show Y _ ⟨_, .call ⟨.value _, _, _⟩, _, _, _, _⟩ _ _ _; first | exact q_c (c0) rfl) | exact ya)) | (show QW _ _ _ _ _ _ _ _ _ _ _ _ _ _ _; first | refine qw_nil ?_ | (apply qw_any; (· exact rfl); (· exact rfl); (· exact rfl); (· intro y' f' hy'; first | (show Y _ ⟨_, .call ⟨.value _, _, _⟩, _, _, _, _⟩ _ _ _; first | exact q_c (c0) rfl) | exact ya); (· first | exact rfl | kernel_rfl))) | refine kO rfl rfl rfl rfl rfl ?_ | refine kP rfl rfl rfl ?_ | ((first | refine kQ rfl rfl ?_ ?_ | refine kR rfl rfl rfl rfl rfl ?_ ?_ | refine kS rfl rfl rfl ?_ ?_) <;> intro hc <;> (try simp only [KL, cond_true, cond_false, beq_iff_eq, bne_iff_ne, ne_eq, reduceCtorEq] at hc) <;> (try (have hT : True := hc; clear hT hc)) <;> (try (exfalso; omega))) | apply kT | apply kU | apply kV | apply kW | refine kX rfl ?_ | apply kY | apply kZ)
    all_goals first | (exfalso; omega) | exact retq rfl rfl
  · repeat' (first | (show W _ _ _ _ _ _; first | apply kA | refine kB rfl ?_ | refine kC rfl rfl ?_ | refine kD rfl rfl ?_ | apply kE | apply kF | apply kG | apply kH | refine kI (by kernel_rfl) (by kernel_rfl) ?_) | (show O _ _ _ _ _ _ _; first | (show O _ _ _ _ (⟨_, .alloc _, _, _, _, _⟩ :: _) _ _; first | refine ao_alloc (id := 20) rfl rfl rfl rfl rfl rfl rfl ?_) | (show O _ _ _ _ (⟨_, .store _ _ _, _, _, _, _⟩ :: _) _ _; refine kJ rfl rfl rfl rfl rfl rfl rfl rfl rfl rfl rfl ?_) | apply kK) | apply kL | ((first | apply kM | apply kN); (iterate 3 (· exact rfl)); (· first | (show Y _ ⟨_, .call ⟨.value _, _, _⟩, _, _, _, _⟩ _ _ _; first | exact q_c (c7) rfl) | exact ya)) | refine kO rfl rfl rfl rfl rfl ?_ | refine kP rfl rfl rfl ?_ | ((first | refine kQ rfl rfl ?_ ?_ | refine kR rfl rfl rfl rfl rfl ?_ ?_ | refine kS rfl rfl rfl ?_ ?_) <;> intro hc <;> (try simp only [KL, cond_true, cond_false, beq_iff_eq, bne_iff_ne, ne_eq, reduceCtorEq] at hc) <;> (try (have hT : True := hc; clear hT hc)) <;> (try (exfalso; omega))) | apply kT | apply kU | apply kV | apply kW | refine kX rfl ?_ | apply kY | apply kZ)
    all_goals first | (exfalso; omega) | skip
    refine zcall (fun i => i + 14) (cW) rfl rfl leh rfl rfl rfl rfl rfl rfl (fun r h' hR => ?_)
    obtain ⟨rfl, rfl⟩ := hR
    refine ⟨rfl, rfl, ?_⟩
    repeat' (first | (show W _ _ _ _ _ _; first | apply kA | refine kB rfl ?_ | refine kC rfl rfl ?_ | refine kD rfl rfl ?_ | apply kE | apply kF | apply kG | apply kH) | (show O _ _ _ _ _ _ _; first | (show O _ _ _ _ (⟨_, .store _ _ _, _, _, _, _⟩ :: _) _ _; refine kJ rfl rfl rfl rfl rfl rfl rfl rfl rfl rfl rfl ?_) | apply kK) | apply kL | ((first | apply kM | apply kN); (iterate 3 (· exact rfl)); (· first | exact ya)) | refine kO rfl rfl rfl rfl rfl ?_ | refine kP rfl rfl rfl ?_ | ((first | refine kQ rfl rfl ?_ ?_ | refine kR rfl rfl rfl rfl rfl ?_ ?_ | refine kS rfl rfl rfl ?_ ?_) <;> intro hc <;> (try simp only [KL, cond_true, cond_false, beq_iff_eq, bne_iff_ne, ne_eq, reduceCtorEq] at hc) <;> (try (have hT : True := hc; clear hT hc)) <;> (try (exfalso; omega))) | apply kT | apply kU | apply kV | apply kW | refine kX rfl ?_ | apply kY | apply kZ)
    refine wloop (fun k : Nat => ([(1, .ref (csF pc rg tn p L a l)), (54, .lst 1 (sL.map eU)), (55, .int .i64 sL.length), (56, .int .i64 k)], [])) (fun k => k ≤ sL.length) (fun k => sL.length - k) 0 (Nat.zero_le _) les leh (fun k hk2 => ?_)
    rcases Nat.lt_or_eq_of_le hk2 with hlt | rfl
    · obtain ⟨u, hu⟩ : ∃ u, sL.getD k default = u := ⟨_, rfl⟩
      obtain ⟨v, hv⟩ : ∃ v, L.getD k default = v := ⟨_, rfl⟩
      have hw := hwd k
      rw [hu, hv] at hw
      by_cases huv : u = v
      · repeat' (first | (show W _ _ _ _ _ _; first | apply kA | refine kB rfl ?_ | refine kC rfl rfl ?_ | refine kD rfl rfl ?_ | apply kE | apply kF | apply kG | apply kH) | (show O _ _ _ _ _ _ _; first | (show O _ _ _ _ (⟨_, .store _ _ _, _, _, _, _⟩ :: _) _ _; refine kJ rfl rfl rfl rfl rfl rfl rfl rfl rfl rfl rfl ?_) | apply kK) | apply kL | ((first | apply kM | apply kN); (iterate 3 (· exact rfl)); (· first | (show Y _ ⟨_, .indexAddr _ _ _, _, _, _, _⟩ _ _ _; first | exact Y.mk (ok_indexE (hu) rfl rfl rfl rfl rfl (by omega)) | exact Y.mk (ok_indexE (hv) rfl rfl rfl rfl rfl (by omega))) | exact ya | exact q_w rfl)) | refine kO rfl rfl rfl rfl rfl ?_ | refine kP rfl rfl rfl ?_ | ((first | refine kQ rfl rfl ?_ ?_ | refine kR rfl rfl rfl rfl rfl ?_ ?_ | refine kS rfl rfl rfl ?_ ?_) <;> intro hc <;> (try simp only [KL, cond_true, cond_false, beq_iff_eq, bne_iff_ne, ne_eq, reduceCtorEq] at hc) <;> (try (have hT : True := hc; clear hT hc)) <;> (try (exfalso; omega))) | apply kT | apply kU | apply kV | apply kW | refine kX rfl ?_ | apply kY | apply kZ)
        all_goals first | (exfalso; omega) | exact ⟨k + 1, by omega, by omega, les, leh⟩
      · have hw := hw huv
        repeat' (first | (show W _ _ _ _ _ _; first | apply kA | refine kB rfl ?_ | refine kC rfl rfl ?_ | refine kD rfl rfl ?_ | apply kE | apply kF | apply kG | apply kH) | (show O _ _ _ _ _ _ _; first | (show O _ _ _ _ (⟨_, .store _ _ _, _, _, _, _⟩ :: _) _ _; refine kJ rfl rfl rfl rfl rfl rfl rfl rfl rfl rfl rfl ?_) | apply kK) | apply kL | ((first | apply kM | apply kN); (iterate 3 (· exact rfl)); (· first | (show Y _ ⟨_, .indexAddr _ _ _, _, _, _, _⟩ _ _ _; first | exact Y.mk (ok_indexE (hu) rfl rfl rfl rfl rfl (by omega)) | exact Y.mk (ok_indexE (hv) rfl rfl rfl rfl rfl (by omega))) | exact ya)) | refine kO rfl rfl rfl rfl rfl ?_ | refine kP rfl rfl rfl ?_ | ((first | refine kQ rfl rfl ?_ ?_ | refine kR rfl rfl rfl rfl rfl ?_ ?_ | refine kS rfl rfl rfl ?_ ?_) <;> intro hc <;> (try simp only [KL, cond_true, cond_false, beq_iff_eq, bne_iff_ne, ne_eq, reduceCtorEq] at hc) <;> (try (have hT : True := hc; clear hT hc)) <;> (try (exfalso; omega))) | apply kT | apply kU | apply kV | apply kW | refine kX rfl ?_ | apply kY | apply kZ)
        all_goals first | (exfalso; omega) | exact ⟨k + 1, by omega, by omega, les, leh⟩
    repeat' (first | (show W _ _ _ _ _ _; first | apply kA | refine kB rfl ?_ | refine kC rfl rfl ?_ | refine kD rfl rfl ?_ | apply kE | apply kF | apply kG | apply kH) | (show O _ _ _ _ _ _ _; first | (show O _ _ _ _ (⟨_, .store _ _ _, _, _, _, _⟩ :: _) _ _; refine kJ rfl rfl rfl rfl rfl rfl rfl rfl rfl rfl rfl ?_) | apply kK) | apply kL | ((first | apply kM | apply kN); (iterate 3 (· exact rfl)); (· first | exact ya)) | refine kO rfl rfl rfl rfl rfl ?_ | refine kP rfl rfl rfl ?_ | ((first | refine kQ rfl rfl ?_ ?_ | refine kR rfl rfl rfl rfl rfl ?_ ?_ | refine kS rfl rfl rfl ?_ ?_) <;> intro hc <;> (try simp only [KL, cond_true, cond_false, beq_iff_eq, bne_iff_ne, ne_eq, reduceCtorEq] at hc) <;> (try (have hT : True := hc; clear hT hc)) <;> (try (exfalso; omega))) | apply kT | apply kU | apply kV | apply kW | refine kX rfl ?_ | apply kY | apply kZ)
    all_goals first | (exfalso; omega) | skip
    refine wdraw (by kernel_rfl) (by kernel_rfl) ?_
    repeat' (first | (show W _ _ _ _ _ _; first | apply kA | refine kB rfl ?_ | refine kC rfl rfl ?_ | refine kD rfl rfl ?_ | apply kE | apply kF | apply kG | apply kH) | (show O _ _ _ _ _ _ _; first | (show O _ _ _ _ (⟨_, .store _ _ _, _, _, _, _⟩ :: _) _ _; refine kJ rfl rfl rfl rfl rfl rfl rfl rfl rfl rfl rfl ?_) | apply kK) | apply kL | ((first | apply kM | apply kN); (iterate 3 (· exact rfl)); (· first | (show Y _ ⟨_, .call ⟨.value _, _, _⟩, _, _, _, _⟩ _ _ _; first | exact q_c (c11) rfl | exact q_c (c12) rfl | exact q_c (c0) rfl) | exact ya)) | refine kO rfl rfl rfl rfl rfl ?_ | refine kP rfl rfl rfl ?_ | ((first | refine kQ rfl rfl ?_ ?_ | refine kR rfl rfl rfl rfl rfl ?_ ?_ | refine kS rfl rfl rfl ?_ ?_) <;> intro hc <;> (try simp only [KL, cond_true, cond_false, beq_iff_eq, bne_iff_ne, ne_eq, reduceCtorEq] at hc) <;> (try (have hT : True := hc; clear hT hc)) <;> (try (exfalso; omega))) | apply kT | apply kU | apply kV | apply kW | refine kX rfl ?_ | apply kY | apply kZ)
    all_goals first | (exfalso; omega) | exact retq rfl rfl | skip
    have he0 : e = 0 := by omega
    have hfb : fineB p = true := by
      cases hq : fineB p with
      | true => rfl
      | false => exact absurd he0 (hfine hq)
    have hsh := hcost n (by rw [he0]) (by omega) hfb
    have cR2 := run13_fn p ⟨0, fun _ => 0, List.replicate p.length 0⟩ a l 0 n L (by omega) hn (fun i => ⟨Int.le_refl 0, (by show (0 : Int) ≤ 4294967295; decide)⟩) (by show (List.replicate p.length (0 : Int)).length ≤ _; rw [List.length_replicate]; omega) (by omega) hLB (by decide) (by omega)
    generalize runF p a l n.toNat ⟨0, fun _ => 0, List.replicate p.length 0⟩ 0 L = R at hsh cR2
    obtain ⟨rf, rn, rk, rs, rL⟩ := R
    simp only at hsh cR2
    refine wle (s' := [(1, .ref (csF pc rg tn p L a l)), (8, .int .i64 n)]) (h' := []) les leh ?_
    refine wturn (turn_dummy eI 15 3 1 (by omega) rfl) ?_
    refine wturn (turn_dummy eU 16 47 1 (by omega) rfl) ?_
    refine wdrawQ (gH L rf rs rL) (fun _ => True) (fun y => y ≤ 2) [7, 11, 17] [] 16 20 gN 0 (show LeH _ [(15, .row 3 1 (([] : List Int).map eI)), (16, .row 47 1 (([] : List Int).map eU))] from leh) (by kernel_rfl) (by kernel_rfl) (by kernel_rfl) trivial (Nat.zero_le _) rfl rfl rfl rfl ?_
    repeat' (first | (show W _ _ _ _ _ _; first | apply kA | refine kB rfl ?_ | refine kC rfl rfl ?_ | refine kD rfl rfl ?_ | apply kE | apply kF | apply kG | apply kH) | (show O _ _ _ _ _ _ _; first | (show O _ _ _ _ (⟨_, .store _ _ _, _, _, _, _⟩ :: _) _ _; refine kJ rfl rfl rfl rfl rfl rfl rfl rfl rfl rfl rfl ?_) | apply kK) | apply kL | ((first | apply kM | apply kN); (iterate 3 (· exact rfl)); (· first | (show Y _ ⟨_, .call ⟨.value _, _, _⟩, _, _, _, _⟩ _ _ _; first | exact q_c (c9) rfl) | exact ya)) | (show QW _ _ _ _ _ _ _ _ _ _ _ _ _ _ _; first | refine qw_nil ?_ | (apply qw_any; (· exact rfl); (· exact rfl); (· exact rfl); (· intro y' f' hy'; first | (show Y _ ⟨_, .call ⟨.value _, _, _⟩, _, _, _, _⟩ _ _ _; first | exact q_c (c9) rfl) | exact ya); (· first | exact rfl | kernel_rfl))) | refine kO rfl rfl rfl rfl rfl ?_ | refine kP rfl rfl rfl ?_ | ((first | refine kQ rfl rfl ?_ ?_ | refine kR rfl rfl rfl rfl rfl ?_ ?_ | refine kS rfl rfl rfl ?_ ?_) <;> intro hc <;> (try simp only [KL, cond_true, cond_false, beq_iff_eq, bne_iff_ne, ne_eq, reduceCtorEq] at hc) <;> (try (have hT : True := hc; clear hT hc)) <;> (try (exfalso; omega))) | apply kT | apply kU | apply kV | apply kW | refine kX rfl ?_ | apply kY | apply kZ)
    refine qw_tu (x' := 1) (v := .ptr 15 0) rfl rfl rfl trivial (by decide) (fun f _ => ?_) (by kernel_rfl) ?_
    · cases f
      · show TuL _ _ _ _ [(15, .row 3 1 (([] : List Int).map eI)), (16, .row 47 1 (([] : List Int).map eU))] [(15, .blk 124 [.own 16, .int .i64 0]), (16, .row 47 1 (L.map eU))] _
        exact tl_call (fun i => i + 10) cM rfl leh rfl rfl rfl rfl rfl rfl rfl rfl leh
      · show TuL _ _ _ _ [(15, .row 3 1 (([] : List Int).map eI)), (16, .row 47 1 (([] : List Int).map eU)), (20, .blk 52 (eFw 0 (fun _ => 0) .nils))] [(15, .blk 124 [.own 16, .int .i64 0]), (16, .row 47 1 (L.map eU)), (20, .blk 52 (eFw 0 (fun _ => 0) .nils))] _
        exact tl_call (fun i => i + 10) cM rfl leh rfl rfl rfl rfl rfl rfl rfl rfl leh
    repeat' (first | (show W _ _ _ _ _ _; first | apply kA | refine kB rfl ?_ | refine kC rfl rfl ?_ | refine kD rfl rfl ?_ | apply kE | apply kF | apply kG | apply kH) | (show O _ _ _ _ _ _ _; first | (show O _ _ _ _ (⟨_, .store _ _ _, _, _, _, _⟩ :: _) _ _; refine kJ rfl rfl rfl rfl rfl rfl rfl rfl rfl rfl rfl ?_) | apply kK) | apply kL | ((first | apply kM | apply kN); (iterate 3 (· exact rfl)); (· first | exact ya)) | (show QW _ _ _ _ _ _ _ _ _ _ _ _ _ _ _; first | refine qw_nil ?_ | (apply qw_any; (· exact rfl); (· exact rfl); (· exact rfl); (· intro y' f' hy'; first | exact ya); (· first | exact rfl | kernel_rfl))) | refine kO rfl rfl rfl rfl rfl ?_ | refine kP rfl rfl rfl ?_ | ((first | refine kQ rfl rfl ?_ ?_ | refine kR rfl rfl rfl rfl rfl ?_ ?_ | refine kS rfl rfl rfl ?_ ?_) <;> intro hc <;> (try simp only [KL, cond_true, cond_false, beq_iff_eq, bne_iff_ne, ne_eq, reduceCtorEq] at hc) <;> (try (have hT : True := hc; clear hT hc)) <;> (try (exfalso; omega))) | apply kT | apply kU | apply kV | apply kW | refine kX rfl ?_ | apply kY | apply kZ)
    refine qw_tu (x' := 2) (v := .tup [.agg (eFr rf), .int .i64 rn, .int .i64 rk]) rfl rfl rfl trivial (by decide) (fun f _ => ?_) (by kernel_rfl) ?_
    · cases f
      · show TuL _ _ _ _ [(15, .blk 124 [.own 16, .int .i64 0]), (16, .row 47 1 (L.map eU))] [(15, .blk 124 [.own 16, .int .i64 rs]), (16, .row 47 1 (rL.map eU))] _
        exact TuO.toL (tu_call (fun i => i + 14) cR2 rfl leh rfl rfl rfl rfl rfl rfl leh)
      · show TuL _ _ _ _ [(15, .blk 124 [.own 16, .int .i64 0]), (16, .row 47 1 (L.map eU)), (20, .blk 52 (eFw 0 (fun _ => 0) .nils))] [(15, .blk 124 [.own 16, .int .i64 rs]), (16, .row 47 1 (rL.map eU)), (20, .blk 52 (eFw 0 (fun _ => 0) .nils))] _
        exact TuO.toL (tu_call (fun i => i + 14) cR2 rfl leh rfl rfl rfl rfl rfl rfl leh)
    repeat' (first | (show W _ _ _ _ _ _; first | apply kA | refine kB rfl ?_ | refine kC rfl rfl ?_ | refine kD rfl rfl ?_ | apply kE | apply kF | apply kG | apply kH) | (show O _ _ _ _ _ _ _; first | (show O _ _ _ _ (⟨_, .store _ _ _, _, _, _, _⟩ :: _) _ _; refine kJ rfl rfl rfl rfl rfl rfl rfl rfl rfl rfl rfl ?_) | apply kK) | apply kL | ((first | apply kM | apply kN); (iterate 3 (· exact rfl)); (· first | exact ya)) | (show QW _ _ _ _ _ _ _ _ _ _ _ _ _ _ _; first | refine qw_nil ?_ | (apply qw_any; (· exact rfl); (· exact rfl); (· exact rfl); (· intro y' f' hy'; first | exact ya); (· first | exact rfl | kernel_rfl))) | refine kO rfl rfl rfl rfl rfl ?_ | refine kP rfl rfl rfl ?_ | ((first | refine kQ rfl rfl ?_ ?_ | refine kR rfl rfl rfl rfl rfl ?_ ?_ | refine kS rfl rfl rfl ?_ ?_) <;> intro hc <;> (try simp only [KL, cond_true, cond_false, beq_iff_eq, bne_iff_ne, ne_eq, reduceCtorEq] at hc) <;> (try (have hT : True := hc; clear hT hc)) <;> (try (exfalso; omega))) | apply kT | apply kU | apply kV | apply kW | refine kX rfl ?_ | apply kY | apply kZ)
    refine qw_new (v := .ptr 20 0) rfl rfl (by kernel_rfl) (fun y hy => ?_) ?_
    · rcases y with _ | _ | _ | y
      · show TuN _ _ _ _ [(15, .row 3 1 (([] : List Int).map eI)), (16, .row 47 1 (([] : List Int).map eU))] [(15, .row 3 1 (([] : List Int).map eI)), (16, .row 47 1 (([] : List Int).map eU)), (20, .blk 52 (eFw 0 (fun _ => 0) .nils))] _
        exact TuN.post (tn_alloc rfl rfl rfl rfl rfl) leh
      · show TuN _ _ _ _ [(15, .blk 124 [.own 16, .int .i64 0]), (16, .row 47 1 (L.map eU))] [(15, .blk 124 [.own 16, .int .i64 0]), (16, .row 47 1 (L.map eU)), (20, .blk 52 (eFw 0 (fun _ => 0) .nils))] _
        exact TuN.post (tn_alloc rfl rfl rfl rfl rfl) leh
      · show TuN _ _ _ _ [(15, .blk 124 [.own 16, .int .i64 rs]), (16, .row 47 1 (rL.map eU))] [(15, .blk 124 [.own 16, .int .i64 rs]), (16, .row 47 1 (rL.map eU)), (20, .blk 52 (eFw 0 (fun _ => 0) .nils))] _
        exact TuN.post (tn_alloc rfl rfl rfl rfl rfl) leh
      · exact absurd hy (by omega)
    repeat' (first | (show W _ _ _ _ _ _; first | apply kA | refine kB rfl ?_ | refine kC rfl rfl ?_ | refine kD rfl rfl ?_ | apply kE | apply kF | apply kG | apply kH) | (show O _ _ _ _ _ _ _; first | (show O _ _ _ _ (⟨_, .store _ _ _, _, _, _, _⟩ :: _) _ _; refine kJ rfl rfl rfl rfl rfl rfl rfl rfl rfl rfl rfl ?_) | apply kK) | apply kL | ((first | apply kM | apply kN); (iterate 3 (· exact rfl)); (· first | exact ya)) | (show QW _ _ _ _ _ _ _ _ _ _ _ _ _ _ _; first | refine qw_nil ?_ | (apply qw_any; (· exact rfl); (· exact rfl); (· exact rfl); (· intro y' f' hy'; first | exact ya); (· first | exact rfl | kernel_rfl))) | refine kO rfl rfl rfl rfl rfl ?_ | refine kP rfl rfl rfl ?_ | ((first | refine kQ rfl rfl ?_ ?_ | refine kR rfl rfl rfl rfl rfl ?_ ?_ | refine kS rfl rfl rfl ?_ ?_) <;> intro hc <;> (try simp only [KL, cond_true, cond_false, beq_iff_eq, bne_iff_ne, ne_eq, reduceCtorEq] at hc) <;> (try (have hT : True := hc; clear hT hc)) <;> (try (exfalso; omega))) | apply kT | apply kU | apply kV | apply kW | refine kX rfl ?_ | apply kY | apply kZ)
    refine qw_tu1 (x' := 3) (v := .undef) rfl rfl rfl trivial (by kernel_rfl) ?_ (by kernel_rfl) ?_
    · show TuL _ _ _ _ [(15, .blk 124 [.own 16, .int .i64 rs]), (16, .row 47 1 (rL.map eU)), (20, .blk 52 (eFw 0 (fun _ => 0) .nils))] [(15, .blk 124 [.own 16, .int .i64 rs]), (16, .row 47 1 (rL.map eU)), (20, .blk 52 (eFr rf))] _
      exact TuO.toL (TuO.post (tu_st (sto_B rfl rfl rfl rfl rfl rfl (Nat.le_refl 10)) rfl) leh)
    repeat' (first | (show W _ _ _ _ _ _; first | apply kA | refine kB rfl ?_ | refine kC rfl rfl ?_ | refine kD rfl rfl ?_ | apply kE | apply kF | apply kG | apply kH) | (show O _ _ _ _ _ _ _; first | (show O _ _ _ _ (⟨_, .store _ _ _, _, _, _, _⟩ :: _) _ _; refine kJ rfl rfl rfl rfl rfl rfl rfl rfl rfl rfl rfl ?_) | apply kK) | apply kL | ((first | apply kM | apply kN); (iterate 3 (· exact rfl)); (· first | (show Y _ ⟨_, .call ⟨.value _, _, _⟩, _, _, _, _⟩ _ _ _; first | exact q_c (c0) rfl) | exact ya)) | (show QW _ _ _ _ _ _ _ _ _ _ _ _ _ _ _; first | refine qw_nil ?_ | (apply qw_any; (· exact rfl); (· exact rfl); (· exact rfl); (· intro y' f' hy'; first | (show Y _ ⟨_, .call ⟨.value _, _, _⟩, _, _, _, _⟩ _ _ _; first | exact q_c (c0) rfl) | exact ya); (· first | exact rfl | kernel_rfl))) | refine kO rfl rfl rfl rfl rfl ?_ | refine kP rfl rfl rfl ?_ | ((first | refine kQ rfl rfl ?_ ?_ | refine kR rfl rfl rfl rfl rfl ?_ ?_ | refine kS rfl rfl rfl ?_ ?_) <;> intro hc <;> (try simp only [KL, cond_true, cond_false, beq_iff_eq, bne_iff_ne, ne_eq, reduceCtorEq] at hc) <;> (try (have hT : True := hc; clear hT hc)) <;> (try (exfalso; omega))) | apply kT | apply kU | apply kV | apply kW | refine kX rfl ?_ | apply kY | apply kZ)
    all_goals first | (exfalso; omega) | exact retq rfl rfl
theorem frameGoes_fn (x : Case13) : Fn Try.prog 12 [.agg (eCase13 x)] (.bool true) := goes13_fn x.pc (rgO x) x.tn x.p x.l x.at_ x.len (fun i hi => by
  obtain ⟨j, rfl⟩ : ∃ j, i = j + 8 := ⟨i - 8, by omega⟩
  rfl)
end Go.Proofs.Ytffciebjpiljgaa
