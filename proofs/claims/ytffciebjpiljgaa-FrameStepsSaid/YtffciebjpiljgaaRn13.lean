/- A run is steps (FrameRuns). No condition. -/
import Derived.Test.YtffciebjpiljgaaFr6
import Derived.Test.YtffciebjpiljgaaPs13
namespace Go.Proofs.Ytffciebjpiljgaa
set_option linter.unusedSimpArgs false
set_option linter.unusedVariables false
set_option maxRecDepth 100000
set_option linter.unusedSimpArgs false
set_option linter.unusedVariables false
set_option maxRecDepth 100000
open Go.RowKit
theorem waggl {P : Program} {n : Md} {c : Code} {Q : Exit → Slots → Heap → Prop} {s : Slots} {h : Heap} {cs : List AV} {α : Type} {sz : Nat} (t j : Nat) (l : List α) (f : α → List AV) (hg : get s t = .agg cs) (hj : cs[j]? = some (.lst sz (l.map f))) (hk : (∀ x ∈ l, ∀ k m, AV.int k m ∈ f x → rangeP k m) → W P n c Q s h) : W P n c Q s h := ⟨by
  intro E σ ι a w hr ht
  have hv := ht.at_ t
  rw [hg] at hv
  obtain ⟨vs, _, h2⟩ := hv.agg_inv
  obtain ⟨v, _, hR⟩ := h2.get hj
  obtain ⟨A, cap, _, _, _, h4⟩ := hR.lst_inv
  refine (hk fun x hx k m hm => ?_).out E σ ι a w hr ht
  rcases h4 with h4 | ⟨b, off, g, _, h5, h6, h7⟩
  · have : l = [] := by simpa using h4
    subst this; cases hx
  · obtain ⟨i, hi⟩ := List.getElem?_of_mem (List.mem_map_of_mem (f := f) hx)
    obtain ⟨j2, hj2⟩ := List.getElem?_of_mem hm
    exact (VR.base (ι := ι) _ _ (h7 _ _ (flatten_get h5 hi hj2))).int_inv.2⟩
theorem words_wB {L : List Int} (h : ∀ x ∈ L, ∀ k m, AV.int k m ∈ eU x → rangeP k m) : wB L := fun i => by
  by_cases hi : i < L.length
  · have := h L[i] (List.getElem_mem hi) .u32 L[i] (by simp [eU])
    simp only [rangeP] at this
    simpa [hi] using this
  · simp [hi]
theorem regs_B {pc : Int} {rg : Nat → Int} {t : AV} {bs : List AV} (h8 : ∀ i, 8 ≤ i → rg i = 0) (h : ∀ k m, AV.int k m ∈ eFw pc rg t ++ bs → rangeP k m) : rgB rg := fun i => by
  by_cases hi : i < 8
  · have := h .u32 (rg i) (List.mem_of_getElem? (eFw_at (pc := pc) (t := t) (bs := bs) hi))
    simpa only [rangeP] using this
  · rw [h8 i (by omega)]; exact ⟨by decide, by decide⟩
theorem doF_st (x : Instr) (pc : Nat) (rg : Nat → Int) (tn : List Int) (a l st : Int) (L : List Int) : doF x pc rg tn a l st L = ⟨(doF x pc rg tn a l 0 L).jmp, (doF x pc rg tn a l 0 L).rg, (doF x pc rg tn a l 0 L).tn, st + (doF x pc rg tn a l 0 L).st, (doF x pc rg tn a l 0 L).L⟩ := by
  unfold doF
  by_cases h1 : x.op = 1
  · simp [h1]
  by_cases h2 : x.op = 2
  · simp [h2]
  by_cases h3 : x.op = 11
  · simp [h3]
  by_cases h4 : x.op = 12
  · simp [h4]
  by_cases h5 : x.op = 13
  · by_cases h : L.getD (adrI rg x a l).toNat default = rg x.a.toNat
    · simp only [h5, if_pos h, if_true]; simp
    · simp only [h5, if_neg h, if_true]; simp
  by_cases h6 : x.op = 15
  · simp [h6]
  by_cases h7 : x.op = 14
  · simp [h7]
  by_cases h9 : x.op = 16
  · by_cases h : x.c ≤ tn.getD pc default
    · simp only [h9, if_pos h, if_true]; simp
    · simp only [h9, if_neg h, if_true]; simp
  by_cases h10 : aluIs x.op = true
  · simp [h1, h2, h3, h4, h5, h6, h7, h9, h10]
  · simp [h1, h2, h3, h4, h5, h6, h7, h9, h10]
theorem stepF_st (p : List Instr) (f : Fr) (a l st : Int) (L : List Int) : stepF p f a l st L = ⟨(stepF p f a l 0 L).f, (stepF p f a l 0 L).k, st + (stepF p f a l 0 L).st, (stepF p f a l 0 L).L⟩ := by
  unfold stepF
  split
  · split
    · simp
    · rw [goF, goF, doF_st]
  · simp
theorem run_stop0 (p : List Instr) (a l : Int) (m : Nat) (f : Fr) (st : Int) (L : List Int) (h : (stepF p f a l 0 L).k ≠ 0) : runF p a l (m + 1) f st L = ⟨f, 0, (stepF p f a l 0 L).k, st + (stepF p f a l 0 L).st, (stepF p f a l 0 L).L⟩ := by
  have e := stepF_st p f a l st L
  rw [run_stop p a l m f st L (by rw [e]; exact h), e]
theorem run_more0 (p : List Instr) (a l : Int) (m : Nat) (f : Fr) (st : Int) (L : List Int) (h : (stepF p f a l 0 L).k = 0) : runF p a l (m + 1) f st L = ⟨(runF p a l m (stepF p f a l 0 L).f (st + (stepF p f a l 0 L).st) (stepF p f a l 0 L).L).f, (runF p a l m (stepF p f a l 0 L).f (st + (stepF p f a l 0 L).st) (stepF p f a l 0 L).L).n + 1, (runF p a l m (stepF p f a l 0 L).f (st + (stepF p f a l 0 L).st) (stepF p f a l 0 L).L).k, (runF p a l m (stepF p f a l 0 L).f (st + (stepF p f a l 0 L).st) (stepF p f a l 0 L).L).st, (runF p a l m (stepF p f a l 0 L).f (st + (stepF p f a l 0 L).st) (stepF p f a l 0 L).L).L⟩ := by
  have e := stepF_st p f a l st L
  rw [run_more p a l m f st L (by rw [e]; exact h), e]
theorem run_inv (p : List Instr) (a l : Int) (hn : ∀ i, 0 ≤ (p.getD i default).n ∧ (p.getD i default).n ≤ 4294967295) : ∀ (m : Nat) (f : Fr) (st : Int) (L : List Int), rgB f.rg → wB L → (runF p a l m f st L).L.length = L.length ∧ (runF p a l m f st L).f.tn.length = f.tn.length
  | 0, f, st, L, _, _ => ⟨rfl, rfl⟩
  | m + 1, f, st, L, hr, hL => by
    have h1 := step_inv p f a l st L hn hr hL
    by_cases hk : (stepF p f a l st L).k = 0
    · rw [run_more p a l m f st L hk]
      have h2 := run_inv p a l hn m (stepF p f a l st L).f (stepF p f a l st L).st (stepF p f a l st L).L h1.1 h1.2.1
      exact ⟨h2.1.trans h1.2.2.1, h2.2.trans h1.2.2.2.1⟩
    · rw [run_stop p a l m f st L hk]
      exact ⟨h1.2.2.1, rfl⟩
set_option maxHeartbeats 4000000 in
theorem runs13_fn (pc : Int) (rg : Nat → Int) (tn : List Int) (p : List Instr) (L : List Int) (a l most : Int) (h8 : ∀ i, 8 ≤ i → rg i = 0) : Fn Try.prog 10 [.agg (csF pc rg tn p L a l), .int .i64 most] (.bool true) := by
  have c0 := awake13_fn
  have c1 := light13_fn pc rg tn p L a l
  refine fnb Try.func10 (entered_of (by kernel_rfl)) rfl rfl rfl ?_
  refine wagg 0 rfl (fun hall => ?_)
  refine waggl (sz := 5) 0 10 p eInstr rfl rfl (fun hpp => ?_)
  refine waggl (sz := 1) 0 11 L eU rfl rfl (fun hll => ?_)
  have hrg := regs_B h8 hall
  have hn := instr_n hpp
  have hLB := words_wB hll
  clear hall hpp hll
  by_cases hlen : p.length ≤ 200 ∧ L.length ≤ 300 ∧ tn.length ≤ 200
  case neg =>
    rw [decide_eq_false hlen] at c1
    repeat' (first | (show W _ _ _ _ _ _; first | apply kA | refine kB rfl ?_ | refine kC rfl rfl ?_ | refine kD rfl rfl ?_ | apply kE | apply kF | apply kG | apply kH | refine kI (by kernel_rfl) (by kernel_rfl) ?_) | (show O _ _ _ _ _ _ _; first | (show O _ _ _ _ (⟨_, .store _ _ _, _, _, _, _⟩ :: _) _ _; refine kJ rfl rfl rfl rfl rfl rfl rfl rfl rfl rfl rfl ?_) | apply kK) | apply kL | ((first | apply kM | apply kN); (iterate 3 (· exact rfl)); (· first | (show Y _ ⟨_, .call ⟨.value _, _, _⟩, _, _, _, _⟩ _ _ _; first | exact q_c (c0) rfl | exact q_c (c1) rfl) | exact ya)) | refine kO rfl rfl rfl rfl rfl ?_ | refine kP rfl rfl rfl ?_ | ((first | refine kQ rfl rfl ?_ ?_ | refine kR rfl rfl rfl rfl rfl ?_ ?_ | refine kS rfl rfl rfl ?_ ?_) <;> intro hc <;> (try simp only [KL, cond_true, cond_false, beq_iff_eq, bne_iff_ne, ne_eq, reduceCtorEq] at hc) <;> (try (have hT : True := hc; clear hT hc)) <;> (try (exfalso; omega))) | apply kT | apply kU | apply kV | apply kW | refine kX rfl ?_ | apply kY | apply kZ)
    all_goals first | (exfalso; omega) | exact retq rfl rfl
  rw [decide_eq_true hlen] at c1
  obtain ⟨hl1, hl2, hl3⟩ := hlen
  by_cases hm : most ≤ 500
  case neg =>
    repeat' (first | (show W _ _ _ _ _ _; first | apply kA | refine kB rfl ?_ | refine kC rfl rfl ?_ | refine kD rfl rfl ?_ | apply kE | apply kF | apply kG | apply kH | refine kI (by kernel_rfl) (by kernel_rfl) ?_) | (show O _ _ _ _ _ _ _; first | (show O _ _ _ _ (⟨_, .store _ _ _, _, _, _, _⟩ :: _) _ _; refine kJ rfl rfl rfl rfl rfl rfl rfl rfl rfl rfl rfl ?_) | apply kK) | apply kL | ((first | apply kM | apply kN); (iterate 3 (· exact rfl)); (· first | (show Y _ ⟨_, .call ⟨.value _, _, _⟩, _, _, _, _⟩ _ _ _; first | exact q_c (c0) rfl | exact q_c (c1) rfl) | exact ya)) | refine kO rfl rfl rfl rfl rfl ?_ | refine kP rfl rfl rfl ?_ | ((first | refine kQ rfl rfl ?_ ?_ | refine kR rfl rfl rfl rfl rfl ?_ ?_ | refine kS rfl rfl rfl ?_ ?_) <;> intro hc <;> (try simp only [KL, cond_true, cond_false, beq_iff_eq, bne_iff_ne, ne_eq, reduceCtorEq] at hc) <;> (try (have hT : True := hc; clear hT hc)) <;> (try (exfalso; omega))) | apply kT | apply kU | apply kV | apply kW | refine kX rfl ?_ | apply kY | apply kZ)
    all_goals first | (exfalso; omega) | exact retq rfl rfl
  have cM := memory13_fn L (by omega)
  have cR := run13_fn p ⟨pc, rg, tn⟩ a l 0 most L (by omega) hn hrg (by show tn.length ≤ _; omega) (by omega) hLB (by decide) (by omega)
  have c5 := copy_fn pc rg tn (by omega)
  have hri := run_inv p a l hn most.toNat ⟨pc, rg, tn⟩ 0 L hrg hLB
  generalize hrun : runF p a l most.toNat ⟨pc, rg, tn⟩ 0 L = R at cR hri
  obtain ⟨rf, rn, rk, rs, rL⟩ := R
  simp only at cR hri
  have cW := words13_fn rs rL (by omega)
  repeat' (first | (show W _ _ _ _ _ _; first | apply kA | refine kB rfl ?_ | refine kC rfl rfl ?_ | refine kD rfl rfl ?_ | apply kE | apply kF | apply kG | apply kH | refine kI (by kernel_rfl) (by kernel_rfl) ?_) | (show O _ _ _ _ _ _ _; first | (show O _ _ _ _ (⟨_, .store _ _ _, _, _, _, _⟩ :: _) _ _; refine kJ rfl rfl rfl rfl rfl rfl rfl rfl rfl rfl rfl ?_) | apply kK) | apply kL | ((first | apply kM | apply kN); (iterate 3 (· exact rfl)); (· first | (show Y _ ⟨_, .call ⟨.value _, _, _⟩, _, _, _, _⟩ _ _ _; first | exact q_c (c0) rfl | exact q_c (c1) rfl) | exact ya)) | refine kO rfl rfl rfl rfl rfl ?_ | refine kP rfl rfl rfl ?_ | ((first | refine kQ rfl rfl ?_ ?_ | refine kR rfl rfl rfl rfl rfl ?_ ?_ | refine kS rfl rfl rfl ?_ ?_) <;> intro hc <;> (try simp only [KL, cond_true, cond_false, beq_iff_eq, bne_iff_ne, ne_eq, reduceCtorEq] at hc) <;> (try (have hT : True := hc; clear hT hc)) <;> (try (exfalso; omega))) | apply kT | apply kU | apply kV | apply kW | refine kX rfl ?_ | apply kY | apply kZ)
  all_goals first | (exfalso; omega) | skip
  refine oturn (turn_dummy eI 15 3 1 (by omega) rfl) ?_
  refine oturn (turn_dummy eU 16 47 1 (by omega) rfl) ?_
  refine zcall (fun i => i + 10) (cM) rfl rfl leh rfl rfl rfl rfl rfl rfl (fun r h' hR => ?_)
  obtain ⟨rfl, rfl⟩ := hR
  refine ⟨rfl, rfl, ?_⟩
  repeat' (first | (show W _ _ _ _ _ _; first | apply kA | refine kB rfl ?_ | refine kC rfl rfl ?_ | refine kD rfl rfl ?_ | apply kE | apply kF | apply kG | apply kH | refine kI (by kernel_rfl) (by kernel_rfl) ?_) | (show O _ _ _ _ _ _ _; first | (show O _ _ _ _ (⟨_, .store _ _ _, _, _, _, _⟩ :: _) _ _; refine kJ rfl rfl rfl rfl rfl rfl rfl rfl rfl rfl rfl ?_) | apply kK) | apply kL | ((first | apply kM | apply kN); (iterate 3 (· exact rfl)); (· first | exact yag)) | refine kO rfl rfl rfl rfl rfl ?_ | refine kP rfl rfl rfl ?_ | ((first | refine kQ rfl rfl ?_ ?_ | refine kR rfl rfl rfl rfl rfl ?_ ?_ | refine kS rfl rfl rfl ?_ ?_) <;> intro hc <;> (try simp only [KL, cond_true, cond_false, beq_iff_eq, bne_iff_ne, ne_eq, reduceCtorEq] at hc) <;> (try (have hT : True := hc; clear hT hc)) <;> (try (exfalso; omega))) | apply kT | apply kU | apply kV | apply kW | refine kX rfl ?_ | apply kY | apply kZ)
  refine o_blit (f := eU) (l := []) (id := 17) (sz := 1) rfl rfl rfl rfl rfl rfl rfl rfl rfl rfl rfl rfl rfl rfl ?_
  repeat' (first | (show W _ _ _ _ _ _; first | apply kA | refine kB rfl ?_ | refine kC rfl rfl ?_ | refine kD rfl rfl ?_ | apply kE | apply kF | apply kG | apply kH | refine kI (by kernel_rfl) (by kernel_rfl) ?_) | (show O _ _ _ _ _ _ _; first | (show O _ _ _ _ (⟨_, .store _ _ _, _, _, _, _⟩ :: _) _ _; refine kJ rfl rfl rfl rfl rfl rfl rfl rfl rfl rfl rfl ?_) | apply kK) | apply kL | ((first | apply kM | apply kN); (iterate 3 (· exact rfl)); (· first | exact ya)) | refine kO rfl rfl rfl rfl rfl ?_ | refine kP rfl rfl rfl ?_ | ((first | refine kQ rfl rfl ?_ ?_ | refine kR rfl rfl rfl rfl rfl ?_ ?_ | refine kS rfl rfl rfl ?_ ?_) <;> intro hc <;> (try simp only [KL, cond_true, cond_false, beq_iff_eq, bne_iff_ne, ne_eq, reduceCtorEq] at hc) <;> (try (have hT : True := hc; clear hT hc)) <;> (try (exfalso; omega))) | apply kT | apply kU | apply kV | apply kW | refine kX rfl ?_ | apply kY | apply kZ)
  (refine ao_ap (id := 17) (ys := L) (by_ := 4) rfl rfl rfl rfl rfl rfl rfl rfl rfl rfl (fun _ _ => rfl) ?_ ?_ rfl rfl rfl rfl rfl ?_; (· (first | omega | ((try simp only [List.length_cons, List.length_nil, List.length_append, List.length_map]) <;> omega))); (· (first | omega | ((try simp only [List.length_cons, List.length_nil, List.length_append, List.length_map]) <;> omega))))
  repeat' (first | (show W _ _ _ _ _ _; first | apply kA | refine kB rfl ?_ | refine kC rfl rfl ?_ | refine kD rfl rfl ?_ | apply kE | apply kF | apply kG | apply kH | refine kI (by kernel_rfl) (by kernel_rfl) ?_) | (show O _ _ _ _ _ _ _; first | (show O _ _ _ _ (⟨_, .store _ _ _, _, _, _, _⟩ :: _) _ _; refine kJ rfl rfl rfl rfl rfl rfl rfl rfl rfl rfl rfl ?_) | apply kK) | apply kL | ((first | apply kM | apply kN); (iterate 3 (· exact rfl)); (· first | exact ya)) | refine kO rfl rfl rfl rfl rfl ?_ | refine kP rfl rfl rfl ?_ | ((first | refine kQ rfl rfl ?_ ?_ | refine kR rfl rfl rfl rfl rfl ?_ ?_ | refine kS rfl rfl rfl ?_ ?_) <;> intro hc <;> (try simp only [KL, cond_true, cond_false, beq_iff_eq, bne_iff_ne, ne_eq, reduceCtorEq] at hc) <;> (try (have hT : True := hc; clear hT hc)) <;> (try (exfalso; omega))) | apply kT | apply kU | apply kV | apply kW | refine kX rfl ?_ | apply kY | apply kZ)
  refine zcall (fun i => i + 14) (cR) rfl rfl leh rfl rfl rfl rfl rfl rfl (fun r h' hR => ?_)
  obtain ⟨rfl, rfl⟩ := hR
  refine ⟨rfl, rfl, ?_⟩
  repeat' (first | (show W _ _ _ _ _ _; first | apply kA | refine kB rfl ?_ | refine kC rfl rfl ?_ | refine kD rfl rfl ?_ | apply kE | apply kF | apply kG | apply kH | refine kI (by kernel_rfl) (by kernel_rfl) ?_) | (show O _ _ _ _ _ _ _; first | (show O _ _ _ _ (⟨_, .alloc _, _, _, _, _⟩ :: _) _ _; first | refine ao_alloc (id := 20) rfl rfl rfl rfl rfl rfl rfl ?_ | refine ao_alloc (id := 21) rfl rfl rfl rfl rfl rfl rfl ?_) | (show O _ _ _ _ (⟨_, .store _ _ _, _, _, _, _⟩ :: _) _ _; refine kJ rfl rfl rfl rfl rfl rfl rfl rfl rfl rfl rfl ?_) | apply kK) | apply kL | ((first | apply kM | apply kN); (iterate 3 (· exact rfl)); (· first | (show Y _ ⟨_, .call ⟨.value _, _, _⟩, _, _, _, _⟩ _ _ _; first | exact q_c (c5) rfl) | exact ya)) | refine kO rfl rfl rfl rfl rfl ?_ | refine kP rfl rfl rfl ?_ | ((first | refine kQ rfl rfl ?_ ?_ | refine kR rfl rfl rfl rfl rfl ?_ ?_ | refine kS rfl rfl rfl ?_ ?_) <;> intro hc <;> (try simp only [KL, cond_true, cond_false, beq_iff_eq, bne_iff_ne, ne_eq, reduceCtorEq] at hc) <;> (try (have hT : True := hc; clear hT hc)) <;> (try (exfalso; omega))) | apply kT | apply kU | apply kV | apply kW | refine kX rfl ?_ | apply kY | apply kZ)
  refine wloop (fun x : Nat × Fr × Int × List Int => ([(1, .int .i64 most), (2, .ref (csF pc rg tn p L a l)), (5, .ptr 15 0), (6, .own 17), (7, .ptr 20 0), (8, .int .i64 rn), (9, .int .i64 rk), (10, .ptr 21 0), (11, .int .i64 x.1), (12, .int .i64 0)],
      [(15, .blk 124 [.own 16, .int .i64 rs]), (16, .row 47 1 (rL.map eU)), (17, .row 47 1 (x.2.2.2.map eU)), (20, .blk 52 (eFr rf)), (21, .blk 52 (eFr x.2.1))]))
    (fun x => x.1 ≤ most.toNat ∧ rgB x.2.1.rg ∧ x.2.1.tn.length = tn.length ∧ wB x.2.2.2 ∧ x.2.2.2.length = L.length ∧ (runF p a l (most.toNat - x.1) x.2.1 x.2.2.1 x.2.2.2).f = rf ∧ x.1 + (runF p a l (most.toNat - x.1) x.2.1 x.2.2.1 x.2.2.2).n = rn ∧ (runF p a l (most.toNat - x.1) x.2.1 x.2.2.1 x.2.2.2).k = rk ∧ (runF p a l (most.toNat - x.1) x.2.1 x.2.2.1 x.2.2.2).L = rL)
    (fun x => most.toNat - x.1) (0, ⟨pc, rg, tn⟩, 0, L) ⟨Nat.zero_le _, hrg, rfl, hLB, rfl, by simp only [Nat.sub_zero, hrun], by simp only [Nat.sub_zero, hrun, Nat.zero_add], by simp only [Nat.sub_zero, hrun], by simp only [Nat.sub_zero, hrun]⟩ les leh (fun x hx => ?_)
  obtain ⟨i, g, st1, L1⟩ := x
  obtain ⟨x1, x2, x3, x4, x5, y1, y2, y3, y5⟩ := hx
  simp only at x1 x2 x3 x4 x5 y1 y2 y3 y5 ⊢
  clear hrun
  rcases Nat.lt_or_eq_of_le x1 with hlt | heq
  · obtain ⟨m, hmm⟩ : ∃ m, most.toNat - i = m + 1 := ⟨most.toNat - i - 1, by omega⟩
    rw [hmm] at y1 y2 y3 y5
    have cS := rstep13_fn p g a l L1 (by omega) hn x2 (by omega) (by omega)
    have hin := step_inv p g a l 0 L1 hn x2 x4
    by_cases hk : (stepF p g a l 0 L1).k = 0
    · rw [run_more0 p a l m g st1 L1 hk] at y1 y2 y3 y5
      simp only at y1 y2 y3 y5
      have hm2 : most.toNat - (i + 1) = m := by omega
      rw [hk] at cS
      generalize stepF p g a l 0 L1 = S at *
      obtain ⟨sf, sk, ss, sL⟩ := S
      simp only at hin cS y1 y2 y3 y5
      obtain ⟨pc1, rg1, tn1⟩ := g
      repeat' (first | (show W _ _ _ _ _ _; first | apply kA | refine kB rfl ?_ | refine kC rfl rfl ?_ | refine kD rfl rfl ?_ | apply kE | apply kF | apply kG | apply kH | refine kI (by kernel_rfl) (by kernel_rfl) ?_) | (show O _ _ _ _ _ _ _; first | (show O _ _ _ _ (⟨_, .alloc _, _, _, _, _⟩ :: _) _ _; first | refine ao_alloc (id := 22) rfl rfl rfl rfl rfl rfl rfl ?_) | (show O _ _ _ _ (⟨_, .store _ _ _, _, _, _, _⟩ :: _) _ _; refine kJ rfl rfl rfl rfl rfl rfl rfl rfl rfl rfl rfl ?_) | apply kK) | apply kL | ((first | apply kM | apply kN); (iterate 3 (· exact rfl)); (· first | exact ya)) | refine kO rfl rfl rfl rfl rfl ?_ | refine kP rfl rfl rfl ?_ | ((first | refine kQ rfl rfl ?_ ?_ | refine kR rfl rfl rfl rfl rfl ?_ ?_ | refine kS rfl rfl rfl ?_ ?_) <;> intro hc <;> (try simp only [KL, cond_true, cond_false, beq_iff_eq, bne_iff_ne, ne_eq, reduceCtorEq] at hc) <;> (try (have hT : True := hc; clear hT hc)) <;> (try (exfalso; omega))) | apply kT | apply kU | apply kV | apply kW | refine kX rfl ?_ | apply kY | apply kZ)
      all_goals first | (exfalso; omega) | skip
      refine zcall (fun i => i + 15) (cS) rfl rfl leh rfl rfl rfl rfl rfl rfl (fun r h' hR => ?_)
      obtain ⟨rfl, rfl⟩ := hR
      refine ⟨rfl, rfl, ?_⟩
      obtain ⟨pc2, rg2, tn2⟩ := sf
      have z1 : tn2.length = tn.length := hin.2.2.2.1.trans x3
      have z2 : sL.length = L.length := hin.2.2.1.trans x5
      repeat' (first | (show W _ _ _ _ _ _; first | apply kA | refine kB rfl ?_ | refine kC rfl rfl ?_ | refine kD rfl rfl ?_ | apply kE | apply kF | apply kG | apply kH | refine kI (by kernel_rfl) (by kernel_rfl) ?_) | (show O _ _ _ _ _ _ _; first | (show O _ _ _ _ (⟨_, .alloc _, _, _, _, _⟩ :: _) _ _; first | refine ao_alloc (id := 22) rfl rfl rfl rfl rfl rfl rfl ?_) | (show O _ _ _ _ (⟨_, .store _ _ _, _, _, _, _⟩ :: _) _ _; refine kJ rfl rfl rfl rfl rfl rfl rfl rfl rfl rfl rfl ?_) | apply kK) | apply kL | ((first | apply kM | apply kN); (iterate 3 (· exact rfl)); (· first | exact ya)) | refine kO rfl rfl rfl rfl rfl ?_ | refine kP rfl rfl rfl ?_ | ((first | refine kQ rfl rfl ?_ ?_ | refine kR rfl rfl rfl rfl rfl ?_ ?_ | refine kS rfl rfl rfl ?_ ?_) <;> intro hc <;> (try simp only [KL, cond_true, cond_false, beq_iff_eq, bne_iff_ne, ne_eq, reduceCtorEq] at hc) <;> (try (have hT : True := hc; clear hT hc)) <;> (try (exfalso; omega))) | apply kT | apply kU | apply kV | apply kW | refine kX rfl ?_ | apply kY | apply kZ)
      all_goals first | (exfalso; omega) | exact ⟨(i + 1, ⟨pc2, rg2, tn2⟩, st1 + ss, sL), ⟨by simp only; omega, hin.1, z1, hin.2.1, z2, by simp only [hm2]; exact y1, by simp only [hm2]; omega, by simp only [hm2]; exact y3, by simp only [hm2]; exact y5⟩, by simp only; omega, les, leh⟩
    · rw [run_stop0 p a l m g st1 L1 hk] at y1 y2 y3 y5
      simp only at y1 y2 y3 y5
      generalize stepF p g a l 0 L1 = S at *
      obtain ⟨sf, sk, ss, sL⟩ := S
      simp only at hin cS hk y1 y2 y3 y5
      subst y1; subst y3; subst y5
      have c4 := same13_fn g g (by omega) (by omega)
      rw [sameF_self] at c4
      have cP := plw13_fn sL sL (by omega) (by omega)
      rw [decide_eq_true rfl] at cP
      obtain ⟨pc1, rg1, tn1⟩ := g
      repeat' (first | (show W _ _ _ _ _ _; first | apply kA | refine kB rfl ?_ | refine kC rfl rfl ?_ | refine kD rfl rfl ?_ | apply kE | apply kF | apply kG | apply kH | refine kI (by kernel_rfl) (by kernel_rfl) ?_) | (show O _ _ _ _ _ _ _; first | (show O _ _ _ _ (⟨_, .alloc _, _, _, _, _⟩ :: _) _ _; first | refine ao_alloc (id := 22) rfl rfl rfl rfl rfl rfl rfl ?_) | (show O _ _ _ _ (⟨_, .store _ _ _, _, _, _, _⟩ :: _) _ _; refine kJ rfl rfl rfl rfl rfl rfl rfl rfl rfl rfl rfl ?_) | apply kK) | apply kL | ((first | apply kM | apply kN); (iterate 3 (· exact rfl)); (· first | exact ya)) | refine kO rfl rfl rfl rfl rfl ?_ | refine kP rfl rfl rfl ?_ | ((first | refine kQ rfl rfl ?_ ?_ | refine kR rfl rfl rfl rfl rfl ?_ ?_ | refine kS rfl rfl rfl ?_ ?_) <;> intro hc <;> (try simp only [KL, cond_true, cond_false, beq_iff_eq, bne_iff_ne, ne_eq, reduceCtorEq] at hc) <;> (try (have hT : True := hc; clear hT hc)) <;> (try (exfalso; omega))) | apply kT | apply kU | apply kV | apply kW | refine kX rfl ?_ | apply kY | apply kZ)
      all_goals first | (exfalso; omega) | skip
      refine zcall (fun i => i + 15) (cS) rfl rfl leh rfl rfl rfl rfl rfl rfl (fun r h' hR => ?_)
      obtain ⟨rfl, rfl⟩ := hR
      refine ⟨rfl, rfl, ?_⟩
      obtain ⟨pc2, rg2, tn2⟩ := sf
      repeat' (first | (show W _ _ _ _ _ _; first | apply kA | refine kB rfl ?_ | refine kC rfl rfl ?_ | refine kD rfl rfl ?_ | apply kE | apply kF | apply kG | apply kH | refine kI (by kernel_rfl) (by kernel_rfl) ?_) | (show O _ _ _ _ _ _ _; first | (show O _ _ _ _ (⟨_, .alloc _, _, _, _, _⟩ :: _) _ _; first | refine ao_alloc (id := 22) rfl rfl rfl rfl rfl rfl rfl ?_) | (show O _ _ _ _ (⟨_, .store _ _ _, _, _, _, _⟩ :: _) _ _; refine kJ rfl rfl rfl rfl rfl rfl rfl rfl rfl rfl rfl ?_) | apply kK) | apply kL | ((first | apply kM | apply kN); (iterate 3 (· exact rfl)); (· first | (show Y _ ⟨_, .call ⟨.value _, _, _⟩, _, _, _, _⟩ _ _ _; first | exact q_c (c4) rfl) | exact ya)) | refine kO rfl rfl rfl rfl rfl ?_ | refine kP rfl rfl rfl ?_ | ((first | refine kQ rfl rfl ?_ ?_ | refine kR rfl rfl rfl rfl rfl ?_ ?_ | refine kS rfl rfl rfl ?_ ?_) <;> intro hc <;> (try simp only [KL, cond_true, cond_false, beq_iff_eq, bne_iff_ne, ne_eq, reduceCtorEq] at hc) <;> (try (have hT : True := hc; clear hT hc)) <;> (try (exfalso; omega))) | apply kT | apply kU | apply kV | apply kW | refine kX rfl ?_ | apply kY | apply kZ)
      all_goals first | (exfalso; omega) | skip
      refine zcall (fun i => i + 14) (cW) rfl rfl leh rfl rfl rfl rfl rfl rfl (fun r h' hR => ?_)
      obtain ⟨rfl, rfl⟩ := hR
      refine ⟨rfl, rfl, ?_⟩
      repeat' (first | (show W _ _ _ _ _ _; first | apply kA | refine kB rfl ?_ | refine kC rfl rfl ?_ | refine kD rfl rfl ?_ | apply kE | apply kF | apply kG | apply kH | refine kI (by kernel_rfl) (by kernel_rfl) ?_) | (show O _ _ _ _ _ _ _; first | (show O _ _ _ _ (⟨_, .store _ _ _, _, _, _, _⟩ :: _) _ _; refine kJ rfl rfl rfl rfl rfl rfl rfl rfl rfl rfl rfl ?_) | apply kK) | apply kL | ((first | apply kM | apply kN); (iterate 3 (· exact rfl)); (· first | exact ya)) | refine kO rfl rfl rfl rfl rfl ?_ | refine kP rfl rfl rfl ?_ | ((first | refine kQ rfl rfl ?_ ?_ | refine kR rfl rfl rfl rfl rfl ?_ ?_ | refine kS rfl rfl rfl ?_ ?_) <;> intro hc <;> (try simp only [KL, cond_true, cond_false, beq_iff_eq, bne_iff_ne, ne_eq, reduceCtorEq] at hc) <;> (try (have hT : True := hc; clear hT hc)) <;> (try (exfalso; omega))) | apply kT | apply kU | apply kV | apply kW | refine kX rfl ?_ | apply kY | apply kZ)
      refine zcall (fun i => i + 15) (cP) rfl rfl leh rfl rfl rfl rfl rfl rfl (fun r h' hR => ?_)
      obtain ⟨rfl, rfl⟩ := hR
      refine ⟨rfl, rfl, ?_⟩
      repeat' (first | (show W _ _ _ _ _ _; first | apply kA | refine kB rfl ?_ | refine kC rfl rfl ?_ | refine kD rfl rfl ?_ | apply kE | apply kF | apply kG | apply kH | refine kI (by kernel_rfl) (by kernel_rfl) ?_) | (show O _ _ _ _ _ _ _; first | (show O _ _ _ _ (⟨_, .store _ _ _, _, _, _, _⟩ :: _) _ _; refine kJ rfl rfl rfl rfl rfl rfl rfl rfl rfl rfl rfl ?_) | apply kK) | apply kL | ((first | apply kM | apply kN); (iterate 3 (· exact rfl)); (· first | (show Y _ ⟨_, .call ⟨.value _, _, _⟩, _, _, _, _⟩ _ _ _; first | exact q_c (c0) rfl) | exact ya)) | refine kO rfl rfl rfl rfl rfl ?_ | refine kP rfl rfl rfl ?_ | ((first | refine kQ rfl rfl ?_ ?_ | refine kR rfl rfl rfl rfl rfl ?_ ?_ | refine kS rfl rfl rfl ?_ ?_) <;> intro hc <;> (try simp only [KL, cond_true, cond_false, beq_iff_eq, bne_iff_ne, ne_eq, reduceCtorEq] at hc) <;> (try (have hT : True := hc; clear hT hc)) <;> (try (exfalso; omega))) | apply kT | apply kU | apply kV | apply kW | refine kX rfl ?_ | apply kY | apply kZ)
      all_goals first | (exfalso; omega) | exact retq rfl rfl
  · rw [heq, Nat.sub_self, runF] at y1 y2 y3 y5
    simp only at y1 y2 y3 y5
    subst y1; subst y3; subst y5
    have c4 := same13_fn g g (by omega) (by omega)
    rw [sameF_self] at c4
    have cP := plw13_fn L1 L1 (by omega) (by omega)
    rw [decide_eq_true rfl] at cP
    obtain ⟨pc1, rg1, tn1⟩ := g
    repeat' (first | (show W _ _ _ _ _ _; first | apply kA | refine kB rfl ?_ | refine kC rfl rfl ?_ | refine kD rfl rfl ?_ | apply kE | apply kF | apply kG | apply kH | refine kI (by kernel_rfl) (by kernel_rfl) ?_) | (show O _ _ _ _ _ _ _; first | (show O _ _ _ _ (⟨_, .store _ _ _, _, _, _, _⟩ :: _) _ _; refine kJ rfl rfl rfl rfl rfl rfl rfl rfl rfl rfl rfl ?_) | apply kK) | apply kL | ((first | apply kM | apply kN); (iterate 3 (· exact rfl)); (· first | (show Y _ ⟨_, .call ⟨.value _, _, _⟩, _, _, _, _⟩ _ _ _; first | exact q_c (c4) rfl) | exact ya)) | refine kO rfl rfl rfl rfl rfl ?_ | refine kP rfl rfl rfl ?_ | ((first | refine kQ rfl rfl ?_ ?_ | refine kR rfl rfl rfl rfl rfl ?_ ?_ | refine kS rfl rfl rfl ?_ ?_) <;> intro hc <;> (try simp only [KL, cond_true, cond_false, beq_iff_eq, bne_iff_ne, ne_eq, reduceCtorEq] at hc) <;> (try (have hT : True := hc; clear hT hc)) <;> (try (exfalso; omega))) | apply kT | apply kU | apply kV | apply kW | refine kX rfl ?_ | apply kY | apply kZ)
    all_goals first | (exfalso; omega) | skip
    refine zcall (fun i => i + 14) (cW) rfl rfl leh rfl rfl rfl rfl rfl rfl (fun r h' hR => ?_)
    obtain ⟨rfl, rfl⟩ := hR
    refine ⟨rfl, rfl, ?_⟩
    repeat' (first | (show W _ _ _ _ _ _; first | apply kA | refine kB rfl ?_ | refine kC rfl rfl ?_ | refine kD rfl rfl ?_ | apply kE | apply kF | apply kG | apply kH | refine kI (by kernel_rfl) (by kernel_rfl) ?_) | (show O _ _ _ _ _ _ _; first | (show O _ _ _ _ (⟨_, .store _ _ _, _, _, _, _⟩ :: _) _ _; refine kJ rfl rfl rfl rfl rfl rfl rfl rfl rfl rfl rfl ?_) | apply kK) | apply kL | ((first | apply kM | apply kN); (iterate 3 (· exact rfl)); (· first | exact ya)) | refine kO rfl rfl rfl rfl rfl ?_ | refine kP rfl rfl rfl ?_ | ((first | refine kQ rfl rfl ?_ ?_ | refine kR rfl rfl rfl rfl rfl ?_ ?_ | refine kS rfl rfl rfl ?_ ?_) <;> intro hc <;> (try simp only [KL, cond_true, cond_false, beq_iff_eq, bne_iff_ne, ne_eq, reduceCtorEq] at hc) <;> (try (have hT : True := hc; clear hT hc)) <;> (try (exfalso; omega))) | apply kT | apply kU | apply kV | apply kW | refine kX rfl ?_ | apply kY | apply kZ)
    refine zcall (fun i => i + 15) (cP) rfl rfl leh rfl rfl rfl rfl rfl rfl (fun r h' hR => ?_)
    obtain ⟨rfl, rfl⟩ := hR
    refine ⟨rfl, rfl, ?_⟩
    repeat' (first | (show W _ _ _ _ _ _; first | apply kA | refine kB rfl ?_ | refine kC rfl rfl ?_ | refine kD rfl rfl ?_ | apply kE | apply kF | apply kG | apply kH | refine kI (by kernel_rfl) (by kernel_rfl) ?_) | (show O _ _ _ _ _ _ _; first | (show O _ _ _ _ (⟨_, .store _ _ _, _, _, _, _⟩ :: _) _ _; refine kJ rfl rfl rfl rfl rfl rfl rfl rfl rfl rfl rfl ?_) | apply kK) | apply kL | ((first | apply kM | apply kN); (iterate 3 (· exact rfl)); (· first | (show Y _ ⟨_, .call ⟨.value _, _, _⟩, _, _, _, _⟩ _ _ _; first | exact q_c (c0) rfl) | exact ya)) | refine kO rfl rfl rfl rfl rfl ?_ | refine kP rfl rfl rfl ?_ | ((first | refine kQ rfl rfl ?_ ?_ | refine kR rfl rfl rfl rfl rfl ?_ ?_ | refine kS rfl rfl rfl ?_ ?_) <;> intro hc <;> (try simp only [KL, cond_true, cond_false, beq_iff_eq, bne_iff_ne, ne_eq, reduceCtorEq] at hc) <;> (try (have hT : True := hc; clear hT hc)) <;> (try (exfalso; omega))) | apply kT | apply kU | apply kV | apply kW | refine kX rfl ?_ | apply kY | apply kZ)
    all_goals first | (exfalso; omega) | exact retq rfl rfl
theorem frameRuns_fn (x : Case13) (most : Int) : Fn Try.prog 10 [.agg (eCase13 x), .int .i64 most] (.bool true) := runs13_fn x.pc (rgO x) x.tn x.p x.l x.at_ x.len most (fun i hi => by
  obtain ⟨j, rfl⟩ : ∃ j, i = j + 8 := ⟨i - 8, by omega⟩
  rfl)
end Go.Proofs.Ytffciebjpiljgaa
