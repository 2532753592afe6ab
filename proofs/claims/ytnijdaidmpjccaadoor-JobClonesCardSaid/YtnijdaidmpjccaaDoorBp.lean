/- Who is picked: the law. No condition. -/
import Derived.Test.YtnijdaidmpjccaaDoorBo
namespace Go.Proofs.YtnijdaidmpjccaaDoor
set_option linter.unusedSimpArgs false
set_option linter.unusedVariables false
set_option maxRecDepth 100000
set_option linter.unusedSimpArgs false
set_option linter.unusedVariables false
set_option maxRecDepth 100000
open Go.RowKit
theorem u64_nat {a : Int} (h : (Lit.int .u64 a).wf = true) : ∃ m : Nat, m < 2 ^ 64 ∧ a = (m : Int) := by
  have := rangeP_wf.2 h
  simp only [rangeP] at this
  exact ⟨a.toNat, by omega, by omega⟩
theorem bef_trans {prio : List Int} {a b c : Int} (h1 : befB prio a b = true) (h2 : befB prio b c = true) : befB prio a c = true := by
  unfold befB at *
  simp only [decide_eq_true_eq] at *
  omega
theorem bef_tot {prio : List Int} {a b : Int} (h1 : befB prio a b = false) : a = b ∨ befB prio b a = true := by
  unfold befB at *
  simp only [decide_eq_true_eq, decide_eq_false_iff_not] at *
  omega
theorem rk_mono {prio : List Int} {n : Nat} {a b : Int} (h : befB prio a b = true) : rk prio n a ≤ rk prio n b := by
  unfold rk
  exact List.countP_mono_left fun j _ hj => bef_trans hj h
/-- What the document's pick is, when all are gone through. -/
theorem pick_all {prio : List Int} : ∀ (q : List Int) (b : Int), b < prio.length → ((q.foldl (pick1 prio) b) < 0 → b < 0 ∧ ∀ i ∈ q, ¬ (0 ≤ i ∧ i < prio.length)) ∧
    (0 ≤ q.foldl (pick1 prio) b → (q.foldl (pick1 prio) b = b ∨ 0 ≤ b ∧ befB prio (q.foldl (pick1 prio) b) b = true ∨ b < 0) ∧ ∀ i ∈ q, 0 ≤ i → i < prio.length → i = q.foldl (pick1 prio) b ∨ befB prio (q.foldl (pick1 prio) b) i = true)
  | [], b, hb => ⟨fun h => ⟨h, fun i hi => by cases hi⟩, fun h => ⟨.inl rfl, fun i hi => by cases hi⟩⟩
  | x :: q, b, hb => by
    rw [List.foldl_cons]
    by_cases hc : 0 ≤ x ∧ x < prio.length ∧ (b < 0 ∨ befB prio x b = true)
    · have e : pick1 prio b x = x := by unfold pick1; rw [if_pos hc]
      rw [e]
      obtain ⟨h1, h2⟩ := pick_all q x hc.2.1
      generalize q.foldl (pick1 prio) x = r at h1 h2 ⊢
      refine ⟨fun h => by have := (h1 h).1; omega, fun h => ?_⟩
      obtain ⟨h3, h4⟩ := h2 h
      refine ⟨?_, fun i hi h5 h6 => ?_⟩
      · rcases hc.2.2 with h7 | h7
        · exact .inr (.inr h7)
        · by_cases h8 : b < 0
          · exact .inr (.inr h8)
          · refine .inr (.inl ⟨by omega, ?_⟩)
            rcases h3 with h3 | h3 | h3
            · rw [h3]; exact h7
            · exact bef_trans h3.2 h7
            · omega
      · rcases List.mem_cons.1 hi with rfl | hi
        · rcases h3 with h3 | h3 | h3
          · exact .inl h3.symm
          · exact .inr h3.2
          · omega
        · exact h4 i hi h5 h6
    · have e : pick1 prio b x = b := by unfold pick1; rw [if_neg hc]
      rw [e]
      obtain ⟨h1, h2⟩ := pick_all q b hb
      generalize q.foldl (pick1 prio) b = r at h1 h2 ⊢
      refine ⟨fun h => ⟨(h1 h).1, fun i hi => ?_⟩, fun h => ?_⟩
      · rcases List.mem_cons.1 hi with rfl | hi
        · intro h3; exact hc ⟨h3.1, h3.2, .inl (h1 h).1⟩
        · exact (h1 h).2 i hi
      · obtain ⟨h3, h4⟩ := h2 h
        refine ⟨h3, fun i hi h5 h6 => ?_⟩
        rcases List.mem_cons.1 hi with rfl | hi
        · have h7 : ¬ b < 0 ∧ befB prio i b = false := ⟨fun h8 => hc ⟨h5, h6, .inl h8⟩, by
            cases h8 : befB prio i b with
            | false => rfl
            | true => exact absurd ⟨h5, h6, .inr h8⟩ hc⟩
          rcases h3 with h3 | h3 | h3
          · rcases bef_tot h7.2 with h8 | h8
            · left; rw [h3]; exact h8
            · right; rw [h3]; exact h8
          · rcases bef_tot h7.2 with h8 | h8
            · right; rw [h8]; exact h3.2
            · right; exact bef_trans h3.2 h8
          · omega
        · exact h4 i hi h5 h6
/-- The program's pick is the document's. -/
theorem pick_skip {prio : List Int} : ∀ (q : List Nat) (b : Int), (∀ i ∈ q, prio.length ≤ i) → (q.map fun i : Nat => (i : Int)).foldl (pick1 prio) b = b
  | [], b, h => rfl
  | x :: q, b, h => by
    have hx := h x List.mem_cons_self
    rw [List.map_cons, List.foldl_cons]
    have e : pick1 prio b (x : Int) = b := by unfold pick1; rw [if_neg (by omega)]
    rw [e]; exact pick_skip q b fun i hi => h i (List.mem_cons_of_mem _ hi)
theorem pick_same {prio : List Int} : ∀ (q : List Nat) (b : Int), q.Pairwise (· < ·) → (∀ i ∈ q, b < (i : Int)) → (pickF prio q b).1 = (q.map fun i : Nat => (i : Int)).foldl (pick1 prio) b
  | [], b, h, hb => rfl
  | x :: q, b, h, hb => by
    rw [List.pairwise_cons] at h
    rw [pickF]
    by_cases hx : x < prio.length
    · rw [if_pos hx, List.map_cons, List.foldl_cons]
      have hbx := hb x List.mem_cons_self
      have e : pick1 prio b (x : Int) = pickN prio b x := by
        unfold pick1 pickN befB pr
        by_cases h1 : b < 0 ∨ prio.getD b.toNat 0 < prio.getD (x : Int).toNat 0
        · rw [if_pos h1, if_pos]
          refine ⟨by omega, by omega, ?_⟩
          rcases h1 with h1 | h1
          · exact .inl h1
          · exact .inr (by simp only [decide_eq_true_eq]; exact .inl h1)
        · rw [if_neg h1, if_neg]
          rintro ⟨_, _, h2 | h2⟩
          · exact h1 (.inl h2)
          · simp only [decide_eq_true_eq] at h2
            rcases h2 with h2 | h2
            · exact h1 (.inr h2)
            · omega
      rw [e]
      refine pick_same q _ h.2 fun i hi => ?_
      have := h.1 i hi
      unfold pickN; split <;> omega
    · rw [if_neg hx]
      rw [pick_skip (x :: q) b fun i hi => by
        rcases List.mem_cons.1 hi with rfl | hi
        · omega
        · have := h.1 i hi; omega]
theorem bitsL_lt (m : Nat) : (bitsL m).Pairwise (· < ·) := List.Pairwise.filter _ List.pairwise_lt_range
theorem setL_mem {m : Nat} {i : Int} (h : i ∈ setL m) : 0 ≤ i ∧ i < 64 := by
  obtain ⟨k, hk, rfl⟩ := List.mem_map.1 h
  have := (List.mem_filter.1 hk).1
  rw [List.mem_range] at this
  omega
theorem pick_eq (prio : List Int) (m : Nat) : (pickF prio (bitsL m) (-1)).1 = pickTo prio (setL m) (setL m).length := by
  rw [pick_same _ _ (bitsL_lt m) (fun i _ => by omega), pickTo, List.take_length]; rfl
theorem setL_len (m : Nat) : (setL m).length ≤ 64 := bitsTo_len m 64
theorem pick_rank {prio : List Int} {m : Nat} {i : Int} (hi : i ∈ setL m) (hl : i < prio.length) (hw : 0 ≤ pickTo prio (setL m) (setL m).length) : rk prio prio.length (pickTo prio (setL m) (setL m).length) ≤ rk prio prio.length i := by
  have h := (pick_all (prio := prio) (setL m) (-1) (by omega)).2
  unfold pickTo at hw ⊢
  rw [List.take_length] at hw ⊢
  rcases (h hw).2 i hi (setL_mem hi).1 hl with e | e
  · rw [← e]; exact Nat.le_refl _
  · exact rk_mono e
theorem picks_law (prio : List Int) (m : Nat) (hm : m < 2 ^ 64) : FnT Tryd.prog tabK 5 [.lst 1 (prio.map eI), .int .u64 m] (.bool true) := by
  refine fntw Tryd.func5 (entered_of (by kernel_rfl)) rfl rfl rfl rfl ?_
  have c0 := awake03_fn
  have hl := setL_len m
  have c1 := list3_fn m hm
  repeat' (first | (show W _ _ _ _ _ _; first | apply kA | refine kB rfl ?_ | refine kC rfl rfl ?_ | refine kD rfl rfl ?_ | apply kE | apply kF | apply kG | apply kH | refine kI (by kernel_rfl) (by kernel_rfl) ?_) | (show O _ _ _ _ _ _ _; first | (show O _ _ _ _ (⟨_, .store _ _ _, _, _, _, _⟩ :: _) _ _; refine kJ rfl rfl rfl rfl rfl rfl rfl rfl rfl rfl rfl ?_) | apply kK) | apply kL | ((first | apply kM | apply kN); (iterate 3 (· exact rfl)); (· first | (show Y _ ⟨_, .call ⟨.value _, _, _⟩, _, _, _, _⟩ _ _ _; first | exact q_c (c1) rfl) | exact ya | exact Y.mk (ok_callT (id := 9) c0 rfl rfl))) | refine kO rfl rfl rfl rfl rfl ?_ | refine kP rfl rfl rfl ?_ | ((first | refine kQ rfl rfl ?_ ?_ | refine kR rfl rfl rfl rfl rfl ?_ ?_ | refine kS rfl rfl rfl ?_ ?_) <;> intro hc <;> (try simp only [KL, cond_true, cond_false, beq_iff_eq, bne_iff_ne, ne_eq, reduceCtorEq] at hc) <;> (try (have hT : True := hc; clear hT hc)) <;> (try (exfalso; omega))) | apply kT | apply kU | apply kV | apply kW | refine kX rfl ?_ | apply kY | apply kZ)
  · exact retq rfl rfl
  · have hn : prio.length ≤ 1000000 := by omega
    have c2 := rpick3_fn prio (setL m) hn (by omega)
    have c3 := pick_fn prio m hm hn
    have c4 := ranks_fn prio hn
    have hp := pickTo_lt prio (setL m) (setL m).length
    have hr := fun i hi hl hw => pick_rank (prio := prio) (m := m) (i := i) hi hl hw
    rw [pick_eq] at c3
    generalize hb : pickTo prio (setL m) (setL m).length = b at c2 c3 hp hr
    have hkl := rkL_len prio prio.length
    repeat' (first | (show W _ _ _ _ _ _; first | apply kA | refine kB rfl ?_ | refine kC rfl rfl ?_ | refine kD rfl rfl ?_ | apply kE | apply kF | apply kG | apply kH | refine kI (by kernel_rfl) (by kernel_rfl) ?_) | (show O _ _ _ _ _ _ _; first | (show O _ _ _ _ (⟨_, .store _ _ _, _, _, _, _⟩ :: _) _ _; refine kJ rfl rfl rfl rfl rfl rfl rfl rfl rfl rfl rfl ?_) | apply kK) | apply kL | ((first | apply kM | apply kN); (iterate 3 (· exact rfl)); (· first | (show Y _ ⟨_, .call ⟨.value _, _, _⟩, _, _, _, _⟩ _ _ _; first | exact q_c (c2) rfl | exact q_c (c4) rfl) | exact ya | exact Y.mk (ok_callT (id := 9) c0 rfl rfl) | exact Y.mk (ok_callT (id := 9) c3 rfl rfl))) | refine kO rfl rfl rfl rfl rfl ?_ | refine kP rfl rfl rfl ?_ | ((first | refine kQ rfl rfl ?_ ?_ | refine kR rfl rfl rfl rfl rfl ?_ ?_ | refine kS rfl rfl rfl ?_ ?_) <;> intro hc <;> (try simp only [KL, cond_true, cond_false, beq_iff_eq, bne_iff_ne, ne_eq, reduceCtorEq] at hc) <;> (try (have hT : True := hc; clear hT hc)) <;> (try (exfalso; omega))) | apply kT | apply kU | apply kV | apply kW | refine kX rfl ?_ | apply kY | apply kZ)
    · exact retq rfl rfl
    · refine wloop (fun k : Nat => ([(0, .lst 1 (prio.map eI)), (7, .int .i64 b), (9, .lst 1 ((rkL prio prio.length).map eI)), (54, .lst 1 ((setL m).map eI)), (55, .int .i64 (setL m).length), (56, .int .i64 k)], [(9, .sem (thatC tabK))])) (fun k => k ≤ (setL m).length) (fun k => (setL m).length - k) 0 (Nat.zero_le _) les leh (fun k hk => ?_)
      rcases Nat.lt_or_eq_of_le hk with hk' | hk'
      · have hm1 := getD_mem hk'
        have hm2 := setL_mem hm1
        have hr1 := hr _ hm1
        generalize hi : (setL m).getD k default = i at hm1 hm2 hr1
        have hb0 : 0 ≤ b := by omega
        have e1 : (rkL prio prio.length).getD b.toNat default = (rk prio prio.length b : Int) := by
          rw [rkL_at prio (by omega), show ((b.toNat : Nat) : Int) = b by omega]
        have e2 : i < prio.length → (rkL prio prio.length).getD i.toNat default = (rk prio prio.length i : Int) := fun h => by
          rw [rkL_at prio (by omega), show ((i.toNat : Nat) : Int) = i by omega]
        repeat' (first | (show W _ _ _ _ _ _; first | apply kA | refine kB rfl ?_ | refine kC rfl rfl ?_ | refine kD rfl rfl ?_ | apply kE | apply kF | apply kG | apply kH | refine kI (by kernel_rfl) (by kernel_rfl) ?_) | (show O _ _ _ _ _ _ _; first | (show O _ _ _ _ (⟨_, .store _ _ _, _, _, _, _⟩ :: _) _ _; refine kJ rfl rfl rfl rfl rfl rfl rfl rfl rfl rfl rfl ?_) | apply kK) | apply kL | ((first | apply kM | apply kN); (iterate 3 (· exact rfl)); (· first | exact ya | exact Y.mk (ok_callT (id := 9) c0 rfl rfl))) | refine kO rfl rfl rfl rfl rfl ?_ | refine kP rfl rfl rfl ?_ | ((first | refine kQ rfl rfl ?_ ?_ | refine kR rfl rfl rfl rfl rfl ?_ ?_ | refine kS rfl rfl rfl ?_ ?_) <;> intro hc <;> (try simp only [KL, cond_true, cond_false, beq_iff_eq, bne_iff_ne, ne_eq, reduceCtorEq] at hc) <;> (try (have hT : True := hc; clear hT hc)) <;> (try (exfalso; omega))) | apply kT | apply kU | apply kV | apply kW | refine kX rfl ?_ | apply kY | apply kZ)
        · exfalso
          have hlt : (setL m).getD k default < prio.length := by assumption
          rw [hi] at hlt
          rw [hi, e1, e2 hlt] at hc
          have := hr1 hlt hb0
          omega
        · exact ⟨k + 1, by omega, by omega, les, leh⟩
        · exact ⟨k + 1, by omega, by omega, les, leh⟩
      · subst hk'
        repeat' (first | (show W _ _ _ _ _ _; first | apply kA | refine kB rfl ?_ | refine kC rfl rfl ?_ | refine kD rfl rfl ?_ | apply kE | apply kF | apply kG | apply kH | refine kI (by kernel_rfl) (by kernel_rfl) ?_) | (show O _ _ _ _ _ _ _; first | (show O _ _ _ _ (⟨_, .store _ _ _, _, _, _, _⟩ :: _) _ _; refine kJ rfl rfl rfl rfl rfl rfl rfl rfl rfl rfl rfl ?_) | apply kK) | apply kL | ((first | apply kM | apply kN); (iterate 3 (· exact rfl)); (· first | exact ya | exact Y.mk (ok_callT (id := 9) c0 rfl rfl))) | refine kO rfl rfl rfl rfl rfl ?_ | refine kP rfl rfl rfl ?_ | ((first | refine kQ rfl rfl ?_ ?_ | refine kR rfl rfl rfl rfl rfl ?_ ?_ | refine kS rfl rfl rfl ?_ ?_) <;> intro hc <;> (try simp only [KL, cond_true, cond_false, beq_iff_eq, bne_iff_ne, ne_eq, reduceCtorEq] at hc) <;> (try (have hT : True := hc; clear hT hc)) <;> (try (exfalso; omega))) | apply kT | apply kU | apply kV | apply kW | refine kX rfl ?_ | apply kY | apply kZ)
        all_goals first | (exfalso; omega) | skip
        exact retq rfl rfl
end Go.Proofs.YtnijdaidmpjccaaDoor
