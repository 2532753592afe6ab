/- Law 29: one step a tick. No condition. -/
import Derived.Test.YtfjoaeghnfkdlaaDoorK24
import Derived.Test.YtfjoaeghnfkdlaaDoorK25
import Derived.Test.YtfjoaeghnfkdlaaDoorK26
import Derived.Test.YtfjoaeghnfkdlaaDoorK13
import Derived.Test.YtfjoaeghnfkdlaaDoorK12
import Derived.Test.YtfjoaeghnfkdlaaDoorK8
set_option linter.unusedSimpArgs false
set_option linter.unusedVariables false
set_option maxHeartbeats 1000000
namespace Go.Proofs.YtfjoaeghnfkdlaaDoor
set_option linter.unusedSimpArgs false
set_option linter.unusedVariables false
set_option maxRecDepth 100000
set_option linter.unusedSimpArgs false
set_option linter.unusedVariables false
set_option maxRecDepth 100000
open Go.RowKit
theorem ev_cases {l : List Task} {A : List Bool} {G : List Due} {n t kd tk a b : Int} (h : okEv l ⟨A, G, n⟩ ⟨t, kd, tk, a, b⟩ = true) :
    (kd = 2 ∧ stEv ⟨A, G, n⟩ ⟨t, kd, tk, a, b⟩ = ⟨A, G, n⟩) ∨
    (kd = 1 ∧ (0 ≤ tk ∧ tk < l.length) ∧ stEv ⟨A, G, n⟩ ⟨t, kd, tk, a, b⟩ = ⟨A.set tk.toNat true, G ++ [⟨t, tk⟩], n⟩) ∨
    (kd = 3 ∧ (0 ≤ tk ∧ tk < l.length) ∧ stEv ⟨A, G, n⟩ ⟨t, kd, tk, a, b⟩ = ⟨A, G ++ [⟨t, tk⟩], n⟩) ∨
    (kd = 5 ∧ (0 ≤ tk ∧ tk < l.length) ∧ t = n ∧ (∀ i : Nat, i < A.length → A.getD i false = true → (i : Int) = tk ∨ ahK l i tk = false) ∧ stEv ⟨A, G, n⟩ ⟨t, kd, tk, a, b⟩ = ⟨A, G, n + 1⟩) ∨
    (kd = 6 ∧ tk = -1 ∧ t = n ∧ (∀ i : Nat, i < A.length → A.getD i false = false) ∧ stEv ⟨A, G, n⟩ ⟨t, kd, tk, a, b⟩ = ⟨A, G, n + 1⟩) ∨
    (kd = 7 ∧ (0 ≤ tk ∧ tk < l.length) ∧ stEv ⟨A, G, n⟩ ⟨t, kd, tk, a, b⟩ = ⟨A.set tk.toNat false, G, n⟩) ∨
    ((kd ≠ 1 ∧ kd ≠ 2 ∧ kd ≠ 3 ∧ kd ≠ 5 ∧ kd ≠ 6 ∧ kd ≠ 7) ∧ (0 ≤ tk ∧ tk < l.length) ∧ stEv ⟨A, G, n⟩ ⟨t, kd, tk, a, b⟩ = ⟨A, G, n⟩) := by
  unfold okEv at h
  unfold stEv
  simp only [Bool.or_eq_true, Bool.and_eq_true, decide_eq_true_eq, Bool.not_eq_true', decide_eq_false_iff_not, List.all_eq_true, List.mem_range] at h ⊢
  by_cases h2 : kd = 2
  · subst h2; exact .inl ⟨rfl, rfl⟩
  replace h := h.resolve_left h2
  obtain ⟨hb, hs⟩ := h
  by_cases h1 : kd = 1
  · subst h1; rw [if_neg (by decide), decide_eq_true_eq] at hb; exact .inr (.inl ⟨rfl, hb, rfl⟩)
  by_cases h3 : kd = 3
  · subst h3; rw [if_neg (by decide), decide_eq_true_eq] at hb; exact .inr (.inr (.inl ⟨rfl, hb, rfl⟩))
  by_cases h5 : kd = 5
  · subst h5
    rw [if_neg (by decide), decide_eq_true_eq] at hb
    obtain ⟨e1, e2⟩ := hs.resolve_left (fun h => h (.inl rfl))
    refine .inr (.inr (.inr (.inl ⟨rfl, hb, e1, fun i hi ha => ?_, rfl⟩)))
    have := e2 i hi
    rw [ha] at this
    exact (this.resolve_left (by decide)).2
  by_cases h6 : kd = 6
  · subst h6
    rw [if_pos rfl, decide_eq_true_eq] at hb
    obtain ⟨e1, e2⟩ := hs.resolve_left (fun h => h (.inr rfl))
    refine .inr (.inr (.inr (.inr (.inl ⟨rfl, hb, e1, fun i hi => ?_, rfl⟩))))
    exact (e2 i hi).resolve_right (fun h => absurd h.1 (by decide))
  rw [if_neg h6, decide_eq_true_eq] at hb
  by_cases h7 : kd = 7
  · subst h7; exact .inr (.inr (.inr (.inr (.inr (.inl ⟨rfl, hb, rfl⟩)))))
  · refine .inr (.inr (.inr (.inr (.inr (.inr ⟨⟨h1, h2, h3, h5, h6, h7⟩, hb, ?_⟩)))))
    rw [if_neg h1, if_neg h3, if_neg (by omega), if_neg h7]
theorem runO_len {l : List Task} : ∀ (es : List Event) (s s' : St29), runO l s es = some s' → s'.G.length ≤ s.G.length + es.length
  | [], s, s', h => by cases h; simp
  | x :: r, s, s', h => by
    rw [runO_cons] at h
    split at h
    · have h1 := runO_len r _ _ h
      have h2 : (stEv s x).G.length ≤ s.G.length + 1 := by
        unfold stEv
        repeat' split
        all_goals simp
      rw [List.length_cons]; omega
    · cases h
theorem runO_drop {l : List Task} {es : List Event} {k : Nat} {s s' : St29} (h : runO l s (es.drop k) = some s') (hk : k < es.length) : okEv l s (es.getD k default) = true ∧ runO l (stEv s (es.getD k default)) (es.drop (k + 1)) = some s' := by
  rw [List.drop_eq_getElem_cons hk, runO_cons] at h
  have e : es.getD k default = es[k] := by simp [hk]
  rw [e]
  split at h
  · rename_i hx; exact ⟨hx, h⟩
  · cases h
def Inv29 (l : List Task) (es : List Event) (R : St29) (x : Nat × St29) : Prop := x.1 ≤ es.length ∧ x.2.A.length = l.length ∧ x.2.G.length ≤ x.1 ∧ (0 ≤ x.2.n ∧ x.2.n ≤ x.1) ∧ runO l x.2 (es.drop x.1) = some R
set_option maxHeartbeats 16000000 in
theorem kernelOne_fn (l : List Task) (asks : List Due) (dm : List (List Int)) (ticks : Int) : FnT Tryd.prog tabK 4 [.agg [.lst 7 (l.map eTask), .lst 2 (asks.map eDue), .lst 1 (dm.map eLI), .int .i64 ticks]] (.bool true) := by
  refine fntw Tryd.func4 (entered_of (by kernel_rfl)) rfl rfl rfl rfl ?_
  have c1 := light29_fn l asks dm ticks
  have c2 := awake29_fn
  cases hli : lightB l asks dm ticks <;> rw [hli] at c1
  · repeat' (first | (show W _ _ _ _ _ _; first | apply kA | refine kB rfl ?_ | refine kC rfl rfl ?_ | refine kD rfl rfl ?_ | apply kE | apply kF | apply kG | apply kH | refine kI (by kernel_rfl) (by kernel_rfl) ?_) | (show O _ _ _ _ _ _ _; first | (show O _ _ _ _ (⟨_, .store _ _ _, _, _, _, _⟩ :: _) _ _; refine kJ rfl rfl rfl rfl rfl rfl rfl rfl rfl rfl rfl ?_) | apply kK) | apply kL | ((first | apply kM | apply kN); (iterate 3 (· exact rfl)); (· first | (show Y _ ⟨_, .call ⟨.value _, _, _⟩, _, _, _, _⟩ _ _ _; first | exact q_c (c1) rfl) | exact ya | exact Y.mk (ok_callT (id := 9) c2 rfl rfl))) | refine kO rfl rfl rfl rfl rfl ?_ | refine kP rfl rfl rfl ?_ | ((first | refine kQ rfl rfl ?_ ?_ | refine kR rfl rfl rfl rfl rfl ?_ ?_ | refine kS rfl rfl rfl ?_ ?_) <;> intro hc <;> (try simp only [KL, cond_true, cond_false, beq_iff_eq, bne_iff_ne, ne_eq, reduceCtorEq] at hc) <;> (try (have hT : True := hc; clear hT hc)) <;> (try (exfalso; omega))) | apply kT | apply kU | apply kV | apply kW | refine kX rfl ?_ | apply kY | apply kZ)
    all_goals first | (exfalso; omega) | exact retq rfl rfl
  have hli2 : fewQ l 20 = true ∧ (asks.length ≤ 200 ∧ dm.length ≤ 20 ∧ ¬ (1000 < ticks ∧ ticks ≤ 65536)) := by
    rw [lightB, Bool.and_eq_true, Bool.and_eq_true, decide_eq_true_eq] at hli
    exact hli.1
  obtain ⟨hfew, ha, hdm, htk⟩ := hli2
  have hl : l.length ≤ 20 := by
    rw [fewQ, Bool.and_eq_true, decide_eq_true_eq] at hfew; omega
  have c4 := new29r_fn l (by omega)
  cases hok : okK l
  · have c4 := c4.mono (R' := fun r h' => r = .nilp ∧ h' = []) fun r h hr => hr.2 hok
    repeat' (first | (show W _ _ _ _ _ _; first | apply kA | refine kB rfl ?_ | refine kC rfl rfl ?_ | refine kD rfl rfl ?_ | apply kE | apply kF | apply kG | apply kH | refine kI (by kernel_rfl) (by kernel_rfl) ?_) | (show O _ _ _ _ _ _ _; first | (show O _ _ _ _ (⟨_, .store _ _ _, _, _, _, _⟩ :: _) _ _; refine kJ rfl rfl rfl rfl rfl rfl rfl rfl rfl rfl rfl ?_) | apply kK) | apply kL | ((first | apply kM | apply kN); (iterate 3 (· exact rfl)); (· first | (show Y _ ⟨_, .call ⟨.value _, _, _⟩, _, _, _, _⟩ _ _ _; first | exact q_c (c1) rfl) | exact ya | exact Y.mk (ok_callT (id := 9) c2 rfl rfl))) | refine kO rfl rfl rfl rfl rfl ?_ | refine kP rfl rfl rfl ?_ | ((first | refine kQ rfl rfl ?_ ?_ | refine kR rfl rfl rfl rfl rfl ?_ ?_ | refine kS rfl rfl rfl ?_ ?_) <;> intro hc <;> (try simp only [KL, cond_true, cond_false, beq_iff_eq, bne_iff_ne, ne_eq, reduceCtorEq] at hc) <;> (try (have hT : True := hc; clear hT hc)) <;> (try (exfalso; omega))) | apply kT | apply kU | apply kV | apply kW | refine kX rfl ?_ | apply kY | apply kZ)
    all_goals first | (exfalso; omega) | skip
    refine oturn (turn_dummy eI 118 3 1 (by omega) rfl) ?_
    refine oturn (turn_dummy eI 116 3 1 (by omega) rfl) ?_
    refine oturn (turn_dummy eI 115 3 1 (by omega) rfl) ?_
    refine oturn (turn_dummy eI 111 3 1 (by omega) rfl) ?_
    refine oturn (turn_dummy eI 110 3 1 (by omega) rfl) ?_
    refine zcall (fun i => ρK i) (c4) rfl rfl leh (by kernel_rfl) (by kernel_rfl) (by kernel_rfl) (by kernel_rfl) rfl rfl (fun r h' hR => ?_)
    obtain ⟨rfl, rfl⟩ := hR
    refine ⟨rfl, rfl, ?_⟩
    refine ole (h' := [tab9]) (LeS.refl _) leh ?_
    repeat' (first | (show W _ _ _ _ _ _; first | apply kA | refine kB rfl ?_ | refine kC rfl rfl ?_ | refine kD rfl rfl ?_ | apply kE | apply kF | apply kG | apply kH | refine kI (by kernel_rfl) (by kernel_rfl) ?_) | (show O _ _ _ _ _ _ _; first | (show O _ _ _ _ (⟨_, .store _ _ _, _, _, _, _⟩ :: _) _ _; refine kJ rfl rfl rfl rfl rfl rfl rfl rfl rfl rfl rfl ?_) | apply kK) | apply kL | ((first | apply kM | apply kN); (iterate 3 (· exact rfl)); (· first | (show Y _ ⟨_, .call ⟨.value _, _, _⟩, _, _, _, _⟩ _ _ _; first | exact q_c (c1) rfl) | exact ya | exact Y.mk (ok_callT (id := 9) c2 rfl rfl))) | refine kO rfl rfl rfl rfl rfl ?_ | refine kP rfl rfl rfl ?_ | ((first | refine kQ rfl rfl ?_ ?_ | refine kR rfl rfl rfl rfl rfl ?_ ?_ | refine kS rfl rfl rfl ?_ ?_) <;> intro hc <;> (try simp only [KL, cond_true, cond_false, beq_iff_eq, bne_iff_ne, ne_eq, reduceCtorEq] at hc) <;> (try (have hT : True := hc; clear hT hc)) <;> (try (exfalso; omega))) | apply kT | apply kU | apply kV | apply kW | refine kX rfl ?_ | apply kY | apply kZ)
    all_goals first | (exfalso; omega) | exact retq rfl rfl
  have c4 := c4.mono (R' := fun r h' => r = .ptr 110 0 ∧ h' = rkO l newB (foN (List.replicate l.length [])) 0 false) fun r h hr => hr.1 hok
  have hl8 : l.length ≤ 8 := by rw [okK, Bool.and_eq_true, decide_eq_true_eq] at hok; omega
  by_cases hb : ticks < 0 ∨ 1000 < ticks
  · repeat' (first | (show W _ _ _ _ _ _; first | apply kA | refine kB rfl ?_ | refine kC rfl rfl ?_ | refine kD rfl rfl ?_ | apply kE | apply kF | apply kG | apply kH | refine kI (by kernel_rfl) (by kernel_rfl) ?_) | (show O _ _ _ _ _ _ _; first | (show O _ _ _ _ (⟨_, .store _ _ _, _, _, _, _⟩ :: _) _ _; refine kJ rfl rfl rfl rfl rfl rfl rfl rfl rfl rfl rfl ?_) | apply kK) | apply kL | ((first | apply kM | apply kN); (iterate 3 (· exact rfl)); (· first | (show Y _ ⟨_, .call ⟨.value _, _, _⟩, _, _, _, _⟩ _ _ _; first | exact q_c (c1) rfl) | exact ya | exact Y.mk (ok_callT (id := 9) c2 rfl rfl))) | refine kO rfl rfl rfl rfl rfl ?_ | refine kP rfl rfl rfl ?_ | ((first | refine kQ rfl rfl ?_ ?_ | refine kR rfl rfl rfl rfl rfl ?_ ?_ | refine kS rfl rfl rfl ?_ ?_) <;> intro hc <;> (try simp only [KL, cond_true, cond_false, beq_iff_eq, bne_iff_ne, ne_eq, reduceCtorEq] at hc) <;> (try (have hT : True := hc; clear hT hc)) <;> (try (exfalso; omega))) | apply kT | apply kU | apply kV | apply kW | refine kX rfl ?_ | apply kY | apply kZ)
    all_goals first | (exfalso; omega) | skip
    refine oturn (turn_dummy eI 118 3 1 (by omega) rfl) ?_
    refine oturn (turn_dummy eI 116 3 1 (by omega) rfl) ?_
    refine oturn (turn_dummy eI 115 3 1 (by omega) rfl) ?_
    refine oturn (turn_dummy eI 111 3 1 (by omega) rfl) ?_
    refine oturn (turn_dummy eI 110 3 1 (by omega) rfl) ?_
    refine zcall (fun i => ρK i) (c4) rfl rfl leh (by kernel_rfl) (by kernel_rfl) (by kernel_rfl) (by kernel_rfl) rfl rfl (fun r h' hR => ?_)
    obtain ⟨rfl, rfl⟩ := hR
    refine ⟨rfl, rfl, ?_⟩
    refine ole (h' := tab9 :: rkO l newB (foN (List.replicate l.length [])) 0 false) (LeS.refl _) leh ?_
    repeat' (first | (show W _ _ _ _ _ _; first | apply kA | refine kB rfl ?_ | refine kC rfl rfl ?_ | refine kD rfl rfl ?_ | apply kE | apply kF | apply kG | apply kH | refine kI (by kernel_rfl) (by kernel_rfl) ?_) | (show O _ _ _ _ _ _ _; first | (show O _ _ _ _ (⟨_, .store _ _ _, _, _, _, _⟩ :: _) _ _; refine kJ rfl rfl rfl rfl rfl rfl rfl rfl rfl rfl rfl ?_) | apply kK) | apply kL | ((first | apply kM | apply kN); (iterate 3 (· exact rfl)); (· first | (show Y _ ⟨_, .call ⟨.value _, _, _⟩, _, _, _, _⟩ _ _ _; first | exact q_c (c1) rfl) | exact ya | exact Y.mk (ok_callT (id := 9) c2 rfl rfl))) | refine kO rfl rfl rfl rfl rfl ?_ | refine kP rfl rfl rfl ?_ | ((first | refine kQ rfl rfl ?_ ?_ | refine kR rfl rfl rfl rfl rfl ?_ ?_ | refine kS rfl rfl rfl ?_ ?_) <;> intro hc <;> (try simp only [KL, cond_true, cond_false, beq_iff_eq, bne_iff_ne, ne_eq, reduceCtorEq] at hc) <;> (try (have hT : True := hc; clear hT hc)) <;> (try (exfalso; omega))) | apply kT | apply kU | apply kV | apply kW | refine kX rfl ?_ | apply kY | apply kZ)
    all_goals first | (exfalso; omega) | exact retq rfl rfl
  obtain ⟨T, hT⟩ : ∃ T : Nat, ticks = T := ⟨ticks.toNat, by omega⟩
  subst hT
  have c3 := run_fn l asks dm T hok (by omega) ⟨by omega, by omega⟩
  rw [Int.toNat_natCast, (run_same hok asks dm T (by omega)).2] at c3
  have c5 := rall_fn l asks T (by omega) (by omega) (by omega)
  have hI := rRun_inv hl8 asks dm T (by omega)
  have hes : (rRun l asks dm T).es.length ≤ 1000000 := by
    have h1 := hI.len
    have h2 := askN_le asks T
    omega
  obtain ⟨A', hrun, _⟩ := all_run hok asks dm T (by omega)
  have hgot := got_perm hok asks dm T (by omega)
  have hgl := runO_len _ _ _ hrun
  generalize gotAll l asks dm T = gA at *
  generalize (rRun l asks dm T).es = es at *
  simp only [List.length_nil, Nat.zero_add] at hgl
  have c6 := rsort_fn gA (by omega)
  have c7 := pl_Dues (sortD gA) (allA l asks T).1
  rw [decide_eq_true hgot] at c7
  repeat' (first | (show W _ _ _ _ _ _; first | apply kA | refine kB rfl ?_ | refine kC rfl rfl ?_ | refine kD rfl rfl ?_ | apply kE | apply kF | apply kG | apply kH | refine kI (by kernel_rfl) (by kernel_rfl) ?_) | (show O _ _ _ _ _ _ _; first | (show O _ _ _ _ (⟨_, .store _ _ _, _, _, _, _⟩ :: _) _ _; refine kJ rfl rfl rfl rfl rfl rfl rfl rfl rfl rfl rfl ?_) | apply kK) | apply kL | ((first | apply kM | apply kN); (iterate 3 (· exact rfl)); (· first | (show Y _ ⟨_, .call ⟨.value _, _, _⟩, _, _, _, _⟩ _ _ _; first | exact q_c (c1) rfl) | exact ya | exact Y.mk (ok_callT (id := 9) c3 rfl rfl))) | refine kO rfl rfl rfl rfl rfl ?_ | refine kP rfl rfl rfl ?_ | ((first | refine kQ rfl rfl ?_ ?_ | refine kR rfl rfl rfl rfl rfl ?_ ?_ | refine kS rfl rfl rfl ?_ ?_) <;> intro hc <;> (try simp only [KL, cond_true, cond_false, beq_iff_eq, bne_iff_ne, ne_eq, reduceCtorEq] at hc) <;> (try (have hT : True := hc; clear hT hc)) <;> (try (exfalso; omega))) | apply kT | apply kU | apply kV | apply kW | refine kX rfl ?_ | apply kY | apply kZ)
  all_goals first | (exfalso; omega) | skip
  refine oturn (turn_dummy eI 118 3 1 (by omega) rfl) ?_
  refine oturn (turn_dummy eI 116 3 1 (by omega) rfl) ?_
  refine oturn (turn_dummy eI 115 3 1 (by omega) rfl) ?_
  refine oturn (turn_dummy eI 111 3 1 (by omega) rfl) ?_
  refine oturn (turn_dummy eI 110 3 1 (by omega) rfl) ?_
  refine zcall (fun i => ρK i) (c4) rfl rfl leh (by kernel_rfl) (by kernel_rfl) (by kernel_rfl) (by kernel_rfl) rfl rfl (fun r h' hR => ?_)
  obtain ⟨rfl, rfl⟩ := hR
  refine ⟨rfl, rfl, ?_⟩
  refine ole (h' := tab9 :: rkO l newB (foN (List.replicate l.length [])) 0 false) (LeS.refl _) leh ?_
  repeat' (first | (show W _ _ _ _ _ _; first | apply kA | refine kB rfl ?_ | refine kC rfl rfl ?_ | refine kD rfl rfl ?_ | apply kE | apply kF | apply kG | apply kH | refine kI (by kernel_rfl) (by kernel_rfl) ?_) | (show O _ _ _ _ _ _ _; first | (show O _ _ _ _ (⟨_, .store _ _ _, _, _, _, _⟩ :: _) _ _; refine kJ rfl rfl rfl rfl rfl rfl rfl rfl rfl rfl rfl ?_) | apply kK) | apply kL | ((first | apply kM | apply kN); (iterate 3 (· exact rfl)); (· first | (show Y _ ⟨_, .call ⟨.value _, _, _⟩, _, _, _, _⟩ _ _ _; first | exact q_c (c1) rfl | exact q_c (c5) rfl) | exact ya | exact Y.mk (ok_callT (id := 9) c3 rfl rfl))) | refine kO rfl rfl rfl rfl rfl ?_ | refine kP rfl rfl rfl ?_ | ((first | refine kQ rfl rfl ?_ ?_ | refine kR rfl rfl rfl rfl rfl ?_ ?_ | refine kS rfl rfl rfl ?_ ?_) <;> intro hc <;> (try simp only [KL, cond_true, cond_false, beq_iff_eq, bne_iff_ne, ne_eq, reduceCtorEq] at hc) <;> (try (have hT : True := hc; clear hT hc)) <;> (try (exfalso; omega))) | apply kT | apply kU | apply kV | apply kW | refine kX rfl ?_ | apply kY | apply kZ)
  all_goals first | (exfalso; omega) | skip
  (refine ao_mk (f := eB) (d := false) (id := 12) (by_ := 1) (sz := 1) rfl rfl rfl rfl rfl rfl rfl rfl rfl rfl ?_ ?_ rfl rfl rfl rfl ?_; (· omega); (· omega))
  repeat' (first | (show W _ _ _ _ _ _; first | apply kA | refine kB rfl ?_ | refine kC rfl rfl ?_ | refine kD rfl rfl ?_ | apply kE | apply kF | apply kG | apply kH | refine kI (by kernel_rfl) (by kernel_rfl) ?_) | (show O _ _ _ _ _ _ _; first | (show O _ _ _ _ (⟨_, .store _ _ _, _, _, _, _⟩ :: _) _ _; refine kJ rfl rfl rfl rfl rfl rfl rfl rfl rfl rfl rfl ?_) | apply kK) | apply kL | ((first | apply kM | apply kN); (iterate 3 (· exact rfl)); (· first | exact ya)) | refine kO rfl rfl rfl rfl rfl ?_ | refine kP rfl rfl rfl ?_ | ((first | refine kQ rfl rfl ?_ ?_ | refine kR rfl rfl rfl rfl rfl ?_ ?_ | refine kS rfl rfl rfl ?_ ?_) <;> intro hc <;> (try simp only [KL, cond_true, cond_false, beq_iff_eq, bne_iff_ne, ne_eq, reduceCtorEq] at hc) <;> (try (have hT : True := hc; clear hT hc)) <;> (try (exfalso; omega))) | apply kT | apply kU | apply kV | apply kW | refine kX rfl ?_ | apply kY | apply kZ)
  refine wturn (turn_own eDue (t := 8) rfl 13 43 2 (by omega) rfl) ?_
  refine wloop (fun x : Nat × St29 => ([(1, .ref [.lst 7 (l.map eTask), .lst 2 (asks.map eDue), .lst 1 (dm.map eLI), .int .i64 T]), (4, .int .i64 0), (5, .lst 2 ((allA l asks T).1.map eDue)), (7, .own 12), (8, .own 13), (9, .int .i64 x.2.n), (59, .lst 5 (es.map eEvent)), (60, .int .i64 es.length), (61, .int .i64 x.1)],
      [(13, .row 43 2 (x.2.G.map eDue)), (12, .row 4 1 (x.2.A.map eB)), tab9]))
    (Inv29 l es ⟨A', gA, T⟩) (fun x => es.length - x.1) (0, ⟨List.replicate l.length false, [], 0⟩) ⟨Nat.zero_le _, List.length_replicate, Nat.le_refl _, ⟨Int.le_refl _, Int.le_refl _⟩, hrun⟩ les leh (fun x hx => ?_)
  obtain ⟨k, A, G, n⟩ := x
  obtain ⟨hk, hA, hG, hn, hr⟩ := hx
  simp only at hk hA hG hn hr ⊢
  rcases Nat.lt_or_eq_of_le hk with hkl | hkl
  · obtain ⟨hev, hr2⟩ := runO_drop hr hkl
    obtain ⟨ev, hd⟩ : ∃ ev, es.getD k default = ev := ⟨_, rfl⟩
    rw [hd] at hev hr2
    obtain ⟨t, kd, tk, a, b⟩ := ev
    have hnxt : ∀ s' : St29, stEv ⟨A, G, n⟩ ⟨t, kd, tk, a, b⟩ = s' → s'.A.length = l.length → s'.G.length ≤ k + 1 → 0 ≤ s'.n ∧ s'.n ≤ (k : Int) + 1 → Inv29 l es ⟨A', gA, T⟩ (k + 1, s') := fun s' e h1 h2 h3 => ⟨hkl, h1, h2, ⟨h3.1, by show s'.n ≤ ((k + 1 : Nat) : Int); omega⟩, by rw [← e]; exact hr2⟩
    rcases ev_cases hev with ⟨rfl, e⟩ | ⟨rfl, hb1, e⟩ | ⟨rfl, hb1, e⟩ | ⟨rfl, hb1, h2, h3, e⟩ | ⟨rfl, hb1, h2, h3, e⟩ | ⟨rfl, hb1, e⟩ | ⟨hne, hb1, e⟩
    · have hi := hnxt _ e hA (by simp only; omega) ⟨hn.1, by simp only; omega⟩
      repeat' (first | (show W _ _ _ _ _ _; first | apply kA | refine kB rfl ?_ | refine kC rfl rfl ?_ | refine kD rfl rfl ?_ | apply kE | apply kF | apply kG | apply kH | refine kI (by kernel_rfl) (by kernel_rfl) ?_) | (show O _ _ _ _ _ _ _; first | (show O _ _ _ _ (⟨_, .alloc _, _, _, _, _⟩ :: _) _ _; first | refine ao_alloc (id := 14) rfl rfl rfl rfl rfl rfl rfl ?_) | (show O _ _ _ _ (⟨_, .store _ _ _, _, _, _, _⟩ :: _) _ _; refine kJ rfl rfl rfl rfl rfl rfl rfl rfl rfl rfl rfl ?_) | apply kK) | apply kL | ((first | apply kM | apply kN); (iterate 3 (· exact rfl)); (· first | (show Y _ ⟨_, .indexAddr _ _ _, _, _, _, _⟩ _ _ _; first | exact Y.mk (ok_indexE (hd) rfl rfl rfl rfl rfl (by omega))) | exact ya)) | refine kO rfl rfl rfl rfl rfl ?_ | refine kP rfl rfl rfl ?_ | ((first | refine kQ rfl rfl ?_ ?_ | refine kR rfl rfl rfl rfl rfl ?_ ?_ | refine kS rfl rfl rfl ?_ ?_) <;> intro hc <;> (try simp only [KL, cond_true, cond_false, beq_iff_eq, bne_iff_ne, ne_eq, reduceCtorEq] at hc) <;> (try (have hT : True := hc; clear hT hc)) <;> (try (exfalso; omega))) | apply kT | apply kU | apply kV | apply kW | refine kX rfl ?_ | apply kY | apply kZ)
      all_goals first | (exfalso; omega) | skip
      exact ⟨_, hi, by simp only; omega, les, leh⟩
    · obtain ⟨p, rfl⟩ : ∃ p : Nat, tk = p := ⟨tk.toNat, by omega⟩
      rw [Int.toNat_natCast] at e
      have hi := hnxt _ e (by simp only [List.length_set]; exact hA) (by simp only [List.length_append, List.length_cons, List.length_nil]; omega) ⟨hn.1, by simp only; omega⟩
      repeat' (first | (show W _ _ _ _ _ _; first | apply kA | refine kB rfl ?_ | refine kC rfl rfl ?_ | refine kD rfl rfl ?_ | apply kE | apply kF | apply kG | apply kH | refine kI (by kernel_rfl) (by kernel_rfl) ?_) | (show O _ _ _ _ _ _ _; first | (show O _ _ _ _ (⟨_, .alloc _, _, _, _, _⟩ :: _) _ _; first | refine ao_alloc (id := 14) rfl rfl rfl rfl rfl rfl rfl ?_) | (show O _ _ _ _ (⟨_, .store _ _ _, _, _, _, _⟩ :: _) _ _; refine kJ rfl rfl rfl rfl rfl rfl rfl rfl rfl rfl rfl ?_) | apply kK) | apply kL | ((first | apply kM | apply kN); (iterate 3 (· exact rfl)); (· first | (show Y _ ⟨_, .indexAddr _ _ _, _, _, _, _⟩ _ _ _; first | exact Y.mk (ok_indexE (hd) rfl rfl rfl rfl rfl (by omega))) | exact ya)) | refine kO rfl rfl rfl rfl rfl ?_ | refine kP rfl rfl rfl ?_ | ((first | refine kQ rfl rfl ?_ ?_ | refine kR rfl rfl rfl rfl rfl ?_ ?_ | refine kS rfl rfl rfl ?_ ?_) <;> intro hc <;> (try simp only [KL, cond_true, cond_false, beq_iff_eq, bne_iff_ne, ne_eq, reduceCtorEq] at hc) <;> (try (have hT : True := hc; clear hT hc)) <;> (try (exfalso; omega))) | apply kT | apply kU | apply kV | apply kW | refine kX rfl ?_ | apply kY | apply kZ)
      all_goals first | (exfalso; omega) | skip
      (refine ao_se (x' := true) rfl rfl rfl rfl rfl rfl rfl rfl rfl ?_ rfl rfl rfl ?_; (· (first | omega | ((try simp only [List.length_set, List.length_cons, List.length_nil, List.length_append, List.length_map]) <;> omega))))
      repeat' (first | (show W _ _ _ _ _ _; first | apply kA | refine kB rfl ?_ | refine kC rfl rfl ?_ | refine kD rfl rfl ?_ | apply kE | apply kF | apply kG | apply kH | refine kI (by kernel_rfl) (by kernel_rfl) ?_) | (show O _ _ _ _ _ _ _; first | (show O _ _ _ _ (⟨_, .store _ _ _, _, _, _, _⟩ :: _) _ _; refine kJ rfl rfl rfl rfl rfl rfl rfl rfl rfl rfl rfl ?_) | apply kK) | apply kL | ((first | apply kM | apply kN); (iterate 3 (· exact rfl)); (· first | exact ya)) | refine kO rfl rfl rfl rfl rfl ?_ | refine kP rfl rfl rfl ?_ | ((first | refine kQ rfl rfl ?_ ?_ | refine kR rfl rfl rfl rfl rfl ?_ ?_ | refine kS rfl rfl rfl ?_ ?_) <;> intro hc <;> (try simp only [KL, cond_true, cond_false, beq_iff_eq, bne_iff_ne, ne_eq, reduceCtorEq] at hc) <;> (try (have hT : True := hc; clear hT hc)) <;> (try (exfalso; omega))) | apply kT | apply kU | apply kV | apply kW | refine kX rfl ?_ | apply kY | apply kZ)
      (refine ao_ap (id := 13) (ys := [(⟨t, (p : Int)⟩ : Due)]) (by_ := 16) rfl rfl rfl rfl rfl rfl rfl rfl rfl rfl (fun _ _ => rfl) ?_ ?_ rfl rfl rfl rfl rfl ?_; (· (first | omega | ((try simp only [List.length_cons, List.length_nil, List.length_append, List.length_map]) <;> omega))); (· (first | omega | ((try simp only [List.length_cons, List.length_nil, List.length_append, List.length_map]) <;> omega))))
      repeat' (first | (show W _ _ _ _ _ _; first | apply kA | refine kB rfl ?_ | refine kC rfl rfl ?_ | refine kD rfl rfl ?_ | apply kE | apply kF | apply kG | apply kH | refine kI (by kernel_rfl) (by kernel_rfl) ?_) | (show O _ _ _ _ _ _ _; first | (show O _ _ _ _ (⟨_, .store _ _ _, _, _, _, _⟩ :: _) _ _; refine kJ rfl rfl rfl rfl rfl rfl rfl rfl rfl rfl rfl ?_) | apply kK) | apply kL | ((first | apply kM | apply kN); (iterate 3 (· exact rfl)); (· first | exact ya)) | refine kO rfl rfl rfl rfl rfl ?_ | refine kP rfl rfl rfl ?_ | ((first | refine kQ rfl rfl ?_ ?_ | refine kR rfl rfl rfl rfl rfl ?_ ?_ | refine kS rfl rfl rfl ?_ ?_) <;> intro hc <;> (try simp only [KL, cond_true, cond_false, beq_iff_eq, bne_iff_ne, ne_eq, reduceCtorEq] at hc) <;> (try (have hT : True := hc; clear hT hc)) <;> (try (exfalso; omega))) | apply kT | apply kU | apply kV | apply kW | refine kX rfl ?_ | apply kY | apply kZ)
      exact ⟨_, hi, by simp only; omega, les, leh⟩
    · have hi := hnxt _ e hA (by simp only [List.length_append, List.length_cons, List.length_nil]; omega) ⟨hn.1, by simp only; omega⟩
      repeat' (first | (show W _ _ _ _ _ _; first | apply kA | refine kB rfl ?_ | refine kC rfl rfl ?_ | refine kD rfl rfl ?_ | apply kE | apply kF | apply kG | apply kH | refine kI (by kernel_rfl) (by kernel_rfl) ?_) | (show O _ _ _ _ _ _ _; first | (show O _ _ _ _ (⟨_, .alloc _, _, _, _, _⟩ :: _) _ _; first | refine ao_alloc (id := 14) rfl rfl rfl rfl rfl rfl rfl ?_) | (show O _ _ _ _ (⟨_, .store _ _ _, _, _, _, _⟩ :: _) _ _; refine kJ rfl rfl rfl rfl rfl rfl rfl rfl rfl rfl rfl ?_) | apply kK) | apply kL | ((first | apply kM | apply kN); (iterate 3 (· exact rfl)); (· first | (show Y _ ⟨_, .indexAddr _ _ _, _, _, _, _⟩ _ _ _; first | exact Y.mk (ok_indexE (hd) rfl rfl rfl rfl rfl (by omega))) | exact ya)) | refine kO rfl rfl rfl rfl rfl ?_ | refine kP rfl rfl rfl ?_ | ((first | refine kQ rfl rfl ?_ ?_ | refine kR rfl rfl rfl rfl rfl ?_ ?_ | refine kS rfl rfl rfl ?_ ?_) <;> intro hc <;> (try simp only [KL, cond_true, cond_false, beq_iff_eq, bne_iff_ne, ne_eq, reduceCtorEq] at hc) <;> (try (have hT : True := hc; clear hT hc)) <;> (try (exfalso; omega))) | apply kT | apply kU | apply kV | apply kW | refine kX rfl ?_ | apply kY | apply kZ)
      all_goals first | (exfalso; omega) | skip
      (refine ao_ap (id := 13) (ys := [(⟨t, tk⟩ : Due)]) (by_ := 16) rfl rfl rfl rfl rfl rfl rfl rfl rfl rfl (fun _ _ => rfl) ?_ ?_ rfl rfl rfl rfl rfl ?_; (· (first | omega | ((try simp only [List.length_cons, List.length_nil, List.length_append, List.length_map]) <;> omega))); (· (first | omega | ((try simp only [List.length_cons, List.length_nil, List.length_append, List.length_map]) <;> omega))))
      repeat' (first | (show W _ _ _ _ _ _; first | apply kA | refine kB rfl ?_ | refine kC rfl rfl ?_ | refine kD rfl rfl ?_ | apply kE | apply kF | apply kG | apply kH | refine kI (by kernel_rfl) (by kernel_rfl) ?_) | (show O _ _ _ _ _ _ _; first | (show O _ _ _ _ (⟨_, .store _ _ _, _, _, _, _⟩ :: _) _ _; refine kJ rfl rfl rfl rfl rfl rfl rfl rfl rfl rfl rfl ?_) | apply kK) | apply kL | ((first | apply kM | apply kN); (iterate 3 (· exact rfl)); (· first | exact ya)) | refine kO rfl rfl rfl rfl rfl ?_ | refine kP rfl rfl rfl ?_ | ((first | refine kQ rfl rfl ?_ ?_ | refine kR rfl rfl rfl rfl rfl ?_ ?_ | refine kS rfl rfl rfl ?_ ?_) <;> intro hc <;> (try simp only [KL, cond_true, cond_false, beq_iff_eq, bne_iff_ne, ne_eq, reduceCtorEq] at hc) <;> (try (have hT : True := hc; clear hT hc)) <;> (try (exfalso; omega))) | apply kT | apply kU | apply kV | apply kW | refine kX rfl ?_ | apply kY | apply kZ)
      exact ⟨_, hi, by simp only; omega, les, leh⟩
    · subst h2
      have hi := hnxt _ e hA (by simp only; omega) ⟨by simp only; omega, by simp only; omega⟩
      repeat' (first | (show W _ _ _ _ _ _; first | apply kA | refine kB rfl ?_ | refine kC rfl rfl ?_ | refine kD rfl rfl ?_ | apply kE | apply kF | apply kG | apply kH | refine kI (by kernel_rfl) (by kernel_rfl) ?_) | (show O _ _ _ _ _ _ _; first | (show O _ _ _ _ (⟨_, .alloc _, _, _, _, _⟩ :: _) _ _; first | refine ao_alloc (id := 14) rfl rfl rfl rfl rfl rfl rfl ?_) | (show O _ _ _ _ (⟨_, .store _ _ _, _, _, _, _⟩ :: _) _ _; refine kJ rfl rfl rfl rfl rfl rfl rfl rfl rfl rfl rfl ?_) | apply kK) | apply kL | ((first | apply kM | apply kN); (iterate 3 (· exact rfl)); (· first | (show Y _ ⟨_, .indexAddr _ _ _, _, _, _, _⟩ _ _ _; first | exact Y.mk (ok_indexE (hd) rfl rfl rfl rfl rfl (by omega))) | exact ya)) | refine kO rfl rfl rfl rfl rfl ?_ | refine kP rfl rfl rfl ?_ | ((first | refine kQ rfl rfl ?_ ?_ | refine kR rfl rfl rfl rfl rfl ?_ ?_ | refine kS rfl rfl rfl ?_ ?_) <;> intro hc <;> (try simp only [KL, cond_true, cond_false, beq_iff_eq, bne_iff_ne, ne_eq, reduceCtorEq] at hc) <;> (try (have hT : True := hc; clear hT hc)) <;> (try (exfalso; omega))) | apply kT | apply kU | apply kV | apply kW | refine kX rfl ?_ | apply kY | apply kZ)
      all_goals first | (exfalso; omega) | skip
      refine wloop (fun j : Nat => ([(1, .ref [.lst 7 (l.map eTask), .lst 2 (asks.map eDue), .lst 1 (dm.map eLI), .int .i64 T]), (4, .int .i64 0), (5, .lst 2 ((allA l asks T).1.map eDue)), (7, .own 12), (8, .own 13), (9, .int .i64 (t + 1)), (59, .lst 5 (es.map eEvent)), (60, .int .i64 es.length), (61, .int .i64 k), (11, .ptr 14 0), (95, .int .i64 5), (129, .own 12), (130, .int .i64 A.length), (131, .int .i64 j)],
          [(14, .blk 41 (eEvent ⟨t, 5, tk, a, b⟩)), (13, .row 43 2 (G.map eDue)), (12, .row 4 1 (A.map eB)), tab9]))
        (fun j => j ≤ A.length) (fun j => A.length - j) 0 (Nat.zero_le _) les leh (fun j hj => ?_)
      rcases Nat.lt_or_eq_of_le hj with hjl | hjl
      · have c8 := ahK_fn l j tk (by omega)
        have h4 := h3 j hjl
        cases hact : A.getD j default
        · repeat' (first | (show W _ _ _ _ _ _; first | apply kA | refine kB rfl ?_ | refine kC rfl rfl ?_ | refine kD rfl rfl ?_ | apply kE | apply kF | apply kG | apply kH | refine kI (by kernel_rfl) (by kernel_rfl) ?_) | (show O _ _ _ _ _ _ _; first | (show O _ _ _ _ (⟨_, .store _ _ _, _, _, _, _⟩ :: _) _ _; refine kJ rfl rfl rfl rfl rfl rfl rfl rfl rfl rfl rfl ?_) | apply kK) | apply kL | ((first | apply kM | apply kN); (iterate 3 (· exact rfl)); (· first | (show Y _ ⟨_, .load _ _, _, _, _, _⟩ _ _ _; first | exact q_pE' hact) | (show Y _ ⟨_, .call ⟨.value _, _, _⟩, _, _, _, _⟩ _ _ _; first | exact q_c (c8) rfl) | exact ya)) | refine kO rfl rfl rfl rfl rfl ?_ | refine kP rfl rfl rfl ?_ | ((first | refine kQ rfl rfl ?_ ?_ | refine kR rfl rfl rfl rfl rfl ?_ ?_ | refine kS rfl rfl rfl ?_ ?_) <;> intro hc <;> (try simp only [KL, cond_true, cond_false, beq_iff_eq, bne_iff_ne, ne_eq, reduceCtorEq] at hc) <;> (try (have hT : True := hc; clear hT hc)) <;> (try (exfalso; omega))) | apply kT | apply kU | apply kV | apply kW | refine kX rfl ?_ | apply kY | apply kZ)
          all_goals first | (exfalso; omega) | exact ⟨j + 1, by omega, by omega, les, leh⟩
        · by_cases hjt : (j : Int) = tk
          · repeat' (first | (show W _ _ _ _ _ _; first | apply kA | refine kB rfl ?_ | refine kC rfl rfl ?_ | refine kD rfl rfl ?_ | apply kE | apply kF | apply kG | apply kH | refine kI (by kernel_rfl) (by kernel_rfl) ?_) | (show O _ _ _ _ _ _ _; first | (show O _ _ _ _ (⟨_, .store _ _ _, _, _, _, _⟩ :: _) _ _; refine kJ rfl rfl rfl rfl rfl rfl rfl rfl rfl rfl rfl ?_) | apply kK) | apply kL | ((first | apply kM | apply kN); (iterate 3 (· exact rfl)); (· first | (show Y _ ⟨_, .load _ _, _, _, _, _⟩ _ _ _; first | exact q_pE' hact) | (show Y _ ⟨_, .call ⟨.value _, _, _⟩, _, _, _, _⟩ _ _ _; first | exact q_c (c8) rfl) | exact ya)) | refine kO rfl rfl rfl rfl rfl ?_ | refine kP rfl rfl rfl ?_ | ((first | refine kQ rfl rfl ?_ ?_ | refine kR rfl rfl rfl rfl rfl ?_ ?_ | refine kS rfl rfl rfl ?_ ?_) <;> intro hc <;> (try simp only [KL, cond_true, cond_false, beq_iff_eq, bne_iff_ne, ne_eq, reduceCtorEq] at hc) <;> (try (have hT : True := hc; clear hT hc)) <;> (try (exfalso; omega))) | apply kT | apply kU | apply kV | apply kW | refine kX rfl ?_ | apply kY | apply kZ)
            all_goals first | (exfalso; omega) | exact ⟨j + 1, by omega, by omega, les, leh⟩
          · rw [(h4 hact).resolve_left hjt] at c8
            repeat' (first | (show W _ _ _ _ _ _; first | apply kA | refine kB rfl ?_ | refine kC rfl rfl ?_ | refine kD rfl rfl ?_ | apply kE | apply kF | apply kG | apply kH | refine kI (by kernel_rfl) (by kernel_rfl) ?_) | (show O _ _ _ _ _ _ _; first | (show O _ _ _ _ (⟨_, .store _ _ _, _, _, _, _⟩ :: _) _ _; refine kJ rfl rfl rfl rfl rfl rfl rfl rfl rfl rfl rfl ?_) | apply kK) | apply kL | ((first | apply kM | apply kN); (iterate 3 (· exact rfl)); (· first | (show Y _ ⟨_, .load _ _, _, _, _, _⟩ _ _ _; first | exact q_pE' hact) | (show Y _ ⟨_, .call ⟨.value _, _, _⟩, _, _, _, _⟩ _ _ _; first | exact q_c (c8) rfl) | exact ya)) | refine kO rfl rfl rfl rfl rfl ?_ | refine kP rfl rfl rfl ?_ | ((first | refine kQ rfl rfl ?_ ?_ | refine kR rfl rfl rfl rfl rfl ?_ ?_ | refine kS rfl rfl rfl ?_ ?_) <;> intro hc <;> (try simp only [KL, cond_true, cond_false, beq_iff_eq, bne_iff_ne, ne_eq, reduceCtorEq] at hc) <;> (try (have hT : True := hc; clear hT hc)) <;> (try (exfalso; omega))) | apply kT | apply kU | apply kV | apply kW | refine kX rfl ?_ | apply kY | apply kZ)
            all_goals first | (exfalso; omega) | exact ⟨j + 1, by omega, by omega, les, leh⟩
      · subst hjl
        repeat' (first | (show W _ _ _ _ _ _; first | apply kA | refine kB rfl ?_ | refine kC rfl rfl ?_ | refine kD rfl rfl ?_ | apply kE | apply kF | apply kG | apply kH | refine kI (by kernel_rfl) (by kernel_rfl) ?_) | (show O _ _ _ _ _ _ _; first | (show O _ _ _ _ (⟨_, .store _ _ _, _, _, _, _⟩ :: _) _ _; refine kJ rfl rfl rfl rfl rfl rfl rfl rfl rfl rfl rfl ?_) | apply kK) | apply kL | ((first | apply kM | apply kN); (iterate 3 (· exact rfl)); (· first | exact ya)) | refine kO rfl rfl rfl rfl rfl ?_ | refine kP rfl rfl rfl ?_ | ((first | refine kQ rfl rfl ?_ ?_ | refine kR rfl rfl rfl rfl rfl ?_ ?_ | refine kS rfl rfl rfl ?_ ?_) <;> intro hc <;> (try simp only [KL, cond_true, cond_false, beq_iff_eq, bne_iff_ne, ne_eq, reduceCtorEq] at hc) <;> (try (have hT : True := hc; clear hT hc)) <;> (try (exfalso; omega))) | apply kT | apply kU | apply kV | apply kW | refine kX rfl ?_ | apply kY | apply kZ)
        all_goals first | (exfalso; omega) | skip
        exact ⟨_, hi, by simp only; omega, les, leh⟩
    · subst h2
      have hi := hnxt _ e hA (by simp only; omega) ⟨by simp only; omega, by simp only; omega⟩
      repeat' (first | (show W _ _ _ _ _ _; first | apply kA | refine kB rfl ?_ | refine kC rfl rfl ?_ | refine kD rfl rfl ?_ | apply kE | apply kF | apply kG | apply kH | refine kI (by kernel_rfl) (by kernel_rfl) ?_) | (show O _ _ _ _ _ _ _; first | (show O _ _ _ _ (⟨_, .alloc _, _, _, _, _⟩ :: _) _ _; first | refine ao_alloc (id := 14) rfl rfl rfl rfl rfl rfl rfl ?_) | (show O _ _ _ _ (⟨_, .store _ _ _, _, _, _, _⟩ :: _) _ _; refine kJ rfl rfl rfl rfl rfl rfl rfl rfl rfl rfl rfl ?_) | apply kK) | apply kL | ((first | apply kM | apply kN); (iterate 3 (· exact rfl)); (· first | (show Y _ ⟨_, .indexAddr _ _ _, _, _, _, _⟩ _ _ _; first | exact Y.mk (ok_indexE (hd) rfl rfl rfl rfl rfl (by omega))) | exact ya)) | refine kO rfl rfl rfl rfl rfl ?_ | refine kP rfl rfl rfl ?_ | ((first | refine kQ rfl rfl ?_ ?_ | refine kR rfl rfl rfl rfl rfl ?_ ?_ | refine kS rfl rfl rfl ?_ ?_) <;> intro hc <;> (try simp only [KL, cond_true, cond_false, beq_iff_eq, bne_iff_ne, ne_eq, reduceCtorEq] at hc) <;> (try (have hT : True := hc; clear hT hc)) <;> (try (exfalso; omega))) | apply kT | apply kU | apply kV | apply kW | refine kX rfl ?_ | apply kY | apply kZ)
      all_goals first | (exfalso; omega) | skip
      refine wloop (fun j : Nat => ([(1, .ref [.lst 7 (l.map eTask), .lst 2 (asks.map eDue), .lst 1 (dm.map eLI), .int .i64 T]), (4, .int .i64 0), (5, .lst 2 ((allA l asks T).1.map eDue)), (7, .own 12), (8, .own 13), (9, .int .i64 (t + 1)), (59, .lst 5 (es.map eEvent)), (60, .int .i64 es.length), (61, .int .i64 k), (11, .ptr 14 0), (95, .int .i64 6), (129, .own 12), (130, .int .i64 A.length), (131, .int .i64 j)],
          [(14, .blk 41 (eEvent ⟨t, 6, tk, a, b⟩)), (13, .row 43 2 (G.map eDue)), (12, .row 4 1 (A.map eB)), tab9]))
        (fun j => j ≤ A.length) (fun j => A.length - j) 0 (Nat.zero_le _) les leh (fun j hj => ?_)
      rcases Nat.lt_or_eq_of_le hj with hjl | hjl
      · have c8 := ahK_fn l j tk (by omega)
        have hact : A.getD j default = false := h3 j hjl
        repeat' (first | (show W _ _ _ _ _ _; first | apply kA | refine kB rfl ?_ | refine kC rfl rfl ?_ | refine kD rfl rfl ?_ | apply kE | apply kF | apply kG | apply kH | refine kI (by kernel_rfl) (by kernel_rfl) ?_) | (show O _ _ _ _ _ _ _; first | (show O _ _ _ _ (⟨_, .store _ _ _, _, _, _, _⟩ :: _) _ _; refine kJ rfl rfl rfl rfl rfl rfl rfl rfl rfl rfl rfl ?_) | apply kK) | apply kL | ((first | apply kM | apply kN); (iterate 3 (· exact rfl)); (· first | (show Y _ ⟨_, .load _ _, _, _, _, _⟩ _ _ _; first | exact q_pE' hact) | (show Y _ ⟨_, .call ⟨.value _, _, _⟩, _, _, _, _⟩ _ _ _; first | exact q_c (c8) rfl) | exact ya)) | refine kO rfl rfl rfl rfl rfl ?_ | refine kP rfl rfl rfl ?_ | ((first | refine kQ rfl rfl ?_ ?_ | refine kR rfl rfl rfl rfl rfl ?_ ?_ | refine kS rfl rfl rfl ?_ ?_) <;> intro hc <;> (try simp only [KL, cond_true, cond_false, beq_iff_eq, bne_iff_ne, ne_eq, reduceCtorEq] at hc) <;> (try (have hT : True := hc; clear hT hc)) <;> (try (exfalso; omega))) | apply kT | apply kU | apply kV | apply kW | refine kX rfl ?_ | apply kY | apply kZ)
        all_goals first | (exfalso; omega) | exact ⟨j + 1, by omega, by omega, les, leh⟩
      · subst hjl
        repeat' (first | (show W _ _ _ _ _ _; first | apply kA | refine kB rfl ?_ | refine kC rfl rfl ?_ | refine kD rfl rfl ?_ | apply kE | apply kF | apply kG | apply kH | refine kI (by kernel_rfl) (by kernel_rfl) ?_) | (show O _ _ _ _ _ _ _; first | (show O _ _ _ _ (⟨_, .store _ _ _, _, _, _, _⟩ :: _) _ _; refine kJ rfl rfl rfl rfl rfl rfl rfl rfl rfl rfl rfl ?_) | apply kK) | apply kL | ((first | apply kM | apply kN); (iterate 3 (· exact rfl)); (· first | exact ya)) | refine kO rfl rfl rfl rfl rfl ?_ | refine kP rfl rfl rfl ?_ | ((first | refine kQ rfl rfl ?_ ?_ | refine kR rfl rfl rfl rfl rfl ?_ ?_ | refine kS rfl rfl rfl ?_ ?_) <;> intro hc <;> (try simp only [KL, cond_true, cond_false, beq_iff_eq, bne_iff_ne, ne_eq, reduceCtorEq] at hc) <;> (try (have hT : True := hc; clear hT hc)) <;> (try (exfalso; omega))) | apply kT | apply kU | apply kV | apply kW | refine kX rfl ?_ | apply kY | apply kZ)
        all_goals first | (exfalso; omega) | skip
        exact ⟨_, hi, by simp only; omega, les, leh⟩
    · obtain ⟨p, rfl⟩ : ∃ p : Nat, tk = p := ⟨tk.toNat, by omega⟩
      rw [Int.toNat_natCast] at e
      have hi := hnxt _ e (by simp only [List.length_set]; exact hA) (by simp only; omega) ⟨hn.1, by simp only; omega⟩
      repeat' (first | (show W _ _ _ _ _ _; first | apply kA | refine kB rfl ?_ | refine kC rfl rfl ?_ | refine kD rfl rfl ?_ | apply kE | apply kF | apply kG | apply kH | refine kI (by kernel_rfl) (by kernel_rfl) ?_) | (show O _ _ _ _ _ _ _; first | (show O _ _ _ _ (⟨_, .alloc _, _, _, _, _⟩ :: _) _ _; first | refine ao_alloc (id := 14) rfl rfl rfl rfl rfl rfl rfl ?_) | (show O _ _ _ _ (⟨_, .store _ _ _, _, _, _, _⟩ :: _) _ _; refine kJ rfl rfl rfl rfl rfl rfl rfl rfl rfl rfl rfl ?_) | apply kK) | apply kL | ((first | apply kM | apply kN); (iterate 3 (· exact rfl)); (· first | (show Y _ ⟨_, .indexAddr _ _ _, _, _, _, _⟩ _ _ _; first | exact Y.mk (ok_indexE (hd) rfl rfl rfl rfl rfl (by omega))) | exact ya)) | refine kO rfl rfl rfl rfl rfl ?_ | refine kP rfl rfl rfl ?_ | ((first | refine kQ rfl rfl ?_ ?_ | refine kR rfl rfl rfl rfl rfl ?_ ?_ | refine kS rfl rfl rfl ?_ ?_) <;> intro hc <;> (try simp only [KL, cond_true, cond_false, beq_iff_eq, bne_iff_ne, ne_eq, reduceCtorEq] at hc) <;> (try (have hT : True := hc; clear hT hc)) <;> (try (exfalso; omega))) | apply kT | apply kU | apply kV | apply kW | refine kX rfl ?_ | apply kY | apply kZ)
      all_goals first | (exfalso; omega) | skip
      (refine ao_se (x' := false) rfl rfl rfl rfl rfl rfl rfl rfl rfl ?_ rfl rfl rfl ?_; (· (first | omega | ((try simp only [List.length_set, List.length_cons, List.length_nil, List.length_append, List.length_map]) <;> omega))))
      repeat' (first | (show W _ _ _ _ _ _; first | apply kA | refine kB rfl ?_ | refine kC rfl rfl ?_ | refine kD rfl rfl ?_ | apply kE | apply kF | apply kG | apply kH | refine kI (by kernel_rfl) (by kernel_rfl) ?_) | (show O _ _ _ _ _ _ _; first | (show O _ _ _ _ (⟨_, .store _ _ _, _, _, _, _⟩ :: _) _ _; refine kJ rfl rfl rfl rfl rfl rfl rfl rfl rfl rfl rfl ?_) | apply kK) | apply kL | ((first | apply kM | apply kN); (iterate 3 (· exact rfl)); (· first | exact ya)) | refine kO rfl rfl rfl rfl rfl ?_ | refine kP rfl rfl rfl ?_ | ((first | refine kQ rfl rfl ?_ ?_ | refine kR rfl rfl rfl rfl rfl ?_ ?_ | refine kS rfl rfl rfl ?_ ?_) <;> intro hc <;> (try simp only [KL, cond_true, cond_false, beq_iff_eq, bne_iff_ne, ne_eq, reduceCtorEq] at hc) <;> (try (have hT : True := hc; clear hT hc)) <;> (try (exfalso; omega))) | apply kT | apply kU | apply kV | apply kW | refine kX rfl ?_ | apply kY | apply kZ)
      exact ⟨_, hi, by simp only; omega, les, leh⟩
    · have hi := hnxt _ e hA (by simp only; omega) ⟨hn.1, by simp only; omega⟩
      repeat' (first | (show W _ _ _ _ _ _; first | apply kA | refine kB rfl ?_ | refine kC rfl rfl ?_ | refine kD rfl rfl ?_ | apply kE | apply kF | apply kG | apply kH | refine kI (by kernel_rfl) (by kernel_rfl) ?_) | (show O _ _ _ _ _ _ _; first | (show O _ _ _ _ (⟨_, .alloc _, _, _, _, _⟩ :: _) _ _; first | refine ao_alloc (id := 14) rfl rfl rfl rfl rfl rfl rfl ?_) | (show O _ _ _ _ (⟨_, .store _ _ _, _, _, _, _⟩ :: _) _ _; refine kJ rfl rfl rfl rfl rfl rfl rfl rfl rfl rfl rfl ?_) | apply kK) | apply kL | ((first | apply kM | apply kN); (iterate 3 (· exact rfl)); (· first | (show Y _ ⟨_, .indexAddr _ _ _, _, _, _, _⟩ _ _ _; first | exact Y.mk (ok_indexE (hd) rfl rfl rfl rfl rfl (by omega))) | exact ya)) | refine kO rfl rfl rfl rfl rfl ?_ | refine kP rfl rfl rfl ?_ | ((first | refine kQ rfl rfl ?_ ?_ | refine kR rfl rfl rfl rfl rfl ?_ ?_ | refine kS rfl rfl rfl ?_ ?_) <;> intro hc <;> (try simp only [KL, cond_true, cond_false, beq_iff_eq, bne_iff_ne, ne_eq, reduceCtorEq] at hc) <;> (try (have hT : True := hc; clear hT hc)) <;> (try (exfalso; omega))) | apply kT | apply kU | apply kV | apply kW | refine kX rfl ?_ | apply kY | apply kZ)
      all_goals first | (exfalso; omega) | skip
      all_goals exact ⟨_, hi, by simp only; omega, les, leh⟩
  · subst hkl
    rw [List.drop_length] at hr
    cases hr
    repeat' (first | (show W _ _ _ _ _ _; first | apply kA | refine kB rfl ?_ | refine kC rfl rfl ?_ | refine kD rfl rfl ?_ | apply kE | apply kF | apply kG | apply kH | refine kI (by kernel_rfl) (by kernel_rfl) ?_) | (show O _ _ _ _ _ _ _; first | (show O _ _ _ _ (⟨_, .store _ _ _, _, _, _, _⟩ :: _) _ _; refine kJ rfl rfl rfl rfl rfl rfl rfl rfl rfl rfl rfl ?_) | apply kK) | apply kL | ((first | apply kM | apply kN); (iterate 3 (· exact rfl)); (· first | exact ya)) | refine kO rfl rfl rfl rfl rfl ?_ | refine kP rfl rfl rfl ?_ | ((first | refine kQ rfl rfl ?_ ?_ | refine kR rfl rfl rfl rfl rfl ?_ ?_ | refine kS rfl rfl rfl ?_ ?_) <;> intro hc <;> (try simp only [KL, cond_true, cond_false, beq_iff_eq, bne_iff_ne, ne_eq, reduceCtorEq] at hc) <;> (try (have hT : True := hc; clear hT hc)) <;> (try (exfalso; omega))) | apply kT | apply kU | apply kV | apply kW | refine kX rfl ?_ | apply kY | apply kZ)
    all_goals first | (exfalso; omega) | skip
    refine oturn (turn_freeze (t := 174) (id := 13) rfl rfl rfl) ?_
    repeat' (first | (show W _ _ _ _ _ _; first | apply kA | refine kB rfl ?_ | refine kC rfl rfl ?_ | refine kD rfl rfl ?_ | apply kE | apply kF | apply kG | apply kH | refine kI (by kernel_rfl) (by kernel_rfl) ?_) | (show O _ _ _ _ _ _ _; first | (show O _ _ _ _ (⟨_, .store _ _ _, _, _, _, _⟩ :: _) _ _; refine kJ rfl rfl rfl rfl rfl rfl rfl rfl rfl rfl rfl ?_) | apply kK) | apply kL | ((first | apply kM | apply kN); (iterate 3 (· exact rfl)); (· first | (show Y _ ⟨_, .call ⟨.value _, _, _⟩, _, _, _, _⟩ _ _ _; first | exact q_c (c6) rfl | exact q_c (c7) rfl) | exact ya | exact Y.mk (ok_callT (id := 9) c2 rfl rfl))) | refine kO rfl rfl rfl rfl rfl ?_ | refine kP rfl rfl rfl ?_ | ((first | refine kQ rfl rfl ?_ ?_ | refine kR rfl rfl rfl rfl rfl ?_ ?_ | refine kS rfl rfl rfl ?_ ?_) <;> intro hc <;> (try simp only [KL, cond_true, cond_false, beq_iff_eq, bne_iff_ne, ne_eq, reduceCtorEq] at hc) <;> (try (have hT : True := hc; clear hT hc)) <;> (try (exfalso; omega))) | apply kT | apply kU | apply kV | apply kW | refine kX rfl ?_ | apply kY | apply kZ)
    all_goals first | (exfalso; omega) | exact retq rfl rfl
end Go.Proofs.YtfjoaeghnfkdlaaDoor
namespace Go.Proofs.YtfjoaeghnfkdlaaDoor
set_option maxRecDepth 100000
open Go.RowKit Go.ChangeShapes Go.WideShapes

structure Case29 where
  l : List Task
  lt : List Due
  dm : List (List Int)
  ticks : Int
instance : Inhabited Case29 := ⟨⟨[], [], [], 0⟩⟩
theorem Case29.ext_ {x y : Case29} (h : x.l = y.l ∧ x.lt = y.lt ∧ x.dm = y.dm ∧ x.ticks = y.ticks) : x = y := by cases x; cases y; simp_all
instance : DecidableEq Case29 := fun x y => decidable_of_iff (x.l = y.l ∧ x.lt = y.lt ∧ x.dm = y.dm ∧ x.ticks = y.ticks) ⟨Case29.ext_, fun h => by subst h; simp⟩
def Case29.ok (x : Case29) : Prop := (Lit.int .i64 x.ticks).wf = true
def Case29.cod : Cod Case29 := fun w cs x => ∃ (A_l : Option Addr) (c_l : Nat) (A_lt : Option Addr) (c_lt : Nat) (A_dm : Option Addr) (c_dm : Nat), cs = [.slice A_l x.l.length c_l, .slice A_lt x.lt.length c_lt, .slice A_dm x.dm.length c_dm, .int .i64 x.ticks] ∧ x.ok ∧ x.l.length ≤ c_l ∧ c_l ≤ maxLen ∧ Row Task.cod 7 w A_l x.l ∧ x.lt.length ≤ c_lt ∧ c_lt ≤ maxLen ∧ Row Due.cod 2 w A_lt x.lt ∧ x.dm.length ≤ c_dm ∧ c_dm ≤ maxLen ∧ Row (cSlice (cInt .i64) 1) 1 w A_dm x.dm
theorem Case29.mono : Mono Case29.cod := fun _ _ _ _ he ⟨A_l, c_l, A_lt, c_lt, A_dm, c_dm, h, hk, l_l, m_l, r_l, l_lt, m_lt, r_lt, l_dm, m_dm, r_dm⟩ => ⟨A_l, c_l, A_lt, c_lt, A_dm, c_dm, h, hk, l_l, m_l, r_l.ext Task.mono he, l_lt, m_lt, r_lt.ext Due.mono he, l_dm, m_dm, r_dm.ext (Mono.slice (Mono.int _) 1) he⟩
theorem Case29.size {w : World} {cs : List Value} {x : Case29} (h : Case29.cod w cs x) : cs.length = 4 := by obtain ⟨A_l, c_l, A_lt, c_lt, A_dm, c_dm, h, _⟩ := h; rw [h]; rfl
theorem Case29.at {w : World} {b off : Nat} {xs : List Case29} (h : Row' Case29.cod 4 w b off xs) (i : Nat) (hi : i < xs.length) :
    ∃ (A_l : Option Addr) (c_l : Nat) (A_lt : Option Addr) (c_lt : Nat) (A_dm : Option Addr) (c_dm : Nat), w.cell? ⟨b, off + i * 4, none⟩ = some (.slice A_l xs[i].l.length c_l) ∧ w.cell? ⟨b, off + i * 4 + 1, none⟩ = some (.slice A_lt xs[i].lt.length c_lt) ∧ w.cell? ⟨b, off + i * 4 + 2, none⟩ = some (.slice A_dm xs[i].dm.length c_dm) ∧ w.cell? ⟨b, off + i * 4 + 3, none⟩ = some (.int .i64 xs[i].ticks) ∧ xs[i].ok ∧ xs[i].l.length ≤ c_l ∧ c_l ≤ maxLen ∧ Row Task.cod 7 w A_l xs[i].l ∧ xs[i].lt.length ≤ c_lt ∧ c_lt ≤ maxLen ∧ Row Due.cod 2 w A_lt xs[i].lt ∧ xs[i].dm.length ≤ c_dm ∧ c_dm ≤ maxLen ∧ Row (cSlice (cInt .i64) 1) 1 w A_dm xs[i].dm := by
  obtain ⟨cs, hx, _, hc⟩ := h i xs[i] (List.getElem?_eq_getElem hi)
  obtain ⟨A_l, c_l, A_lt, c_lt, A_dm, c_dm, rfl, hk, l_l, m_l, r_l, l_lt, m_lt, r_lt, l_dm, m_dm, r_dm⟩ := hx
  exact ⟨A_l, c_l, A_lt, c_lt, A_dm, c_dm, hc 0 _ rfl, hc 1 _ rfl, hc 2 _ rfl, hc 3 _ rfl, hk, l_l, m_l, r_l, l_lt, m_lt, r_lt, l_dm, m_dm, r_dm⟩
end Go.Proofs.YtfjoaeghnfkdlaaDoor
namespace Go.Proofs.YtfjoaeghnfkdlaaDoor
set_option maxRecDepth 100000
open Go.RowKit
theorem br_LI : Br (cSlice (cInt .i64) 1) eLI := fun w cs x ⟨A, c, h1, h2, h3, h4⟩ => by
  subst h1
  exact (L2.nil _).cons (br_row br_int (fun _ => rfl) h4 h2 h3)
end Go.Proofs.YtfjoaeghnfkdlaaDoor
namespace Go.Proofs.YtfjoaeghnfkdlaaDoor
set_option maxRecDepth 100000
open Go.RowKit
def eCase29 (x : Case29) : List AV := [.lst 7 (x.l.map eTask), .lst 2 (x.lt.map eDue), .lst 1 (x.dm.map eLI), .int .i64 x.ticks]
theorem br_Case29 : Br Case29.cod eCase29 := fun w cs x ⟨A_l, c_l, A_lt, c_lt, A_dm, c_dm, h1, hk, l_l, m_l, r_l, l_lt, m_lt, r_lt, l_dm, m_dm, r_dm⟩ => by
  subst h1
  have h_ticks := hk
  exact ((((L2.nil _).cons (.int _ _ (rangeP_wf.2 h_ticks))).cons (br_row br_LI (fun _ => rfl) r_dm l_dm m_dm)).cons (br_row br_Due (fun _ => rfl) r_lt l_lt m_lt)).cons (br_row br_Task (fun _ => rfl) r_l l_l m_l)
end Go.Proofs.YtfjoaeghnfkdlaaDoor
