/- The statement SystemCalls. No condition. -/
import Derived.Test.YtkkmageogkkchaaSc
namespace Go.Proofs.Ytkkmageogkkchaa
set_option linter.unusedSimpArgs false
set_option linter.unusedVariables false
set_option maxRecDepth 100000
set_option linter.unusedSimpArgs false
set_option linter.unusedVariables false
set_option maxRecDepth 100000
open Go.RowKit
theorem codeF_atC (S : System) : ∀ (i : Nat) (l : List Task), (codeF S i l).2.2.2 = 0 → ∀ j, j < l.length → (codeR S (i + j) 0 (l.getD j default).code).2.2.2 = 0
  | _, [], _ => fun j hj => by simp at hj
  | i, t :: l, h => by
    rw [codeF] at h
    by_cases h1 : (codeR S i 0 t.code).2.2.2 = 0
    · rw [if_pos h1] at h
      intro j hj
      cases j with
      | zero => exact h1
      | succ j =>
        have := codeF_atC S (i + 1) l h j (by simpa using hj)
        rw [show i + (j + 1) = i + 1 + j from by omega]
        simpa using this
    · rw [if_neg h1] at h; exact absurd h h1
theorem codeR_at (S : System) (i : Nat) : ∀ (m : Nat) (l : List Instr), (codeR S i m l).2.2.2 = 0 → ∀ c ∈ l, callE S i c = 0
  | _, [], _ => fun c hc => by cases hc
  | m, c :: l, h => by
    rw [codeR] at h
    by_cases h1 : callE S i c = 0
    · rw [if_pos h1] at h
      intro x hx
      rcases List.mem_cons.1 hx with rfl | hx
      · exact h1
      · exact codeR_at S i _ l h x hx
    · rw [if_neg h1] at h; exact absurd h h1
theorem apart_allC {l : List Int} : ∀ n, apartTo l n = true → ∀ j, j < n → inB l j = true
  | 0, _, j, hj => by omega
  | n + 1, h, j, hj => by
    rw [apartTo, Bool.and_eq_true] at h
    by_cases e : j = n
    · subst e; exact h.2
    · exact apart_allC n h.1 j (by omega)
theorem sys_okC {S : System} (h : (sysF S).2.2.2 = 0) : (tasksF 0 S.tasks).2.2 = 0 ∧ (objF S).2.2 = 0 ∧ (codeF S 0 S.tasks).2.2.2 = 0 := by
  by_cases h0 : S.tasks.length = 0 ∨ 8 < S.tasks.length ∨ 8 < S.objects.length
  · rw [sysF, if_pos h0] at h; simp at h
  by_cases h1 : (tasksF 0 S.tasks).2.2 = 0
  case neg => rw [sys_task h0 h1] at h; exact absurd h h1
  by_cases h2 : (objF S).2.2 = 0
  case neg => rw [sys_obj h0 h1 h2] at h; exact absurd h h2
  by_cases h3 : (codeF S 0 S.tasks).2.2.2 = 0
  case neg => rw [sys_code h0 h1 h2 h3] at h; exact absurd h h3
  exact ⟨h1, h2, h3⟩
theorem idx_no {l : List Int} {v : Int} (h : ∀ j, j < l.length → v ≠ l.getD j default) : idxI l v = -1 := by
  rw [idxI, fstN_none]
  · rfl
  · intro j hj; exact decide_eq_false (h j hj)
/-- The writer is none of the readers. -/
theorem writer_no {o : Object} (h : rightA o = true) : idxI o.readers o.writer = -1 := by
  rw [rightA, Bool.and_eq_true] at h
  refine idx_no fun j hj e => ?_
  have h1 := apart_allC _ h.2 (j + 1) (by show j + 1 < (o.writer :: o.readers).length; simp; exact hj)
  rw [inB, Bool.and_eq_true, Bool.not_eq_true', decide_eq_false_iff_not] at h1
  refine h1.2 ?_
  show (o.writer :: o.readers).getD (j + 1) default ∈ (o.writer :: o.readers).take (j + 1)
  rw [List.getD_cons_succ, ← e, List.take_succ_cons]
  exact List.mem_cons_self
/-- What a call that may be is. -/
theorem call_is {S : System} (hs : (sysF S).2.2.2 = 0) {i : Nat} (hi : i < S.tasks.length) {c : Instr} (hcm : c ∈ (S.tasks.getD i default).code) (hq : 0 < callsI c) :
    c.b < S.objects.length ∧ rightA (S.objects.getD c.b.toNat default) = true ∧ callsI c = roleO (S.objects.getD c.b.toNat default) i ∧ c.n + (S.objects.getD c.b.toNat default).width ≤ (S.tasks.getD i default).own := by
  obtain ⟨h1, h2, h3⟩ := sys_okC hs
  have h4 := codeF_atC S 0 _ h3 i hi
  rw [Nat.zero_add] at h4
  have h5 := codeR_at S i 0 _ h4 c hcm
  have hb := calls_b hq
  rw [callE, if_neg (by omega)] at h5
  by_cases k1 : (S.objects.length : Int) ≤ c.b
  · rw [if_pos k1] at h5; simp at h5
  rw [if_neg k1] at h5
  by_cases k2 : callsI c ≠ opsW (S.objects.getD c.b.toNat default).kind ∧ callsI c ≠ opsR (S.objects.getD c.b.toNat default).kind
  · rw [if_pos k2] at h5; simp at h5
  rw [if_neg k2] at h5
  by_cases k3 : callsI c ≠ roleI S i c.b
  · rw [if_pos k3] at h5; simp at h5
  rw [if_neg k3] at h5
  by_cases k4 : (S.tasks.getD i default).own < c.n + (S.objects.getD c.b.toNat default).width
  · rw [if_pos k4] at h5; simp at h5
  refine ⟨by omega, objF_all h2 _ (getD_mem (by omega)), ?_, by omega⟩
  have e : roleI S i c.b = roleO (S.objects.getD c.b.toNat default) i := by rw [roleI, if_neg (by omega)]
  rw [← e]
  by_cases k5 : callsI c = roleI S i c.b
  · exact k5
  · exact absurd k5 k3
set_option maxHeartbeats 4000000 in
theorem systemCalls_fn (S : System) : Fn Try.prog 11 [.agg (eSystem S)] (.bool true) := by
  have c0 := awake32_fn
  have c1 := few31_fn S 60 (by omega)
  refine fnb Try.func11 (entered_of (by kernel_rfl)) rfl rfl rfl ?_
  refine wsys 0 rfl (fun hn => ?_)
  cases hf : fewS S 60
  case false =>
    rw [hf] at c1
    repeat' (first | (show W _ _ _ _ _ _; first | apply kA | refine kB rfl ?_ | refine kC rfl rfl ?_ | refine kD rfl rfl ?_ | apply kE | apply kF | apply kG | apply kH | refine kI (by kernel_rfl) (by kernel_rfl) ?_) | (show O _ _ _ _ _ _ _; first | (show O _ _ _ _ (⟨_, .store _ _ _, _, _, _, _⟩ :: _) _ _; refine kJ rfl rfl rfl rfl rfl rfl rfl rfl rfl rfl rfl ?_) | apply kK) | apply kL | ((first | apply kM | apply kN); (iterate 3 (· exact rfl)); (· first | (show Y _ ⟨_, .call ⟨.value _, _, _⟩, _, _, _, _⟩ _ _ _; first | exact q_c (c0) rfl | exact q_c (c1) rfl) | exact ya)) | refine kO rfl rfl rfl rfl rfl ?_ | refine kP rfl rfl rfl ?_ | ((first | refine kQ rfl rfl ?_ ?_ | refine kR rfl rfl rfl rfl rfl ?_ ?_ | refine kS rfl rfl rfl ?_ ?_) <;> intro hc <;> (try simp only [KL, cond_true, cond_false, beq_iff_eq, bne_iff_ne, ne_eq, reduceCtorEq] at hc) <;> (try (have hT : True := hc; clear hT hc)) <;> (try (exfalso; omega))) | apply kT | apply kU | apply kV | apply kW | refine kX rfl ?_ | apply kY | apply kZ)
    all_goals exact retq rfl rfl
  have h := fewS_ok (by omega) hf hn
  have h1 := h.tl
  have h2 := h.ol
  have hcl := h.cl
  have hrl := h.rl
  have hnn := h.n
  rw [hf] at c1
  have c2 := check32_fn S h
  by_cases hs : (sysF S).2.2.2 = 0
  case neg =>
    generalize sysF S = z at *
    obtain ⟨z1, z2, z3, z4⟩ := z
    dsimp only at hs c2
    repeat' (first | (show W _ _ _ _ _ _; first | apply kA | refine kB rfl ?_ | refine kC rfl rfl ?_ | refine kD rfl rfl ?_ | apply kE | apply kF | apply kG | apply kH | refine kI (by kernel_rfl) (by kernel_rfl) ?_) | (show O _ _ _ _ _ _ _; first | (show O _ _ _ _ (⟨_, .alloc _, _, _, _, _⟩ :: _) _ _; first | refine ao_alloc (id := 10) rfl rfl rfl rfl rfl rfl rfl ?_) | (show O _ _ _ _ (⟨_, .store _ _ _, _, _, _, _⟩ :: _) _ _; refine kJ rfl rfl rfl rfl rfl rfl rfl rfl rfl rfl rfl ?_) | apply kK) | apply kL | ((first | apply kM | apply kN); (iterate 3 (· exact rfl)); (· first | (show Y _ ⟨_, .call ⟨.value _, _, _⟩, _, _, _, _⟩ _ _ _; first | exact q_c (c0) rfl | exact q_c (c1) rfl | exact q_c (c2) rfl) | exact ya)) | refine kO rfl rfl rfl rfl rfl ?_ | refine kP rfl rfl rfl ?_ | ((first | refine kQ rfl rfl ?_ ?_ | refine kR rfl rfl rfl rfl rfl ?_ ?_ | refine kS rfl rfl rfl ?_ ?_) <;> intro hc <;> (try simp only [KL, cond_true, cond_false, beq_iff_eq, bne_iff_ne, ne_eq, reduceCtorEq] at hc) <;> (try (have hT : True := hc; clear hT hc)) <;> (try (exfalso; omega))) | apply kT | apply kU | apply kV | apply kW | refine kX rfl ?_ | apply kY | apply kZ)
    all_goals first | (exfalso; omega) | exact retq rfl rfl
  have hcall := fun (i : Nat) (hi : i < S.tasks.length) c hcm => call_is hs hi (c := c) hcm
  have hrt := fun (i : Nat) (hi : i < S.tasks.length) => right_of (fault_0 (tasksF_all 0 _ (sys_okC hs).1 _ (getD_mem hi))).2
  have hown : ∀ i, i < S.tasks.length → 1 ≤ (S.tasks.getD i default).own ∧ (S.tasks.getD i default).own ≤ 64 := fun i hi => by
    have := (fault_0 (tasksF_all 0 _ (sys_okC hs).1 _ (getD_mem hi))).1
    rw [plainB, decide_eq_true_eq] at this
    exact this.2.2.2.2.2
  rw [hs] at c2
  generalize sysF S = z at *
  obtain ⟨z1, z2, z3, z4⟩ := z
  repeat' (first | (show W _ _ _ _ _ _; first | apply kA | refine kB rfl ?_ | refine kC rfl rfl ?_ | refine kD rfl rfl ?_ | apply kE | apply kF | apply kG | apply kH | refine kI (by kernel_rfl) (by kernel_rfl) ?_) | (show O _ _ _ _ _ _ _; first | (show O _ _ _ _ (⟨_, .alloc _, _, _, _, _⟩ :: _) _ _; first | refine ao_alloc (id := 10) rfl rfl rfl rfl rfl rfl rfl ?_) | (show O _ _ _ _ (⟨_, .store _ _ _, _, _, _, _⟩ :: _) _ _; refine kJ rfl rfl rfl rfl rfl rfl rfl rfl rfl rfl rfl ?_) | apply kK) | apply kL | ((first | apply kM | apply kN); (iterate 3 (· exact rfl)); (· first | (show Y _ ⟨_, .call ⟨.value _, _, _⟩, _, _, _, _⟩ _ _ _; first | exact q_c (c0) rfl | exact q_c (c1) rfl | exact q_c (c2) rfl) | exact ya)) | refine kO rfl rfl rfl rfl rfl ?_ | refine kP rfl rfl rfl ?_ | ((first | refine kQ rfl rfl ?_ ?_ | refine kR rfl rfl rfl rfl rfl ?_ ?_ | refine kS rfl rfl rfl ?_ ?_) <;> intro hc <;> (try simp only [KL, cond_true, cond_false, beq_iff_eq, bne_iff_ne, ne_eq, reduceCtorEq] at hc) <;> (try (have hT : True := hc; clear hT hc)) <;> (try (exfalso; omega))) | apply kT | apply kU | apply kV | apply kW | refine kX rfl ?_ | apply kY | apply kZ)
  all_goals first | (exfalso; omega) | skip
  refine wloop (fun i : Nat => ([(1, .ref (eSystem S)), (28, .lst 7 (S.tasks.map eTask)), (29, .int .i64 S.tasks.length), (30, .int .i64 i)], [])) (fun i => i ≤ S.tasks.length) (fun i => S.tasks.length - i) 0 (Nat.zero_le _) les leh (fun i hi => ?_)
  rcases Nat.lt_or_eq_of_le hi with hil | hil
  · have hci := hcall i hil
    have hri := hrt i hil
    have how := hown i hil
    have h3 := hcl i
    have h4 := hnn i
    obtain ⟨t, ht⟩ : ∃ t, S.tasks.getD i default = t := ⟨_, rfl⟩
    rw [ht] at hci hri h3 h4 how
    obtain ⟨p, hp⟩ : ∃ p, t.code = p := ⟨_, rfl⟩
    rw [hp] at hci hri h3 h4
    repeat' (first | (show W _ _ _ _ _ _; first | apply kA | refine kB rfl ?_ | refine kC rfl rfl ?_ | refine kD rfl rfl ?_ | apply kE | apply kF | apply kG | apply kH | refine kI (by kernel_rfl) (by kernel_rfl) ?_) | (show O _ _ _ _ _ _ _; first | (show O _ _ _ _ (⟨_, .alloc _, _, _, _, _⟩ :: _) _ _; first | refine ao_alloc (id := 11) rfl rfl rfl rfl rfl rfl rfl ?_) | (show O _ _ _ _ (⟨_, .store _ _ _, _, _, _, _⟩ :: _) _ _; refine kJ rfl rfl rfl rfl rfl rfl rfl rfl rfl rfl rfl ?_) | apply kK) | apply kL | ((first | apply kM | apply kN); (iterate 3 (· exact rfl)); (· first | (show Y _ ⟨_, .indexAddr _ _ _, _, _, _, _⟩ _ _ _; first | exact Y.mk (ok_indexE (ht) rfl rfl rfl rfl rfl (by omega))) | exact ya)) | refine kO rfl rfl rfl rfl rfl ?_ | refine kP rfl rfl rfl ?_ | ((first | refine kQ rfl rfl ?_ ?_ | refine kR rfl rfl rfl rfl rfl ?_ ?_ | refine kS rfl rfl rfl ?_ ?_) <;> intro hc <;> (try simp only [KL, cond_true, cond_false, beq_iff_eq, bne_iff_ne, ne_eq, reduceCtorEq] at hc) <;> (try (have hT : True := hc; clear hT hc)) <;> (try (exfalso; omega))) | apply kT | apply kU | apply kV | apply kW | refine kX rfl ?_ | apply kY | apply kZ)
    all_goals first | (exfalso; omega) | skip
    refine wloop (fun m : Nat => ([(1, .ref (eSystem S)), (5, .int .i64 i), (6, .ptr 11 0), (28, .lst 7 (S.tasks.map eTask)), (29, .int .i64 S.tasks.length), (30, .int .i64 i), (36, .lst 5 (p.map eInstr)), (37, .int .i64 p.length), (38, .int .i64 m)], [(11, .blk 44 (eTask t))])) (fun m => m ≤ p.length) (fun m => p.length - m) 0 (Nat.zero_le _) (by rw [← hp]; exact les) leh (fun m hm => ?_)
    rcases Nat.lt_or_eq_of_le hm with hml | hml
    · obtain ⟨c, hcc⟩ : ∃ c, p.getD m default = c := ⟨_, rfl⟩
      have hcm : c ∈ p := hcc ▸ getD_mem hml
      have h5 := h4 m
      have h6 := hri m hml
      rw [hcc] at h5 h6
      have c8 := rcalls_fn c.op
      have eq8 : (if 17 ≤ c.op ∧ c.op ≤ 20 then c.op - 16 else 0) = callsI c := by unfold callsI; rw [h6]; simp
      rw [eq8] at c8
      have hq0 : 0 ≤ callsI c := by rw [← eq8]; split <;> omega
      by_cases hq : callsI c ≤ 0
      · have e0 : callsI c = 0 := by omega
        rw [e0] at c8
        repeat' (first | (show W _ _ _ _ _ _; first | apply kA | refine kB rfl ?_ | refine kC rfl rfl ?_ | refine kD rfl rfl ?_ | apply kE | apply kF | apply kG | apply kH | refine kI (by kernel_rfl) (by kernel_rfl) ?_) | (show O _ _ _ _ _ _ _; first | (show O _ _ _ _ (⟨_, .alloc _, _, _, _, _⟩ :: _) _ _; first | refine ao_alloc (id := 12) rfl rfl rfl rfl rfl rfl rfl ?_) | (show O _ _ _ _ (⟨_, .store _ _ _, _, _, _, _⟩ :: _) _ _; refine kJ rfl rfl rfl rfl rfl rfl rfl rfl rfl rfl rfl ?_) | apply kK) | apply kL | ((first | apply kM | apply kN); (iterate 3 (· exact rfl)); (· first | (show Y _ ⟨_, .indexAddr _ _ _, _, _, _, _⟩ _ _ _; first | exact Y.mk (ok_indexE (hcc) rfl rfl rfl rfl rfl (by omega))) | (show Y _ ⟨_, .call ⟨.value _, _, _⟩, _, _, _, _⟩ _ _ _; first | exact q_c (c8) rfl) | exact ya)) | refine kO rfl rfl rfl rfl rfl ?_ | refine kP rfl rfl rfl ?_ | ((first | refine kQ rfl rfl ?_ ?_ | refine kR rfl rfl rfl rfl rfl ?_ ?_ | refine kS rfl rfl rfl ?_ ?_) <;> intro hc <;> (try simp only [KL, cond_true, cond_false, beq_iff_eq, bne_iff_ne, ne_eq, reduceCtorEq] at hc) <;> (try (have hT : True := hc; clear hT hc)) <;> (try (exfalso; omega))) | apply kT | apply kU | apply kV | apply kW | refine kX rfl ?_ | apply kY | apply kZ)
        all_goals first | (exfalso; omega) | exact ⟨m + 1, by omega, by omega, les, leh⟩
      obtain ⟨q1, q2, q3, q4⟩ := hci c hcm (by omega)
      have hcb := calls_b (x := c) (by omega)
      generalize callsI c = q at *
      obtain ⟨op, ca, cb, cc, cn⟩ := c
      dsimp only at *
      obtain ⟨bn, rfl⟩ : ∃ bn : Nat, cb = bn := ⟨cb.toNat, by omega⟩
      rw [Int.toNat_natCast] at q2 q3 q4
      have hrb := hrl bn
      obtain ⟨o, ho⟩ : ∃ o, S.objects.getD bn default = o := ⟨_, rfl⟩
      rw [ho] at q2 q3 q4 hrb
      have hP : rightP o := by
        rw [rightA, Bool.and_eq_true] at q2
        exact of_decide_eq_true q2.1
      have hz := szP hP
      have hk := kindP hP
      have c9 := rreader_fn o i (by omega)
      rw [roleO, if_neg (by omega)] at q3
      by_cases hw : o.writer = i
      · rw [if_pos hw] at q3
        have hno := writer_no q2
        rw [hw] at hno
        rw [hno] at c9
        obtain ⟨wn, hwn⟩ : ∃ wn : Nat, o.width = wn := ⟨o.width.toNat, by omega⟩
        obtain ⟨x, c10⟩ := obegin_fn o hP q 0 (List.replicate wn 0) (.inl ⟨q3, rfl, by rw [List.length_replicate, hwn]⟩)
        repeat' (first | (show W _ _ _ _ _ _; first | apply kA | refine kB rfl ?_ | refine kC rfl rfl ?_ | refine kD rfl rfl ?_ | apply kE | apply kF | apply kG | apply kH | refine kI (by kernel_rfl) (by kernel_rfl) ?_) | (show O _ _ _ _ _ _ _; first | (show O _ _ _ _ (⟨_, .alloc _, _, _, _, _⟩ :: _) _ _; first | refine ao_alloc (id := 12) rfl rfl rfl rfl rfl rfl rfl ?_ | refine ao_alloc (id := 13) rfl rfl rfl rfl rfl rfl rfl ?_) | (show O _ _ _ _ (⟨_, .store _ _ _, _, _, _, _⟩ :: _) _ _; refine kJ rfl rfl rfl rfl rfl rfl rfl rfl rfl rfl rfl ?_) | apply kK) | apply kL | ((first | apply kM | apply kN); (iterate 3 (· exact rfl)); (· first | (show Y _ ⟨_, .indexAddr _ _ _, _, _, _, _⟩ _ _ _; first | exact Y.mk (ok_indexE (hcc) rfl rfl rfl rfl rfl (by omega)) | exact Y.mk (ok_indexE (ho) rfl rfl rfl rfl rfl (by omega))) | (show Y _ ⟨_, .call ⟨.value _, _, _⟩, _, _, _, _⟩ _ _ _; first | exact q_c (c8) rfl | exact q_c (c9) rfl) | exact ya)) | refine kO rfl rfl rfl rfl rfl ?_ | refine kP rfl rfl rfl ?_ | ((first | refine kQ rfl rfl ?_ ?_ | refine kR rfl rfl rfl rfl rfl ?_ ?_ | refine kS rfl rfl rfl ?_ ?_) <;> intro hc <;> (try simp only [KL, cond_true, cond_false, beq_iff_eq, bne_iff_ne, ne_eq, reduceCtorEq] at hc) <;> (try (have hT : True := hc; clear hT hc)) <;> (try (exfalso; omega))) | apply kT | apply kU | apply kV | apply kW | refine kX rfl ?_ | apply kY | apply kZ)
        all_goals first | (exfalso; omega) | skip
        refine ole (s' := [(1, .ref (eSystem S)), (5, .int .i64 i), (6, .ptr 11 0), (8, .ptr 12 0), (9, .int .i64 q), (10, .ptr 13 0), (11, .int .i64 0), (28, .lst 7 (S.tasks.map eTask)), (29, .int .i64 S.tasks.length), (30, .int .i64 i), (36, .lst 5 (p.map eInstr)), (37, .int .i64 p.length), (38, .int .i64 m), (72, .int .i64 wn)]) (h' := [(11, .blk 44 (eTask t)), (12, .blk 49 (eInstr ⟨op, ca, bn, cc, cn⟩)), (13, .blk 33 (eObject o))]) les leh ?_
        (refine ao_mk (m := wn) (f := eU) (d := (0 : Int)) (id := 14) (by_ := 4) (sz := 1) rfl rfl rfl rfl rfl rfl rfl rfl rfl rfl ?_ ?_ rfl rfl rfl rfl ?_; (· omega); (· omega))
        repeat' (first | (show W _ _ _ _ _ _; first | apply kA | refine kB rfl ?_ | refine kC rfl rfl ?_ | refine kD rfl rfl ?_ | apply kE | apply kF | apply kG | apply kH | refine kI (by kernel_rfl) (by kernel_rfl) ?_) | (show O _ _ _ _ _ _ _; first | (show O _ _ _ _ (⟨_, .store _ _ _, _, _, _, _⟩ :: _) _ _; refine kJ rfl rfl rfl rfl rfl rfl rfl rfl rfl rfl rfl ?_) | apply kK) | apply kL | ((first | apply kM | apply kN); (iterate 3 (· exact rfl)); (· first | exact ya)) | refine kO rfl rfl rfl rfl rfl ?_ | refine kP rfl rfl rfl ?_ | ((first | refine kQ rfl rfl ?_ ?_ | refine kR rfl rfl rfl rfl rfl ?_ ?_ | refine kS rfl rfl rfl ?_ ?_) <;> intro hc <;> (try simp only [KL, cond_true, cond_false, beq_iff_eq, bne_iff_ne, ne_eq, reduceCtorEq] at hc) <;> (try (have hT : True := hc; clear hT hc)) <;> (try (exfalso; omega))) | apply kT | apply kU | apply kV | apply kW | refine kX rfl ?_ | apply kY | apply kZ)
        refine oturn (turn_freeze (t := 78) rfl rfl rfl) ?_
        repeat' (first | (show W _ _ _ _ _ _; first | apply kA | refine kB rfl ?_ | refine kC rfl rfl ?_ | refine kD rfl rfl ?_ | apply kE | apply kF | apply kG | apply kH | refine kI (by kernel_rfl) (by kernel_rfl) ?_) | (show O _ _ _ _ _ _ _; first | (show O _ _ _ _ (⟨_, .store _ _ _, _, _, _, _⟩ :: _) _ _; refine kJ rfl rfl rfl rfl rfl rfl rfl rfl rfl rfl rfl ?_) | apply kK) | apply kL | ((first | apply kM | apply kN); (iterate 3 (· exact rfl)); (· first | (show Y _ ⟨_, .indexAddr _ _ _, _, _, _, _⟩ _ _ _; first | exact Y.mk (ok_indexE (ho) rfl rfl rfl rfl rfl (by omega))) | (show Y _ ⟨_, .call ⟨.value _, _, _⟩, _, _, _, _⟩ _ _ _; first | exact q_c (c10) rfl) | exact ya)) | refine kO rfl rfl rfl rfl rfl ?_ | refine kP rfl rfl rfl ?_ | ((first | refine kQ rfl rfl ?_ ?_ | refine kR rfl rfl rfl rfl rfl ?_ ?_ | refine kS rfl rfl rfl ?_ ?_) <;> intro hc <;> (try simp only [KL, cond_true, cond_false, beq_iff_eq, bne_iff_ne, ne_eq, reduceCtorEq] at hc) <;> (try (have hT : True := hc; clear hT hc)) <;> (try (exfalso; omega))) | apply kT | apply kU | apply kV | apply kW | refine kX rfl ?_ | apply kY | apply kZ)
        all_goals first | (exfalso; omega) | exact ⟨m + 1, by omega, by omega, les, leh⟩
      · rw [if_neg hw] at q3
        by_cases hr : 0 ≤ idxI o.readers i
        case neg => rw [if_neg hr] at q3; omega
        rw [if_pos hr] at q3
        have hib := idxI_B o.readers i
        obtain ⟨x, c10⟩ := obegin_fn o hP q (idxI o.readers i) [] (.inr ⟨q3, hr, by omega, rfl⟩)
        generalize idxI o.readers i = r at *
        have c11 : Fn Try.prog 41 [.agg (eObject o), .int .i64 0, .int .i64 q, .int .i64 r, .nils] (.tup [.ref x, .int .i64 0]) := c10.le (by repeat' (first | exact L2.nil _ | refine L2.cons ?_ ?_ | exact LeV.of_eq rfl | exact LeV.nils _ | refine LeV.agg ?_))
        repeat' (first | (show W _ _ _ _ _ _; first | apply kA | refine kB rfl ?_ | refine kC rfl rfl ?_ | refine kD rfl rfl ?_ | apply kE | apply kF | apply kG | apply kH | refine kI (by kernel_rfl) (by kernel_rfl) ?_) | (show O _ _ _ _ _ _ _; first | (show O _ _ _ _ (⟨_, .alloc _, _, _, _, _⟩ :: _) _ _; first | refine ao_alloc (id := 12) rfl rfl rfl rfl rfl rfl rfl ?_ | refine ao_alloc (id := 13) rfl rfl rfl rfl rfl rfl rfl ?_) | (show O _ _ _ _ (⟨_, .store _ _ _, _, _, _, _⟩ :: _) _ _; refine kJ rfl rfl rfl rfl rfl rfl rfl rfl rfl rfl rfl ?_) | apply kK) | apply kL | ((first | apply kM | apply kN); (iterate 3 (· exact rfl)); (· first | (show Y _ ⟨_, .indexAddr _ _ _, _, _, _, _⟩ _ _ _; first | exact Y.mk (ok_indexE (hcc) rfl rfl rfl rfl rfl (by omega)) | exact Y.mk (ok_indexE (ho) rfl rfl rfl rfl rfl (by omega))) | (show Y _ ⟨_, .call ⟨.value _, _, _⟩, _, _, _, _⟩ _ _ _; first | exact q_c (c8) rfl | exact q_c (c9) rfl | exact q_c (c11) rfl) | exact ya)) | refine kO rfl rfl rfl rfl rfl ?_ | refine kP rfl rfl rfl ?_ | ((first | refine kQ rfl rfl ?_ ?_ | refine kR rfl rfl rfl rfl rfl ?_ ?_ | refine kS rfl rfl rfl ?_ ?_) <;> intro hc <;> (try simp only [KL, cond_true, cond_false, beq_iff_eq, bne_iff_ne, ne_eq, reduceCtorEq] at hc) <;> (try (have hT : True := hc; clear hT hc)) <;> (try (exfalso; omega))) | apply kT | apply kU | apply kV | apply kW | refine kX rfl ?_ | apply kY | apply kZ)
        all_goals first | (exfalso; omega) | exact ⟨m + 1, by omega, by omega, les, leh⟩
    · subst hml
      repeat' (first | (show W _ _ _ _ _ _; first | apply kA | refine kB rfl ?_ | refine kC rfl rfl ?_ | refine kD rfl rfl ?_ | apply kE | apply kF | apply kG | apply kH | refine kI (by kernel_rfl) (by kernel_rfl) ?_) | (show O _ _ _ _ _ _ _; first | (show O _ _ _ _ (⟨_, .store _ _ _, _, _, _, _⟩ :: _) _ _; refine kJ rfl rfl rfl rfl rfl rfl rfl rfl rfl rfl rfl ?_) | apply kK) | apply kL | ((first | apply kM | apply kN); (iterate 3 (· exact rfl)); (· first | exact ya)) | refine kO rfl rfl rfl rfl rfl ?_ | refine kP rfl rfl rfl ?_ | ((first | refine kQ rfl rfl ?_ ?_ | refine kR rfl rfl rfl rfl rfl ?_ ?_ | refine kS rfl rfl rfl ?_ ?_) <;> intro hc <;> (try simp only [KL, cond_true, cond_false, beq_iff_eq, bne_iff_ne, ne_eq, reduceCtorEq] at hc) <;> (try (have hT : True := hc; clear hT hc)) <;> (try (exfalso; omega))) | apply kT | apply kU | apply kV | apply kW | refine kX rfl ?_ | apply kY | apply kZ)
      all_goals first | (exfalso; omega) | exact ⟨i + 1, by omega, by omega, les, leh⟩
  · subst hil
    repeat' (first | (show W _ _ _ _ _ _; first | apply kA | refine kB rfl ?_ | refine kC rfl rfl ?_ | refine kD rfl rfl ?_ | apply kE | apply kF | apply kG | apply kH | refine kI (by kernel_rfl) (by kernel_rfl) ?_) | (show O _ _ _ _ _ _ _; first | (show O _ _ _ _ (⟨_, .store _ _ _, _, _, _, _⟩ :: _) _ _; refine kJ rfl rfl rfl rfl rfl rfl rfl rfl rfl rfl rfl ?_) | apply kK) | apply kL | ((first | apply kM | apply kN); (iterate 3 (· exact rfl)); (· first | (show Y _ ⟨_, .call ⟨.value _, _, _⟩, _, _, _, _⟩ _ _ _; first | exact q_c (c0) rfl) | exact ya)) | refine kO rfl rfl rfl rfl rfl ?_ | refine kP rfl rfl rfl ?_ | ((first | refine kQ rfl rfl ?_ ?_ | refine kR rfl rfl rfl rfl rfl ?_ ?_ | refine kS rfl rfl rfl ?_ ?_) <;> intro hc <;> (try simp only [KL, cond_true, cond_false, beq_iff_eq, bne_iff_ne, ne_eq, reduceCtorEq] at hc) <;> (try (have hT : True := hc; clear hT hc)) <;> (try (exfalso; omega))) | apply kT | apply kU | apply kV | apply kW | refine kX rfl ?_ | apply kY | apply kZ)
    all_goals first | (exfalso; omega) | exact retq rfl rfl
end Go.Proofs.Ytkkmageogkkchaa
