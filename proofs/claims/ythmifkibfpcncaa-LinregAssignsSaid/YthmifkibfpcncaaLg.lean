/- Registers by the document: R22.Split, May, Assign; LinregAssigns. No condition but sizes. -/
import Derived.Test.YthmifkibfpcncaaLf
import Derived.Test.YthmifkibfpcncaaLb
namespace Go.Proofs.Ythmifkibfpcncaa
set_option linter.unusedSimpArgs false
set_option linter.unusedVariables false
set_option maxRecDepth 100000
set_option linter.unusedSimpArgs false
set_option linter.unusedVariables false
set_option maxRecDepth 100000
open Go.RowKit
set_option maxHeartbeats 2000000 in
theorem rsplit_fn (l : List Call) (hl : l.length ≤ 1000000) : Fn Try.prog 24 [.lst 7 (l.map eCall)] (.tup [.lst 7 ((wrC l).map eCall), .lst 7 ((rdC l).map eCall)]) := by
  have c0 := rsort_fn l hl
  have hsl := sortC_len l
  rw [wrC, rdC]
  generalize sortC l = s at *
  refine fnb Try.func24 (entered_of (by kernel_rfl)) rfl rfl rfl ?_
  repeat' (first | (show W _ _ _ _ _ _; first | apply kA | refine kB rfl ?_ | refine kC rfl rfl ?_ | refine kD rfl rfl ?_ | apply kE | apply kF | apply kG | apply kH | refine kI (by kernel_rfl) (by kernel_rfl) ?_) | (show O _ _ _ _ _ _ _; first | (show O _ _ _ _ (⟨_, .store _ _ _, _, _, _, _⟩ :: _) _ _; refine kJ rfl rfl rfl rfl rfl rfl rfl rfl rfl rfl rfl ?_) | apply kK) | apply kL | ((first | apply kM | apply kN); (iterate 3 (· exact rfl)); (· first | (show Y _ ⟨_, .call ⟨.value _, _, _⟩, _, _, _, _⟩ _ _ _; first | exact q_c (c0) rfl) | exact ya)) | refine kO rfl rfl rfl rfl rfl ?_ | refine kP rfl rfl rfl ?_ | ((first | refine kQ rfl rfl ?_ ?_ | refine kR rfl rfl rfl rfl rfl ?_ ?_ | refine kS rfl rfl rfl ?_ ?_) <;> intro hc <;> (try simp only [KL, cond_true, cond_false, beq_iff_eq, bne_iff_ne, ne_eq, reduceCtorEq] at hc) <;> (try (have hT : True := hc; clear hT hc)) <;> (try (exfalso; omega))) | apply kT | apply kU | apply kV | apply kW | refine kX rfl ?_ | apply kY | apply kZ)
  refine wturn (turn_own eCall (t := 4) rfl 10 33 7 (by omega) rfl) ?_
  refine wturn (turn_own eCall (t := 5) rfl 11 33 7 (by omega) rfl) ?_
  refine wloop (fun k : Nat => ([(4, .own 10), (5, .own 11), (9, .lst 7 (s.map eCall)), (10, .int .i64 s.length), (11, .int .i64 k)], [(10, .row 33 7 (((s.take k).filter isW).map eCall)), (11, .row 33 7 (((s.take k).filter isR).map eCall))])) (fun k => k ≤ s.length) (fun k => s.length - k) 0 (Nat.zero_le _) les leh (fun k hk => ?_)
  have l1 := List.length_filter_le isW (s.take k)
  have l2 := List.length_filter_le isR (s.take k)
  have l3 : (s.take k).length = k := by rw [List.length_take]; omega
  rcases Nat.lt_or_eq_of_le hk with hkl | rfl
  · have n1 := filt_next (p := isW) hkl
    have n2 := filt_next (p := isR) hkl
    by_cases ho : (s.getD k default).op = 2
    · rw [if_pos (by rw [isW, decide_eq_true ho])] at n1
      rw [if_neg (by rw [isR, decide_eq_false (fun e => e.1 ho)]; decide), List.append_nil] at n2
      repeat' (first | (show W _ _ _ _ _ _; first | apply kA | refine kB rfl ?_ | refine kC rfl rfl ?_ | refine kD rfl rfl ?_ | apply kE | apply kF | apply kG | apply kH | refine kI (by kernel_rfl) (by kernel_rfl) ?_) | (show O _ _ _ _ _ _ _; first | (show O _ _ _ _ (⟨_, .alloc _, _, _, _, _⟩ :: _) _ _; first | refine ao_alloc (id := 20) rfl rfl rfl rfl rfl rfl rfl ?_) | (show O _ _ _ _ (⟨_, .store _ _ _, _, _, _, _⟩ :: _) _ _; refine kJ rfl rfl rfl rfl rfl rfl rfl rfl rfl rfl rfl ?_) | apply kK) | apply kL | ((first | apply kM | apply kN); (iterate 3 (· exact rfl)); (· first | exact ya)) | refine kO rfl rfl rfl rfl rfl ?_ | refine kP rfl rfl rfl ?_ | ((first | refine kQ rfl rfl ?_ ?_ | refine kR rfl rfl rfl rfl rfl ?_ ?_ | refine kS rfl rfl rfl ?_ ?_) <;> intro hc <;> (try simp only [KL, cond_true, cond_false, beq_iff_eq, bne_iff_ne, ne_eq, reduceCtorEq] at hc) <;> (try (have hT : True := hc; clear hT hc)) <;> (try (exfalso; omega))) | apply kT | apply kU | apply kV | apply kW | refine kX rfl ?_ | apply kY | apply kZ)
      all_goals first | (exfalso; omega) | skip
      (refine ao_ap (id := 10) (ys := [s.getD k default]) (by_ := 72) rfl rfl rfl rfl rfl rfl rfl rfl rfl rfl (fun _ _ => rfl) ?_ ?_ rfl rfl rfl rfl rfl ?_; (· (first | omega | ((try simp only [List.length_cons, List.length_nil, List.length_append, List.length_map]) <;> omega))); (· (first | omega | ((try simp only [List.length_cons, List.length_nil, List.length_append, List.length_map]) <;> omega))))
      repeat' (first | (show W _ _ _ _ _ _; first | apply kA | refine kB rfl ?_ | refine kC rfl rfl ?_ | refine kD rfl rfl ?_ | apply kE | apply kF | apply kG | apply kH | refine kI (by kernel_rfl) (by kernel_rfl) ?_) | (show O _ _ _ _ _ _ _; first | (show O _ _ _ _ (⟨_, .store _ _ _, _, _, _, _⟩ :: _) _ _; refine kJ rfl rfl rfl rfl rfl rfl rfl rfl rfl rfl rfl ?_) | apply kK) | apply kL | ((first | apply kM | apply kN); (iterate 3 (· exact rfl)); (· first | exact ya)) | refine kO rfl rfl rfl rfl rfl ?_ | refine kP rfl rfl rfl ?_ | ((first | refine kQ rfl rfl ?_ ?_ | refine kR rfl rfl rfl rfl rfl ?_ ?_ | refine kS rfl rfl rfl ?_ ?_) <;> intro hc <;> (try simp only [KL, cond_true, cond_false, beq_iff_eq, bne_iff_ne, ne_eq, reduceCtorEq] at hc) <;> (try (have hT : True := hc; clear hT hc)) <;> (try (exfalso; omega))) | apply kT | apply kU | apply kV | apply kW | refine kX rfl ?_ | apply kY | apply kZ)
      exact ⟨k + 1, by omega, by omega, les, by simp only [n1, n2]; exact leh⟩
    · rw [if_neg (by rw [isW, decide_eq_false ho]; decide), List.append_nil] at n1
      by_cases hr : 0 ≤ (s.getD k default).fin ∧ (s.getD k default).code = 0
      · rw [if_pos (by rw [isR, decide_eq_true ⟨ho, hr⟩])] at n2
        obtain ⟨h1, h2⟩ := hr
        repeat' (first | (show W _ _ _ _ _ _; first | apply kA | refine kB rfl ?_ | refine kC rfl rfl ?_ | refine kD rfl rfl ?_ | apply kE | apply kF | apply kG | apply kH | refine kI (by kernel_rfl) (by kernel_rfl) ?_) | (show O _ _ _ _ _ _ _; first | (show O _ _ _ _ (⟨_, .alloc _, _, _, _, _⟩ :: _) _ _; first | refine ao_alloc (id := 20) rfl rfl rfl rfl rfl rfl rfl ?_) | (show O _ _ _ _ (⟨_, .store _ _ _, _, _, _, _⟩ :: _) _ _; refine kJ rfl rfl rfl rfl rfl rfl rfl rfl rfl rfl rfl ?_) | apply kK) | apply kL | ((first | apply kM | apply kN); (iterate 3 (· exact rfl)); (· first | exact ya)) | refine kO rfl rfl rfl rfl rfl ?_ | refine kP rfl rfl rfl ?_ | ((first | refine kQ rfl rfl ?_ ?_ | refine kR rfl rfl rfl rfl rfl ?_ ?_ | refine kS rfl rfl rfl ?_ ?_) <;> intro hc <;> (try simp only [KL, cond_true, cond_false, beq_iff_eq, bne_iff_ne, ne_eq, reduceCtorEq] at hc) <;> (try (have hT : True := hc; clear hT hc)) <;> (try (exfalso; omega))) | apply kT | apply kU | apply kV | apply kW | refine kX rfl ?_ | apply kY | apply kZ)
        all_goals first | (exfalso; omega) | skip
        (refine ao_ap (id := 11) (ys := [s.getD k default]) (by_ := 72) rfl rfl rfl rfl rfl rfl rfl rfl rfl rfl (fun _ _ => rfl) ?_ ?_ rfl rfl rfl rfl rfl ?_; (· (first | omega | ((try simp only [List.length_cons, List.length_nil, List.length_append, List.length_map]) <;> omega))); (· (first | omega | ((try simp only [List.length_cons, List.length_nil, List.length_append, List.length_map]) <;> omega))))
        repeat' (first | (show W _ _ _ _ _ _; first | apply kA | refine kB rfl ?_ | refine kC rfl rfl ?_ | refine kD rfl rfl ?_ | apply kE | apply kF | apply kG | apply kH | refine kI (by kernel_rfl) (by kernel_rfl) ?_) | (show O _ _ _ _ _ _ _; first | (show O _ _ _ _ (⟨_, .store _ _ _, _, _, _, _⟩ :: _) _ _; refine kJ rfl rfl rfl rfl rfl rfl rfl rfl rfl rfl rfl ?_) | apply kK) | apply kL | ((first | apply kM | apply kN); (iterate 3 (· exact rfl)); (· first | exact ya)) | refine kO rfl rfl rfl rfl rfl ?_ | refine kP rfl rfl rfl ?_ | ((first | refine kQ rfl rfl ?_ ?_ | refine kR rfl rfl rfl rfl rfl ?_ ?_ | refine kS rfl rfl rfl ?_ ?_) <;> intro hc <;> (try simp only [KL, cond_true, cond_false, beq_iff_eq, bne_iff_ne, ne_eq, reduceCtorEq] at hc) <;> (try (have hT : True := hc; clear hT hc)) <;> (try (exfalso; omega))) | apply kT | apply kU | apply kV | apply kW | refine kX rfl ?_ | apply kY | apply kZ)
        exact ⟨k + 1, by omega, by omega, les, by simp only [n1, n2]; exact leh⟩
      · rw [if_neg (by rw [isR, decide_eq_false (fun e => hr e.2)]; decide), List.append_nil] at n2
        by_cases h1 : 0 ≤ (s.getD k default).fin
        · have h2 : ¬ (s.getD k default).code = 0 := fun e => hr ⟨h1, e⟩
          repeat' (first | (show W _ _ _ _ _ _; first | apply kA | refine kB rfl ?_ | refine kC rfl rfl ?_ | refine kD rfl rfl ?_ | apply kE | apply kF | apply kG | apply kH | refine kI (by kernel_rfl) (by kernel_rfl) ?_) | (show O _ _ _ _ _ _ _; first | (show O _ _ _ _ (⟨_, .alloc _, _, _, _, _⟩ :: _) _ _; first | refine ao_alloc (id := 20) rfl rfl rfl rfl rfl rfl rfl ?_) | (show O _ _ _ _ (⟨_, .store _ _ _, _, _, _, _⟩ :: _) _ _; refine kJ rfl rfl rfl rfl rfl rfl rfl rfl rfl rfl rfl ?_) | apply kK) | apply kL | ((first | apply kM | apply kN); (iterate 3 (· exact rfl)); (· first | exact ya)) | refine kO rfl rfl rfl rfl rfl ?_ | refine kP rfl rfl rfl ?_ | ((first | refine kQ rfl rfl ?_ ?_ | refine kR rfl rfl rfl rfl rfl ?_ ?_ | refine kS rfl rfl rfl ?_ ?_) <;> intro hc <;> (try simp only [KL, cond_true, cond_false, beq_iff_eq, bne_iff_ne, ne_eq, reduceCtorEq] at hc) <;> (try (have hT : True := hc; clear hT hc)) <;> (try (exfalso; omega))) | apply kT | apply kU | apply kV | apply kW | refine kX rfl ?_ | apply kY | apply kZ)
          all_goals first | (exfalso; omega) | exact ⟨k + 1, by omega, by omega, les, by simp only [n1, n2]; exact leh⟩
        · repeat' (first | (show W _ _ _ _ _ _; first | apply kA | refine kB rfl ?_ | refine kC rfl rfl ?_ | refine kD rfl rfl ?_ | apply kE | apply kF | apply kG | apply kH | refine kI (by kernel_rfl) (by kernel_rfl) ?_) | (show O _ _ _ _ _ _ _; first | (show O _ _ _ _ (⟨_, .alloc _, _, _, _, _⟩ :: _) _ _; first | refine ao_alloc (id := 20) rfl rfl rfl rfl rfl rfl rfl ?_) | (show O _ _ _ _ (⟨_, .store _ _ _, _, _, _, _⟩ :: _) _ _; refine kJ rfl rfl rfl rfl rfl rfl rfl rfl rfl rfl rfl ?_) | apply kK) | apply kL | ((first | apply kM | apply kN); (iterate 3 (· exact rfl)); (· first | exact ya)) | refine kO rfl rfl rfl rfl rfl ?_ | refine kP rfl rfl rfl ?_ | ((first | refine kQ rfl rfl ?_ ?_ | refine kR rfl rfl rfl rfl rfl ?_ ?_ | refine kS rfl rfl rfl ?_ ?_) <;> intro hc <;> (try simp only [KL, cond_true, cond_false, beq_iff_eq, bne_iff_ne, ne_eq, reduceCtorEq] at hc) <;> (try (have hT : True := hc; clear hT hc)) <;> (try (exfalso; omega))) | apply kT | apply kU | apply kV | apply kW | refine kX rfl ?_ | apply kY | apply kZ)
          all_goals first | (exfalso; omega) | exact ⟨k + 1, by omega, by omega, les, by simp only [n1, n2]; exact leh⟩
  · rw [List.take_length]
    repeat' (first | (show W _ _ _ _ _ _; first | apply kA | refine kB rfl ?_ | refine kC rfl rfl ?_ | refine kD rfl rfl ?_ | apply kE | apply kF | apply kG | apply kH | refine kI (by kernel_rfl) (by kernel_rfl) ?_) | (show O _ _ _ _ _ _ _; first | (show O _ _ _ _ (⟨_, .store _ _ _, _, _, _, _⟩ :: _) _ _; refine kJ rfl rfl rfl rfl rfl rfl rfl rfl rfl rfl rfl ?_) | apply kK) | apply kL | ((first | apply kM | apply kN); (iterate 3 (· exact rfl)); (· first | exact ya)) | refine kO rfl rfl rfl rfl rfl ?_ | refine kP rfl rfl rfl ?_ | ((first | refine kQ rfl rfl ?_ ?_ | refine kR rfl rfl rfl rfl rfl ?_ ?_ | refine kS rfl rfl rfl ?_ ?_) <;> intro hc <;> (try simp only [KL, cond_true, cond_false, beq_iff_eq, bne_iff_ne, ne_eq, reduceCtorEq] at hc) <;> (try (have hT : True := hc; clear hT hc)) <;> (try (exfalso; omega))) | apply kT | apply kU | apply kV | apply kW | refine kX rfl ?_ | apply kY | apply kZ)
    all_goals first | (exfalso; omega) | skip
    refine retT (fun _ => turn_freeze (t := 2) rfl rfl rfl) ?_
    refine retT (fun _ => turn_freeze (t := 3) rfl rfl rfl) ?_
    exact retq rfl rfl
/-- May a read tell of write k? -/
def laterB (ws : List Call) (r : Call) (k : Nat) : Nat → Bool
  | 0 => true
  | j + 1 => laterB ws r k j && (decide (j < k) || !befB (ws.getD j default) r)
def mayB (init : List Int) (ws : List Call) (k : Nat) (r : Call) : Bool := (recQ init ws r k && (decide (k = 0) || !befB r (ws.getD (k - 1) default))) && laterB ws r k ws.length
theorem later_0 {ws : List Call} {r : Call} {k : Nat} : ∀ j, j ≤ k → laterB ws r k j = true
  | 0, _ => rfl
  | j + 1, h => by rw [laterB, later_0 j (by omega), decide_eq_true (by omega)]; rfl
theorem later_no {ws : List Call} {r : Call} {k j : Nat} (hj : k ≤ j) (h : befB (ws.getD j default) r = true) : ∀ n, j < n → laterB ws r k n = false
  | 0, h' => by omega
  | n + 1, h' => by
    rw [laterB]
    rcases Nat.lt_or_eq_of_le (Nat.le_of_lt_succ h') with q | q
    · rw [later_no hj h n q, Bool.false_and]
    · subst q; rw [h, decide_eq_false (by omega), Bool.not_true, Bool.or_false, Bool.and_false]
theorem later_iff {ws : List Call} {r : Call} {k : Nat} : ∀ n, laterB ws r k n = true ↔ ∀ j, k ≤ j → j < n → befB (ws.getD j default) r = false
  | 0 => ⟨fun _ j h1 h2 => by omega, fun _ => rfl⟩
  | n + 1 => by
    rw [laterB, Bool.and_eq_true, later_iff n, Bool.or_eq_true, decide_eq_true_eq, Bool.not_eq_true']
    refine ⟨fun h j h1 h2 => ?_, fun h => ⟨fun j h1 h2 => h j h1 (by omega), ?_⟩⟩
    · rcases Nat.lt_or_eq_of_le (Nat.le_of_lt_succ h2) with q | q
      · exact h.1 j h1 q
      · subst q; exact h.2.resolve_left (by omega)
    · rcases Nat.lt_or_ge n k with q | q
      · exact .inl q
      · exact .inr (h n q (by omega))
theorem may_iff {init : List Int} {ws : List Call} (hws : Ws ws) {k : Nat} (hk : k ≤ ws.length) {r : Call} : mayB init ws k r = true ↔ lowTo ws r ws.length ≤ k ∧ k ≤ highTo ws r ws.length ∧ recQ init ws r k = true := by
  rw [mayB, Bool.and_eq_true, Bool.and_eq_true, later_iff, Bool.or_eq_true, decide_eq_true_eq, Bool.not_eq_true']
  constructor
  · intro ⟨⟨h1, h2⟩, h3⟩
    refine ⟨low_of fun j a b => h3 j a b, ?_, h1⟩
    rcases h2 with h2 | h2
    · omega
    · rcases Nat.lt_or_ge (highTo ws r ws.length) k with q | q
      · have := high_after (ws := ws) (r := r) ws.length (k - 1) (by omega) (by omega)
        rw [h2] at this; cases this
      · exact q
  · intro ⟨h1, h2, h3⟩
    refine ⟨⟨h3, ?_⟩, fun j a b => low_after ws.length j (by omega) b⟩
    by_cases h0 : k = 0
    · exact .inl h0
    · exact .inr (high_below hws ws.length (Nat.le_refl _) (k - 1) (by omega))
def okQ (b0 : Bool) (rs : List Call) (r : Call) (out : List Nat) (k : Nat) : Nat → Bool
  | 0 => b0
  | j + 1 => okQ b0 rs r out k j && (!befB (rs.getD j default) r || decide (out.getD j default ≤ k))
theorem okQ_iff {b0 : Bool} {rs : List Call} {r : Call} {out : List Nat} {k : Nat} : ∀ n, okQ b0 rs r out k n = true ↔ b0 = true ∧ ∀ j, j < n → befB (rs.getD j default) r = true → out.getD j default ≤ k
  | 0 => ⟨fun h => ⟨h, fun j hj => by omega⟩, fun h => h.1⟩
  | n + 1 => by
    rw [okQ, Bool.and_eq_true, okQ_iff n, Bool.or_eq_true, decide_eq_true_eq, Bool.not_eq_true']
    refine ⟨fun h => ⟨h.1.1, fun j hj hb => ?_⟩, fun h => ⟨⟨h.1, fun j hj => h.2 j (by omega)⟩, ?_⟩⟩
    · rcases Nat.lt_or_eq_of_le (Nat.le_of_lt_succ hj) with q | q
      · exact h.1.2 j q hb
      · subst q; exact h.2.resolve_left (by rw [hb]; decide)
    · cases hb : befB (rs.getD n default) r with
      | false => exact .inl rfl
      | true => exact .inr (h.2 n (by omega) hb)
def allQ (init : List Int) (ws rs : List Call) (out : List Nat) (i k : Nat) : Bool := okQ (mayB init ws k (rs.getD i default)) rs (rs.getD i default) out k i
theorem pick_all {init : List Int} {ws rs : List Call} (hws : Ws ws) (out : List Nat) (i : Nat) : findQ (allQ init ws rs out i) 0 (ws.length + 1) = pickQ init ws rs out i := by
  have hh := highTo_le ws (rs.getD i default) ws.length
  have hiff : ∀ m, m ≤ ws.length → (allQ init ws rs out i m = true ↔ lowR rs (rs.getD i default) out (lowTo ws (rs.getD i default) ws.length) i ≤ m ∧ m ≤ highTo ws (rs.getD i default) ws.length ∧ recQ init ws (rs.getD i default) m = true) := fun m hm => by
    rw [allQ, okQ_iff, may_iff hws hm, lowR_iff]
    exact ⟨fun h => ⟨⟨h.1.1, h.2⟩, h.1.2.1, h.1.2.2⟩, fun h => ⟨⟨h.1.1, h.2.1, h.2.2⟩, h.1.2⟩⟩
  have hf : ∀ m, m ≤ ws.length → (allQ init ws rs out i m = false ↔ ¬ (lowR rs (rs.getD i default) out (lowTo ws (rs.getD i default) ws.length) i ≤ m ∧ m ≤ highTo ws (rs.getD i default) ws.length ∧ recQ init ws (rs.getD i default) m = true)) := fun m hm => by
    rw [← hiff m hm]; simp
  rw [pickQ]
  generalize lowR rs (rs.getD i default) out (lowTo ws (rs.getD i default) ws.length) i = lo at *
  generalize highTo ws (rs.getD i default) ws.length = hi at *
  refine Option.ext fun k => ?_
  rw [findQ_some, findQ_some]
  constructor
  · intro ⟨h1, h2, h3, h4⟩
    have h5 := (hiff k (by omega)).1 h3
    refine ⟨h5.1, by omega, h5.2.2, fun j a b => ?_⟩
    have h6 := (hf j (by omega)).1 (h4 j (Nat.zero_le _) b)
    cases hq : recQ init ws (rs.getD i default) j with
    | false => rfl
    | true => exact absurd ⟨a, by omega, hq⟩ h6
  · intro ⟨h1, h2, h3, h4⟩
    refine ⟨Nat.zero_le _, by omega, (hiff k (by omega)).2 ⟨h1, by omega, h3⟩, fun j a b => (hf j (by omega)).2 fun ⟨c, d, e⟩ => ?_⟩
    rw [h4 j c b] at e; cases e
set_option maxHeartbeats 4000000 in
theorem may_fn (init : List Int) (ws : List Call) (k : Nat) (r : Call) (hl : ws.length ≤ 1000000) (hk : k ≤ ws.length) : Fn Try.prog 25 [.lst 1 (init.map eU), .lst 7 (ws.map eCall), .int .i64 (k : Nat), .agg (eCall r)] (.bool (mayB init ws k r)) := by
  rw [mayB]
  have tail : ∀ (j : Nat), laterB ws r k j = true → k ≤ j → j < ws.length → befB (ws.getD j default) r = false → laterB ws r k (j + 1) = true := fun j h1 h2 h3 h4 => by
    rw [laterB, h1, h4, Bool.not_false, Bool.or_true]; rfl
  rcases k with _ | k
  · have c1 : Fn Try.prog 29 [.lst 1 (init.map eU), .lst 1 (r.rc.map eU)] (.bool (recQ init ws r 0)) := rsame04_fn _ _
    cases hq : recQ init ws r 0 <;> rw [hq] at c1
    · refine fnb Try.func25 (entered_of (by kernel_rfl)) rfl rfl rfl ?_
      repeat' (first | (show W _ _ _ _ _ _; first | apply kA | refine kB rfl ?_ | refine kC rfl rfl ?_ | refine kD rfl rfl ?_ | apply kE | apply kF | apply kG | apply kH | refine kI (by kernel_rfl) (by kernel_rfl) ?_) | (show O _ _ _ _ _ _ _; first | (show O _ _ _ _ (⟨_, .store _ _ _, _, _, _, _⟩ :: _) _ _; refine kJ rfl rfl rfl rfl rfl rfl rfl rfl rfl rfl rfl ?_) | apply kK) | apply kL | ((first | apply kM | apply kN); (iterate 3 (· exact rfl)); (· first | (show Y _ ⟨_, .call ⟨.value _, _, _⟩, _, _, _, _⟩ _ _ _; first | exact q_c (c1) rfl) | exact ya)) | refine kO rfl rfl rfl rfl rfl ?_ | refine kP rfl rfl rfl ?_ | ((first | refine kQ rfl rfl ?_ ?_ | refine kR rfl rfl rfl rfl rfl ?_ ?_ | refine kS rfl rfl rfl ?_ ?_) <;> intro hc <;> (try simp only [KL, cond_true, cond_false, beq_iff_eq, bne_iff_ne, ne_eq, reduceCtorEq] at hc) <;> (try (have hT : True := hc; clear hT hc)) <;> (try (exfalso; omega))) | apply kT | apply kU | apply kV | apply kW | refine kX rfl ?_ | apply kY | apply kZ)
      all_goals first | (exfalso; omega) | exact retq rfl rfl
    rw [decide_eq_true rfl, Bool.true_or, Bool.true_and, Bool.true_and]
    refine fnb Try.func25 (entered_of (by kernel_rfl)) rfl rfl rfl ?_
    repeat' (first | (show W _ _ _ _ _ _; first | apply kA | refine kB rfl ?_ | refine kC rfl rfl ?_ | refine kD rfl rfl ?_ | apply kE | apply kF | apply kG | apply kH | refine kI (by kernel_rfl) (by kernel_rfl) ?_) | (show O _ _ _ _ _ _ _; first | (show O _ _ _ _ (⟨_, .store _ _ _, _, _, _, _⟩ :: _) _ _; refine kJ rfl rfl rfl rfl rfl rfl rfl rfl rfl rfl rfl ?_) | apply kK) | apply kL | ((first | apply kM | apply kN); (iterate 3 (· exact rfl)); (· first | (show Y _ ⟨_, .call ⟨.value _, _, _⟩, _, _, _, _⟩ _ _ _; first | exact q_c (c1) rfl) | exact ya)) | refine kO rfl rfl rfl rfl rfl ?_ | refine kP rfl rfl rfl ?_ | ((first | refine kQ rfl rfl ?_ ?_ | refine kR rfl rfl rfl rfl rfl ?_ ?_ | refine kS rfl rfl rfl ?_ ?_) <;> intro hc <;> (try simp only [KL, cond_true, cond_false, beq_iff_eq, bne_iff_ne, ne_eq, reduceCtorEq] at hc) <;> (try (have hT : True := hc; clear hT hc)) <;> (try (exfalso; omega))) | apply kT | apply kU | apply kV | apply kW | refine kX rfl ?_ | apply kY | apply kZ)
    all_goals first | (exfalso; omega) | skip
    refine wloop (fun j : Nat => ([(1, .lst 7 (ws.map eCall)), (7, .ref (eCall r)), (9, .int .i64 j)], [])) (fun j => 0 ≤ j ∧ j ≤ ws.length ∧ laterB ws r 0 j = true) (fun j => ws.length - j) 0 ⟨Nat.le_refl _, hk, later_0 0 (Nat.le_refl _)⟩ les leh (fun j hj => ?_)
    obtain ⟨hj1, hj2, hj3⟩ := hj
    rcases Nat.lt_or_eq_of_le hj2 with hlt | rfl
    · have c2 := rbef_fn (ws.getD j default) r
      cases hb : befB (ws.getD j default) r <;> rw [hb] at c2
      · repeat' (first | (show W _ _ _ _ _ _; first | apply kA | refine kB rfl ?_ | refine kC rfl rfl ?_ | refine kD rfl rfl ?_ | apply kE | apply kF | apply kG | apply kH | refine kI (by kernel_rfl) (by kernel_rfl) ?_) | (show O _ _ _ _ _ _ _; first | (show O _ _ _ _ (⟨_, .store _ _ _, _, _, _, _⟩ :: _) _ _; refine kJ rfl rfl rfl rfl rfl rfl rfl rfl rfl rfl rfl ?_) | apply kK) | apply kL | ((first | apply kM | apply kN); (iterate 3 (· exact rfl)); (· first | (show Y _ ⟨_, .call ⟨.value _, _, _⟩, _, _, _, _⟩ _ _ _; first | exact q_c (c2) rfl) | exact ya)) | refine kO rfl rfl rfl rfl rfl ?_ | refine kP rfl rfl rfl ?_ | ((first | refine kQ rfl rfl ?_ ?_ | refine kR rfl rfl rfl rfl rfl ?_ ?_ | refine kS rfl rfl rfl ?_ ?_) <;> intro hc <;> (try simp only [KL, cond_true, cond_false, beq_iff_eq, bne_iff_ne, ne_eq, reduceCtorEq] at hc) <;> (try (have hT : True := hc; clear hT hc)) <;> (try (exfalso; omega))) | apply kT | apply kU | apply kV | apply kW | refine kX rfl ?_ | apply kY | apply kZ)
        all_goals first | (exfalso; omega) | exact ⟨j + 1, ⟨by omega, by omega, tail j hj3 hj1 hlt hb⟩, by omega, les, leh⟩
      · rw [later_no hj1 hb ws.length hlt]
        repeat' (first | (show W _ _ _ _ _ _; first | apply kA | refine kB rfl ?_ | refine kC rfl rfl ?_ | refine kD rfl rfl ?_ | apply kE | apply kF | apply kG | apply kH | refine kI (by kernel_rfl) (by kernel_rfl) ?_) | (show O _ _ _ _ _ _ _; first | (show O _ _ _ _ (⟨_, .store _ _ _, _, _, _, _⟩ :: _) _ _; refine kJ rfl rfl rfl rfl rfl rfl rfl rfl rfl rfl rfl ?_) | apply kK) | apply kL | ((first | apply kM | apply kN); (iterate 3 (· exact rfl)); (· first | (show Y _ ⟨_, .call ⟨.value _, _, _⟩, _, _, _, _⟩ _ _ _; first | exact q_c (c2) rfl) | exact ya)) | refine kO rfl rfl rfl rfl rfl ?_ | refine kP rfl rfl rfl ?_ | ((first | refine kQ rfl rfl ?_ ?_ | refine kR rfl rfl rfl rfl rfl ?_ ?_ | refine kS rfl rfl rfl ?_ ?_) <;> intro hc <;> (try simp only [KL, cond_true, cond_false, beq_iff_eq, bne_iff_ne, ne_eq, reduceCtorEq] at hc) <;> (try (have hT : True := hc; clear hT hc)) <;> (try (exfalso; omega))) | apply kT | apply kU | apply kV | apply kW | refine kX rfl ?_ | apply kY | apply kZ)
        all_goals first | (exfalso; omega) | exact retq rfl rfl
    · rw [hj3]
      repeat' (first | (show W _ _ _ _ _ _; first | apply kA | refine kB rfl ?_ | refine kC rfl rfl ?_ | refine kD rfl rfl ?_ | apply kE | apply kF | apply kG | apply kH | refine kI (by kernel_rfl) (by kernel_rfl) ?_) | (show O _ _ _ _ _ _ _; first | (show O _ _ _ _ (⟨_, .store _ _ _, _, _, _, _⟩ :: _) _ _; refine kJ rfl rfl rfl rfl rfl rfl rfl rfl rfl rfl rfl ?_) | apply kK) | apply kL | ((first | apply kM | apply kN); (iterate 3 (· exact rfl)); (· first | exact ya)) | refine kO rfl rfl rfl rfl rfl ?_ | refine kP rfl rfl rfl ?_ | ((first | refine kQ rfl rfl ?_ ?_ | refine kR rfl rfl rfl rfl rfl ?_ ?_ | refine kS rfl rfl rfl ?_ ?_) <;> intro hc <;> (try simp only [KL, cond_true, cond_false, beq_iff_eq, bne_iff_ne, ne_eq, reduceCtorEq] at hc) <;> (try (have hT : True := hc; clear hT hc)) <;> (try (exfalso; omega))) | apply kT | apply kU | apply kV | apply kW | refine kX rfl ?_ | apply kY | apply kZ)
      all_goals first | (exfalso; omega) | exact retq rfl rfl
  · have ej : (((k + 1 : Nat) : Int) - 1).toNat = k := by omega
    have c1 : Fn Try.prog 29 [.lst 1 ((ws.getD (((k + 1 : Nat) : Int) - 1).toNat default).rc.map eU), .lst 1 (r.rc.map eU)] (.bool (recQ init ws r (k + 1))) := by
      rw [ej]; exact rsame04_fn _ _
    have c2 : Fn Try.prog 26 [.agg (eCall r), .agg (eCall (ws.getD (((k + 1 : Nat) : Int) - 1).toNat default))] (.bool (befB r (ws.getD (k + 1 - 1) default))) := by
      rw [ej]; exact rbef_fn _ _
    cases hq : recQ init ws r (k + 1) <;> rw [hq] at c1
    · refine fnb Try.func25 (entered_of (by kernel_rfl)) rfl rfl rfl ?_
      repeat' (first | (show W _ _ _ _ _ _; first | apply kA | refine kB rfl ?_ | refine kC rfl rfl ?_ | refine kD rfl rfl ?_ | apply kE | apply kF | apply kG | apply kH | refine kI (by kernel_rfl) (by kernel_rfl) ?_) | (show O _ _ _ _ _ _ _; first | (show O _ _ _ _ (⟨_, .store _ _ _, _, _, _, _⟩ :: _) _ _; refine kJ rfl rfl rfl rfl rfl rfl rfl rfl rfl rfl rfl ?_) | apply kK) | apply kL | ((first | apply kM | apply kN); (iterate 3 (· exact rfl)); (· first | (show Y _ ⟨_, .call ⟨.value _, _, _⟩, _, _, _, _⟩ _ _ _; first | exact q_c (c1) rfl | exact q_c (c2) rfl) | exact ya)) | refine kO rfl rfl rfl rfl rfl ?_ | refine kP rfl rfl rfl ?_ | ((first | refine kQ rfl rfl ?_ ?_ | refine kR rfl rfl rfl rfl rfl ?_ ?_ | refine kS rfl rfl rfl ?_ ?_) <;> intro hc <;> (try simp only [KL, cond_true, cond_false, beq_iff_eq, bne_iff_ne, ne_eq, reduceCtorEq] at hc) <;> (try (have hT : True := hc; clear hT hc)) <;> (try (exfalso; omega))) | apply kT | apply kU | apply kV | apply kW | refine kX rfl ?_ | apply kY | apply kZ)
      all_goals first | (exfalso; omega) | exact retq rfl rfl
    cases hb0 : befB r (ws.getD (k + 1 - 1) default) <;> rw [hb0] at c2
    case true =>
      refine fnb Try.func25 (entered_of (by kernel_rfl)) rfl rfl rfl ?_
      repeat' (first | (show W _ _ _ _ _ _; first | apply kA | refine kB rfl ?_ | refine kC rfl rfl ?_ | refine kD rfl rfl ?_ | apply kE | apply kF | apply kG | apply kH | refine kI (by kernel_rfl) (by kernel_rfl) ?_) | (show O _ _ _ _ _ _ _; first | (show O _ _ _ _ (⟨_, .store _ _ _, _, _, _, _⟩ :: _) _ _; refine kJ rfl rfl rfl rfl rfl rfl rfl rfl rfl rfl rfl ?_) | apply kK) | apply kL | ((first | apply kM | apply kN); (iterate 3 (· exact rfl)); (· first | (show Y _ ⟨_, .call ⟨.value _, _, _⟩, _, _, _, _⟩ _ _ _; first | exact q_c (c1) rfl | exact q_c (c2) rfl) | exact ya)) | refine kO rfl rfl rfl rfl rfl ?_ | refine kP rfl rfl rfl ?_ | ((first | refine kQ rfl rfl ?_ ?_ | refine kR rfl rfl rfl rfl rfl ?_ ?_ | refine kS rfl rfl rfl ?_ ?_) <;> intro hc <;> (try simp only [KL, cond_true, cond_false, beq_iff_eq, bne_iff_ne, ne_eq, reduceCtorEq] at hc) <;> (try (have hT : True := hc; clear hT hc)) <;> (try (exfalso; omega))) | apply kT | apply kU | apply kV | apply kW | refine kX rfl ?_ | apply kY | apply kZ)
      all_goals first | (exfalso; omega) | exact retq rfl rfl
    rw [Bool.not_false, Bool.or_true, Bool.true_and, Bool.true_and]
    refine fnb Try.func25 (entered_of (by kernel_rfl)) rfl rfl rfl ?_
    repeat' (first | (show W _ _ _ _ _ _; first | apply kA | refine kB rfl ?_ | refine kC rfl rfl ?_ | refine kD rfl rfl ?_ | apply kE | apply kF | apply kG | apply kH | refine kI (by kernel_rfl) (by kernel_rfl) ?_) | (show O _ _ _ _ _ _ _; first | (show O _ _ _ _ (⟨_, .store _ _ _, _, _, _, _⟩ :: _) _ _; refine kJ rfl rfl rfl rfl rfl rfl rfl rfl rfl rfl rfl ?_) | apply kK) | apply kL | ((first | apply kM | apply kN); (iterate 3 (· exact rfl)); (· first | (show Y _ ⟨_, .call ⟨.value _, _, _⟩, _, _, _, _⟩ _ _ _; first | exact q_c (c1) rfl | exact q_c (c2) rfl) | exact ya)) | refine kO rfl rfl rfl rfl rfl ?_ | refine kP rfl rfl rfl ?_ | ((first | refine kQ rfl rfl ?_ ?_ | refine kR rfl rfl rfl rfl rfl ?_ ?_ | refine kS rfl rfl rfl ?_ ?_) <;> intro hc <;> (try simp only [KL, cond_true, cond_false, beq_iff_eq, bne_iff_ne, ne_eq, reduceCtorEq] at hc) <;> (try (have hT : True := hc; clear hT hc)) <;> (try (exfalso; omega))) | apply kT | apply kU | apply kV | apply kW | refine kX rfl ?_ | apply kY | apply kZ)
    all_goals first | (exfalso; omega) | skip
    refine wloop (fun j : Nat => ([(1, .lst 7 (ws.map eCall)), (7, .ref (eCall r)), (9, .int .i64 j)], [])) (fun j => k + 1 ≤ j ∧ j ≤ ws.length ∧ laterB ws r (k + 1) j = true) (fun j => ws.length - j) (k + 1) ⟨Nat.le_refl _, hk, later_0 (k + 1) (Nat.le_refl _)⟩ les leh (fun j hj => ?_)
    obtain ⟨hj1, hj2, hj3⟩ := hj
    rcases Nat.lt_or_eq_of_le hj2 with hlt | rfl
    · have c3 := rbef_fn (ws.getD j default) r
      cases hb : befB (ws.getD j default) r <;> rw [hb] at c3
      · repeat' (first | (show W _ _ _ _ _ _; first | apply kA | refine kB rfl ?_ | refine kC rfl rfl ?_ | refine kD rfl rfl ?_ | apply kE | apply kF | apply kG | apply kH | refine kI (by kernel_rfl) (by kernel_rfl) ?_) | (show O _ _ _ _ _ _ _; first | (show O _ _ _ _ (⟨_, .store _ _ _, _, _, _, _⟩ :: _) _ _; refine kJ rfl rfl rfl rfl rfl rfl rfl rfl rfl rfl rfl ?_) | apply kK) | apply kL | ((first | apply kM | apply kN); (iterate 3 (· exact rfl)); (· first | (show Y _ ⟨_, .call ⟨.value _, _, _⟩, _, _, _, _⟩ _ _ _; first | exact q_c (c3) rfl) | exact ya)) | refine kO rfl rfl rfl rfl rfl ?_ | refine kP rfl rfl rfl ?_ | ((first | refine kQ rfl rfl ?_ ?_ | refine kR rfl rfl rfl rfl rfl ?_ ?_ | refine kS rfl rfl rfl ?_ ?_) <;> intro hc <;> (try simp only [KL, cond_true, cond_false, beq_iff_eq, bne_iff_ne, ne_eq, reduceCtorEq] at hc) <;> (try (have hT : True := hc; clear hT hc)) <;> (try (exfalso; omega))) | apply kT | apply kU | apply kV | apply kW | refine kX rfl ?_ | apply kY | apply kZ)
        all_goals first | (exfalso; omega) | exact ⟨j + 1, ⟨by omega, by omega, tail j hj3 hj1 hlt hb⟩, by omega, les, leh⟩
      · rw [later_no hj1 hb ws.length hlt]
        repeat' (first | (show W _ _ _ _ _ _; first | apply kA | refine kB rfl ?_ | refine kC rfl rfl ?_ | refine kD rfl rfl ?_ | apply kE | apply kF | apply kG | apply kH | refine kI (by kernel_rfl) (by kernel_rfl) ?_) | (show O _ _ _ _ _ _ _; first | (show O _ _ _ _ (⟨_, .store _ _ _, _, _, _, _⟩ :: _) _ _; refine kJ rfl rfl rfl rfl rfl rfl rfl rfl rfl rfl rfl ?_) | apply kK) | apply kL | ((first | apply kM | apply kN); (iterate 3 (· exact rfl)); (· first | (show Y _ ⟨_, .call ⟨.value _, _, _⟩, _, _, _, _⟩ _ _ _; first | exact q_c (c3) rfl) | exact ya)) | refine kO rfl rfl rfl rfl rfl ?_ | refine kP rfl rfl rfl ?_ | ((first | refine kQ rfl rfl ?_ ?_ | refine kR rfl rfl rfl rfl rfl ?_ ?_ | refine kS rfl rfl rfl ?_ ?_) <;> intro hc <;> (try simp only [KL, cond_true, cond_false, beq_iff_eq, bne_iff_ne, ne_eq, reduceCtorEq] at hc) <;> (try (have hT : True := hc; clear hT hc)) <;> (try (exfalso; omega))) | apply kT | apply kU | apply kV | apply kW | refine kX rfl ?_ | apply kY | apply kZ)
        all_goals first | (exfalso; omega) | exact retq rfl rfl
    · rw [hj3]
      repeat' (first | (show W _ _ _ _ _ _; first | apply kA | refine kB rfl ?_ | refine kC rfl rfl ?_ | refine kD rfl rfl ?_ | apply kE | apply kF | apply kG | apply kH | refine kI (by kernel_rfl) (by kernel_rfl) ?_) | (show O _ _ _ _ _ _ _; first | (show O _ _ _ _ (⟨_, .store _ _ _, _, _, _, _⟩ :: _) _ _; refine kJ rfl rfl rfl rfl rfl rfl rfl rfl rfl rfl rfl ?_) | apply kK) | apply kL | ((first | apply kM | apply kN); (iterate 3 (· exact rfl)); (· first | exact ya)) | refine kO rfl rfl rfl rfl rfl ?_ | refine kP rfl rfl rfl ?_ | ((first | refine kQ rfl rfl ?_ ?_ | refine kR rfl rfl rfl rfl rfl ?_ ?_ | refine kS rfl rfl rfl ?_ ?_) <;> intro hc <;> (try simp only [KL, cond_true, cond_false, beq_iff_eq, bne_iff_ne, ne_eq, reduceCtorEq] at hc) <;> (try (have hT : True := hc; clear hT hc)) <;> (try (exfalso; omega))) | apply kT | apply kU | apply kV | apply kW | refine kX rfl ?_ | apply kY | apply kZ)
      all_goals first | (exfalso; omega) | exact retq rfl rfl
end Go.Proofs.Ythmifkibfpcncaa
