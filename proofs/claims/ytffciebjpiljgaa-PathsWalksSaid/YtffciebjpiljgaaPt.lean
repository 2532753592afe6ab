/- How many walks a program has, and how often one comes to a place (paths.Count, Often). No condition. -/
import Derived.Test.YtffciebjpiljgaaWm
import Derived.Test.YtffciebjpiljgaaAvSc
namespace Go.Proofs.Ytffciebjpiljgaa
set_option linter.unusedSimpArgs false
set_option linter.unusedVariables false
set_option maxRecDepth 100000
set_option linter.unusedSimpArgs false
set_option linter.unusedVariables false
set_option maxRecDepth 100000
open Go.RowKit
def capW (v : GW Nat) : Way := ⟨kap (some v.thr), kap (some v.fin)⟩
theorem kap_add (a b : Nat) : addI (kap (some a)) (kap (some b)) = kap (some (a + b)) := by rw [kap_some, kap_some, kap_some]; unfold addI insI; omega
theorem kap_mul (a b : Nat) : mulI (kap (some a)) (kap (some b)) = kap (some (a * b)) := by
  rw [kap_some, kap_some, kap_some, mulI, insId (n := min (a : Int) _) (by omega) (by omega), insId (n := min (b : Int) _) (by omega) (by omega), Int.natCast_mul]
  rcases Nat.eq_zero_or_pos a with rfl | ha
  · rw [show min ((0 : Nat) : Int) 1099511627776 = 0 from rfl, Int.zero_mul]; rw [show ((0 : Nat) : Int) = 0 from rfl, Int.zero_mul]; rfl
  rcases Nat.eq_zero_or_pos b with rfl | hb
  · rw [show min ((0 : Nat) : Int) 1099511627776 = 0 from rfl, Int.mul_zero]; rw [show ((0 : Nat) : Int) = 0 from rfl, Int.mul_zero]; rfl
  rcases Int.lt_or_le 1099511627776 (a : Int) with q | q
  · have h1 : (1099511627776 : Int) * 1 ≤ 1099511627776 * min (b : Int) 1099511627776 := Int.mul_le_mul_of_nonneg_left (by omega) (by omega)
    have h2 : (a : Int) * 1 ≤ a * b := Int.mul_le_mul_of_nonneg_left (by omega) (by omega)
    rw [Int.min_eq_right (a := (a : Int)) (by omega)]
    omega
  rcases Int.lt_or_le 1099511627776 (b : Int) with q' | q'
  · have h1 : (1 : Int) * 1099511627776 ≤ a * 1099511627776 := Int.mul_le_mul_of_nonneg_right (by omega) (by omega)
    have h2 : (1 : Int) * b ≤ a * b := Int.mul_le_mul_of_nonneg_right (by omega) (by omega)
    rw [Int.min_eq_right (a := (b : Int)) (by omega), Int.min_eq_left (a := (a : Int)) (by omega)]
    omega
  · rw [Int.min_eq_left (a := (a : Int)) (by omega), Int.min_eq_left (a := (b : Int)) (by omega), Int.min_comm]
def rdA (one : GW Nat) : Nat → Nat
  | 0 => 1
  | k + 1 => rdA one k * one.thr
def rdE (one : GW Nat) : Nat → Nat
  | 0 => 0
  | k + 1 => rdE one k + rdA one k * one.fin
theorem rdA_pow (one : GW Nat) : ∀ k, rdA one k = cntR.pow one.thr k
  | 0 => rfl
  | k + 1 => by rw [rdA, rdA_pow one k, SR.pow, Nat.mul_comm]; rfl
theorem rdE_rds (one on : GW Nat) : ∀ k m, rdE one k + rdA one k * cntR.rds one on m = cntR.rds one on (k + m)
  | 0, m => by rw [rdE, rdA, Nat.zero_add, Nat.zero_add, Nat.one_mul]
  | k + 1, m => by
    have e : cntR.rds one on (m + 1) = one.fin + one.thr * cntR.rds one on m := rfl
    rw [rdE, rdA, show k + 1 + m = k + (m + 1) by omega, ← rdE_rds one on k (m + 1), e, Nat.mul_add, Nat.mul_assoc]; omega
theorem rd_close (one on : GW Nat) (t : Nat) : cntR.close one one on t = ⟨rdA one (t + 1) * on.thr, rdE one (t + 1) + rdA one (t + 1) * on.fin⟩ := by
  have h : rdE one (t + 1) + rdA one (t + 1) * on.fin = cntR.rds one on (t + 1 + 0) := rdE_rds one on (t + 1) 0
  rw [SR.close, h, rdA_pow]
  have e1 : cntR.rds one on (t + 1 + 0) = one.fin + one.thr * cntR.rds one on t := rfl
  have e2 : cntR.pow one.thr (t + 1) = one.thr * cntR.pow one.thr t := rfl
  rw [e1, e2, Nat.mul_assoc]; rfl
def eWy (x : Way) : List AV := [.int .i64 x.thr, .int .i64 x.fin]
def cA' (p : List Instr) : List AV := [.lst 5 (p.map eInstr), .lst 2 ((loopsL p).map eSpan)]
theorem prounds_fn (one on : GW Nat) (t : Nat) (ht : t ≤ 1000000) : Fn Try.prog 90 [.agg (eWy (capW one)), .agg (eWy (capW on)), .int .i64 t] (.agg (eWy (capW (cntR.close one one on t)))) := by
  rw [rd_close]
  refine fnb Try.func90 (entered_of (by kernel_rfl)) rfl rfl rfl ?_
  repeat' (first | (show W _ _ _ _ _ _; first | apply kA | refine kB rfl ?_ | refine kC rfl rfl ?_ | refine kD rfl rfl ?_ | apply kE | apply kF | apply kG | apply kH | refine kI (by kernel_rfl) (by kernel_rfl) ?_) | (show O _ _ _ _ _ _ _; first | (show O _ _ _ _ (⟨_, .alloc _, _, _, _, _⟩ :: _) _ _; first | refine ao_alloc (id := 20) rfl rfl rfl rfl rfl rfl rfl ?_) | (show O _ _ _ _ (⟨_, .store _ _ _, _, _, _, _⟩ :: _) _ _; refine kJ rfl rfl rfl rfl rfl rfl rfl rfl rfl rfl rfl ?_) | apply kK) | apply kL | ((first | apply kM | apply kN); (iterate 3 (· exact rfl)); (· first | exact ya)) | refine kO rfl rfl rfl rfl rfl ?_ | refine kP rfl rfl rfl ?_ | ((first | refine kQ rfl rfl ?_ ?_ | refine kR rfl rfl rfl rfl rfl ?_ ?_ | refine kS rfl rfl rfl ?_ ?_) <;> intro hc <;> (try simp only [KL, cond_true, cond_false, beq_iff_eq, bne_iff_ne, ne_eq, reduceCtorEq] at hc) <;> (try (have hT : True := hc; clear hT hc)) <;> (try (exfalso; omega))) | apply kT | apply kU | apply kV | apply kW | refine kX rfl ?_ | apply kY | apply kZ)
  refine wloop (fun k : Nat => ([(3, .ref (eWy (capW one))), (4, .ref (eWy (capW on))), (6, .ptr 20 0), (7, .int .i64 (kap (some (rdA one k)))), (8, .int .i64 (kap (some (rdE one k)))), (10, .int .i64 ((t + 1 : Nat) : Int)), (11, .int .i64 k)], [(20, .blk 106 (eWy ⟨0, 0⟩))])) (fun k => k ≤ t + 1) (fun k => t + 1 - k) 0 (Nat.zero_le _) les leh (fun k hk => ?_)
  rcases Nat.lt_or_eq_of_le hk with hlt | rfl
  · have c1 := kMul_fn (kap (some (rdA one k))) (kap (some one.fin))
    rw [kap_mul] at c1
    have c2 := kAdd_fn (kap (some (rdE one k))) (kap (some (rdA one k * one.fin)))
    rw [kap_add] at c2
    have c3 := kMul_fn (kap (some (rdA one k))) (kap (some one.thr))
    rw [kap_mul] at c3
    repeat' (first | (show W _ _ _ _ _ _; first | apply kA | refine kB rfl ?_ | refine kC rfl rfl ?_ | refine kD rfl rfl ?_ | apply kE | apply kF | apply kG | apply kH | refine kI (by kernel_rfl) (by kernel_rfl) ?_) | (show O _ _ _ _ _ _ _; first | (show O _ _ _ _ (⟨_, .store _ _ _, _, _, _, _⟩ :: _) _ _; refine kJ rfl rfl rfl rfl rfl rfl rfl rfl rfl rfl rfl ?_) | apply kK) | apply kL | ((first | apply kM | apply kN); (iterate 3 (· exact rfl)); (· first | (show Y _ ⟨_, .call ⟨.value _, _, _⟩, _, _, _, _⟩ _ _ _; first | exact q_c (c1) rfl | exact q_c (c2) rfl | exact q_c (c3) rfl) | exact ya)) | refine kO rfl rfl rfl rfl rfl ?_ | refine kP rfl rfl rfl ?_ | ((first | refine kQ rfl rfl ?_ ?_ | refine kR rfl rfl rfl rfl rfl ?_ ?_ | refine kS rfl rfl rfl ?_ ?_) <;> intro hc <;> (try simp only [KL, cond_true, cond_false, beq_iff_eq, bne_iff_ne, ne_eq, reduceCtorEq] at hc) <;> (try (have hT : True := hc; clear hT hc)) <;> (try (exfalso; omega))) | apply kT | apply kU | apply kV | apply kW | refine kX rfl ?_ | apply kY | apply kZ)
    all_goals first | (exfalso; omega) | exact ⟨k + 1, by omega, by omega, les, leh⟩
  · have c1 := kMul_fn (kap (some (rdA one (t + 1)))) (kap (some on.thr))
    rw [kap_mul] at c1
    have c2 := kMul_fn (kap (some (rdA one (t + 1)))) (kap (some on.fin))
    rw [kap_mul] at c2
    have c3 := kAdd_fn (kap (some (rdE one (t + 1)))) (kap (some (rdA one (t + 1) * on.fin)))
    rw [kap_add] at c3
    repeat' (first | (show W _ _ _ _ _ _; first | apply kA | refine kB rfl ?_ | refine kC rfl rfl ?_ | refine kD rfl rfl ?_ | apply kE | apply kF | apply kG | apply kH) | (show O _ _ _ _ _ _ _; first | (show O _ _ _ _ (⟨_, .store _ _ _, _, _, _, _⟩ :: _) _ _; refine kJ rfl rfl rfl rfl rfl rfl rfl rfl rfl rfl rfl ?_) | apply kK) | apply kL | ((first | apply kM | apply kN); (iterate 3 (· exact rfl)); (· first | exact ya)) | refine kO rfl rfl rfl rfl rfl ?_ | refine kP rfl rfl rfl ?_ | ((first | refine kQ rfl rfl ?_ ?_ | refine kR rfl rfl rfl rfl rfl ?_ ?_ | refine kS rfl rfl rfl ?_ ?_) <;> intro hc <;> (try simp only [KL, cond_true, cond_false, beq_iff_eq, bne_iff_ne, ne_eq, reduceCtorEq] at hc) <;> (try (have hT : True := hc; clear hT hc)) <;> (try (exfalso; omega))) | apply kT | apply kU | apply kV | apply kW | refine kX rfl ?_ | apply kY | apply kZ)
    all_goals first | (exfalso; omega) | skip
    refine wle (s' := [(3, .ref (eWy (capW one))), (4, .ref (eWy (capW on))), (6, .ptr 20 0), (7, .int .i64 (kap (some (rdA one (t + 1))))), (8, .int .i64 (kap (some (rdE one (t + 1)))))]) (h' := [(20, .blk 106 (eWy ⟨0, 0⟩))]) les leh ?_
    refine wdrawC (H := fun y : Way => [(20, .blk 106 (eWy y))]) (ok := fun _ => True) (tn := [11]) (ln := []) (⟨0, 0⟩ : Way) leh (by kernel_rfl) (by kernel_rfl) (by kernel_rfl) trivial ?_
    repeat' (first | (show W _ _ _ _ _ _; first | apply kA | refine kB rfl ?_ | refine kC rfl rfl ?_ | refine kD rfl rfl ?_ | apply kE | apply kF | apply kG | apply kH) | (show O _ _ _ _ _ _ _; first | (show O _ _ _ _ (⟨_, .store _ _ _, _, _, _, _⟩ :: _) _ _; refine kJ rfl rfl rfl rfl rfl rfl rfl rfl rfl rfl rfl ?_) | apply kK) | apply kL | ((first | apply kM | apply kN); (iterate 3 (· exact rfl)); (· first | (show Y _ ⟨_, .call ⟨.value _, _, _⟩, _, _, _, _⟩ _ _ _; first | exact q_c (c1) rfl | exact q_c (c2) rfl | exact q_c (c3) rfl) | exact ya)) | (show C _ _ _ _ _ _ _ _ _ _ _; first | refine cnil ?_ | (apply c_any; (· exact rfl); (· exact rfl); (· intro y' hy'; first | (show Y _ ⟨_, .call ⟨.value _, _, _⟩, _, _, _, _⟩ _ _ _; first | exact q_c (c1) rfl | exact q_c (c2) rfl | exact q_c (c3) rfl) | exact ya)) | (apply c_ld; (· exact rfl); (· exact rfl); (· exact rfl); (· first | (show Y _ ⟨_, .call ⟨.value _, _, _⟩, _, _, _, _⟩ _ _ _; first | exact q_c (c1) rfl | exact q_c (c2) rfl | exact q_c (c3) rfl) | exact ya)) | refine c_grdN rfl rfl rfl ?_) | refine kO rfl rfl rfl rfl rfl ?_ | refine kP rfl rfl rfl ?_ | ((first | refine kQ rfl rfl ?_ ?_ | refine kR rfl rfl rfl rfl rfl ?_ ?_ | refine kS rfl rfl rfl ?_ ?_ | refine c_grd rfl rfl rfl ?_ ?_) <;> intro hc <;> (try simp only [KL, cond_true, cond_false, beq_iff_eq, bne_iff_ne, ne_eq, reduceCtorEq] at hc) <;> (try (have hT : True := hc; clear hT hc)) <;> (try (exfalso; omega))) | apply kT | apply kU | apply kV | apply kW | refine kX rfl ?_ | apply kY | apply kZ)
    refine c_tu (x' := capW ⟨rdA one (t + 1) * on.thr, rdE one (t + 1) + rdA one (t + 1) * on.fin⟩) rfl rfl trivial (TuO.post (tu_st (sto_B rfl rfl rfl rfl rfl rfl (Nat.le_of_ble_eq_true rfl)) rfl) leh) ?_
    repeat' (first | (show W _ _ _ _ _ _; first | apply kA | refine kB rfl ?_ | refine kC rfl rfl ?_ | refine kD rfl rfl ?_ | apply kE | apply kF | apply kG | apply kH) | (show O _ _ _ _ _ _ _; first | (show O _ _ _ _ (⟨_, .store _ _ _, _, _, _, _⟩ :: _) _ _; refine kJ rfl rfl rfl rfl rfl rfl rfl rfl rfl rfl rfl ?_) | apply kK) | apply kL | ((first | apply kM | apply kN); (iterate 3 (· exact rfl)); (· first | exact ya)) | (show C _ _ _ _ _ _ _ _ _ _ _; first | refine cnil ?_ | (apply c_any; (· exact rfl); (· exact rfl); (· intro y' hy'; first | exact ya)) | (apply c_ld; (· exact rfl); (· exact rfl); (· exact rfl); (· first | exact ya)) | refine c_grdN rfl rfl rfl ?_) | refine kO rfl rfl rfl rfl rfl ?_ | refine kP rfl rfl rfl ?_ | ((first | refine kQ rfl rfl ?_ ?_ | refine kR rfl rfl rfl rfl rfl ?_ ?_ | refine kS rfl rfl rfl ?_ ?_ | refine c_grd rfl rfl rfl ?_ ?_) <;> intro hc <;> (try simp only [KL, cond_true, cond_false, beq_iff_eq, bne_iff_ne, ne_eq, reduceCtorEq] at hc) <;> (try (have hT : True := hc; clear hT hc)) <;> (try (exfalso; omega))) | apply kT | apply kU | apply kV | apply kW | refine kX rfl ?_ | apply kY | apply kZ)
    exact retq rfl rfl
theorem pouter_rd (l : Nat) (r : Loop) (σ0 : Sig) (pins : List (Nat × Value)) (pc : Int) (part s a : Span) (i : Int) (hr : r.state = .ready) (hpd : r.pending = none) (hab : rfOf Try.f89.body = some (r.params, r.assign, r.body)) (hk : r.tmps.size = Try.f89.ntmps)
    (hs : SlotsOk σ0 pins [(4, .ref [.int .i64 pc]), (5, .ref (eSpan part)), (6, .ptr 0 0), (7, .ptr 1 0)] r.tmps) :
    YF Try.prog l pins [.int .i64 i, .agg (eSpan s)] (outH l r σ0 a false) (fun b h' => (b = true ∧ outQ pc part s = false ∧ h' = outH l { r with state := .ready, pending := none } σ0 a false) ∨ (b = false ∧ outQ pc part s = true ∧ h' = outH l { r with state := .done, pending := some .ret } σ0 s true)) := by
  change Option.some (_, _, _) = some _ at hab
  injection hab with hab
  injection hab with h1 hab
  injection hab with h2 h3
  refine yf_le (yf_body2 (R := fun b h' => (b = true ∧ outQ pc part s = false ∧ LeH h' (outH l { r with state := .ready, pending := none } σ0 a false)) ∨ (b = false ∧ outQ pc part s = true ∧ LeH h' (outH l { r with state := .done, pending := some .ret } σ0 s true))) (idL := 8) (idK := 9) (σ0 := σ0) rfl rfl hr h1.symm hk (by decide) (by decide) (by decide) hs ?_) ?_
  · refine wcode h2 ?_
    repeat' (first | (show W _ _ _ _ _ _; first | apply kA | refine kB rfl ?_ | refine kC rfl rfl ?_ | refine kD rfl rfl ?_ | apply kE | apply kF | apply kG | apply kH | refine kI (by kernel_rfl) (by kernel_rfl) ?_) | (show O _ _ _ _ _ _ _; first | (show O _ _ _ _ (⟨_, .alloc _, _, _, _, _⟩ :: _) _ _; first | refine ao_alloc (id := 20) rfl rfl rfl rfl rfl rfl rfl ?_) | (show O _ _ _ _ (⟨_, .store _ _ _, _, _, _, _⟩ :: _) _ _; refine kJ rfl rfl rfl rfl rfl rfl rfl rfl rfl rfl rfl ?_) | apply kK) | apply kL | ((first | apply kM | apply kN); (iterate 3 (· exact rfl)); (· first | exact ya)) | refine kO rfl rfl rfl rfl rfl ?_ | refine kP rfl rfl rfl ?_ | ((first | refine kQ rfl rfl ?_ ?_ | refine kR rfl rfl rfl rfl rfl ?_ ?_ | refine kS rfl rfl rfl ?_ ?_) <;> intro hc <;> (try simp only [KL, cond_true, cond_false, beq_iff_eq, bne_iff_ne, ne_eq, reduceCtorEq] at hc) <;> (try (have hT : True := hc; clear hT hc)) <;> (try (exfalso; omega))) | apply kT | apply kU | apply kV | apply kW | refine kX rfl ?_ | apply kY | apply kZ)
    refine ⟨rfl, ?_⟩
    refine wcode h3 ?_
    repeat' (first | (show W _ _ _ _ _ _; first | apply kA | refine kB rfl ?_ | refine kC rfl rfl ?_ | refine kD rfl rfl ?_ | apply kE | apply kF | apply kG | apply kH | refine kI (by kernel_rfl) (by kernel_rfl) ?_) | (show O _ _ _ _ _ _ _; first | (show O _ _ _ _ (⟨_, .store _ _ _, _, _, _, _⟩ :: _) _ _; refine kJ rfl rfl rfl rfl rfl rfl rfl rfl rfl rfl rfl ?_) | apply kK) | apply kL | ((first | apply kM | apply kN); (iterate 3 (· exact rfl)); (· first | exact ya | exact Y.mk (neq_Span rfl rfl rfl))) | refine kO rfl rfl rfl rfl rfl ?_ | refine kP rfl rfl rfl ?_ | ((first | refine kQ rfl rfl ?_ ?_ | refine kR rfl rfl rfl rfl rfl ?_ ?_ | refine kS rfl rfl rfl ?_ ?_) <;> intro hc <;> (try simp only [KL, cond_true, cond_false, beq_iff_eq, bne_iff_ne, ne_eq, reduceCtorEq] at hc) <;> (try (have hT : True := hc; clear hT hc)) <;> (try (exfalso; omega))) | apply kT | apply kU | apply kV | apply kW | refine kX rfl ?_ | apply kY | apply kZ)
    all_goals first
      | exact ⟨rfl, .inr ⟨rfl, decide_eq_true ⟨by assumption, by omega, by omega, by omega, by omega⟩, leh⟩⟩
      | exact ⟨rfl, .inl ⟨rfl, decide_eq_false (fun e => by first | omega | exact e.1 (by assumption)), leh⟩⟩
      | trace_state
  · rintro b h' (⟨rfl, h4, h5⟩ | ⟨rfl, h4, h5⟩)
    · exact ⟨_, h5, .inl ⟨rfl, h4, rfl⟩⟩
    · exact ⟨_, h5, .inr ⟨rfl, h4, rfl⟩⟩
theorem pouter_it (L : List Span) (pc : Int) (part a : Span) (hn : L.length ≤ 1000000) (l : Nat) (r : Loop) (σ0 : Sig) (pins : List (Nat × Value)) (hr : r.state = .ready) (hpd : r.pending = none) (hab : rfOf Try.f89.body = some (r.params, r.assign, r.body)) (hk : r.tmps.size = Try.f89.ntmps)
    (hs : SlotsOk σ0 pins [(4, .ref [.int .i64 pc]), (5, .ref (eSpan part)), (6, .ptr 0 0), (7, .ptr 1 0)] r.tmps) (hp5 : ∀ p ∈ pins, p.1 < 5) :
    FnHp Try.prog pins 132 (.fn (.yield l) [] [] :: [.ref [.lst 2 (L.map eSpan)]]) (outH l r σ0 a false) (fun v h' => v = .tup [] ∧ ((outL L pc part = none ∧ h' = outH l r σ0 a false) ∨ ∃ s, outL L pc part = some s ∧ h' = outH l { r with state := .done, pending := some .ret } σ0 s true)) := by
  have hrd := rdy hr hpd
  refine fnhbp Try.func132 (entered_of (by kernel_rfl)) rfl rfl ?_
  repeat' (first | (show W _ _ _ _ _ _; first | apply kA | refine kB rfl ?_ | refine kC rfl rfl ?_ | refine kD rfl rfl ?_ | apply kE | apply kF | apply kG | apply kH | refine kI (by kernel_rfl) (by kernel_rfl) ?_) | (show O _ _ _ _ _ _ _; first | (show O _ _ _ _ (⟨_, .store _ _ _, _, _, _, _⟩ :: _) _ _; refine kJ rfl rfl rfl rfl rfl rfl rfl rfl rfl rfl rfl ?_) | apply kK) | apply kL | ((first | apply kM | apply kN); (iterate 3 (· exact rfl)); (· first | exact ya)) | refine kO rfl rfl rfl rfl rfl ?_ | refine kP rfl rfl rfl ?_ | ((first | refine kQ rfl rfl ?_ ?_ | refine kR rfl rfl rfl rfl rfl ?_ ?_ | refine kS rfl rfl rfl ?_ ?_) <;> intro hc <;> (try simp only [KL, cond_true, cond_false, beq_iff_eq, bne_iff_ne, ne_eq, reduceCtorEq] at hc) <;> (try (have hT : True := hc; clear hT hc)) <;> (try (exfalso; omega))) | apply kT | apply kU | apply kV | apply kW | refine kX rfl ?_ | apply kY | apply kZ)
  refine wloop (fun k : Nat => ([(0, .fn (.yield l) [] []), (1, .ref [.lst 2 (L.map eSpan)]), (3, .int .i64 ((k : Int) - 1))], outH l r σ0 a false)) (fun k => k ≤ L.length ∧ (L.take k).reverse.find? (outQ pc part) = outL L pc part) (fun k => k) L.length ⟨Nat.le_refl _, by rw [List.take_length]; rfl⟩ les leh (fun k hk => ?_)
  obtain ⟨hk1, hk2⟩ := hk
  cases k with
  | zero =>
    refine wle (s' := [(0, .fn (.yield l) [] []), (1, .ref [.lst 2 (L.map eSpan)]), (3, .int .i64 (-1))]) (h' := outH l r σ0 a false) les leh ?_
    repeat' (first | (show W _ _ _ _ _ _; first | apply kA | refine kB rfl ?_ | refine kC rfl rfl ?_ | refine kD rfl rfl ?_ | apply kE | apply kF | apply kG | apply kH | refine kI (by kernel_rfl) (by kernel_rfl) ?_) | (show O _ _ _ _ _ _ _; first | (show O _ _ _ _ (⟨_, .store _ _ _, _, _, _, _⟩ :: _) _ _; refine kJ rfl rfl rfl rfl rfl rfl rfl rfl rfl rfl rfl ?_) | apply kK) | apply kL | ((first | apply kM | apply kN); (iterate 3 (· exact rfl)); (· first | exact ya)) | refine kO rfl rfl rfl rfl rfl ?_ | refine kP rfl rfl rfl ?_ | ((first | refine kQ rfl rfl ?_ ?_ | refine kR rfl rfl rfl rfl rfl ?_ ?_ | refine kS rfl rfl rfl ?_ ?_) <;> intro hc <;> (try simp only [KL, cond_true, cond_false, beq_iff_eq, bne_iff_ne, ne_eq, reduceCtorEq] at hc) <;> (try (have hT : True := hc; clear hT hc)) <;> (try (exfalso; omega))) | apply kT | apply kU | apply kV | apply kW | refine kX rfl ?_ | apply kY | apply kZ)
    exact retn rfl ⟨rfl, .inl ⟨hk2.symm, rfl⟩⟩
  | succ i =>
    refine wle (s' := [(0, .fn (.yield l) [] []), (1, .ref [.lst 2 (L.map eSpan)]), (3, .int .i64 i)]) (h' := outH l r σ0 a false) les leh ?_
    obtain ⟨s, hsi⟩ : ∃ s, L.getD i default = s := ⟨_, rfl⟩
    have e1 : (L.take (i + 1)).reverse = s :: (L.take i).reverse := by
      rw [List.take_succ_eq_append_getElem (by omega), List.reverse_append, ← hsi]
      simp [show i < L.length by omega]
    rw [e1, List.find?_cons] at hk2
    repeat' (first | (show W _ _ _ _ _ _; first | apply kA | refine kB rfl ?_ | refine kC rfl rfl ?_ | refine kD rfl rfl ?_ | apply kE | apply kF | apply kG | apply kH | refine kI (by kernel_rfl) (by kernel_rfl) ?_) | (show O _ _ _ _ _ _ _; first | (show O _ _ _ _ (⟨_, .store _ _ _, _, _, _, _⟩ :: _) _ _; refine kJ rfl rfl rfl rfl rfl rfl rfl rfl rfl rfl rfl ?_) | apply kK) | apply kL | ((first | apply kM | apply kN); (iterate 3 (· exact rfl)); (· first | (show Y _ ⟨_, .indexAddr _ _ _, _, _, _, _⟩ _ _ _; first | exact Y.mk (ok_indexE (hsi) rfl rfl rfl rfl rfl (by omega))) | exact ya)) | refine kO rfl rfl rfl rfl rfl ?_ | refine kP rfl rfl rfl ?_ | ((first | refine kQ rfl rfl ?_ ?_ | refine kR rfl rfl rfl rfl rfl ?_ ?_ | refine kS rfl rfl rfl ?_ ?_) <;> intro hc <;> (try simp only [KL, cond_true, cond_false, beq_iff_eq, bne_iff_ne, ne_eq, reduceCtorEq] at hc) <;> (try (have hT : True := hc; clear hT hc)) <;> (try (exfalso; omega))) | apply kT | apply kU | apply kV | apply kW | refine kX rfl ?_ | apply kY | apply kZ)
    all_goals first | (exfalso; omega) | skip
    refine ycall (fun i => i) (pouter_rd l r σ0 pins pc part s a i hr hpd hab hk hs) (fun p hp => hp) hp5 rfl rfl rfl rfl leh rfl rfl rfl rfl rfl rfl (fun r1 h' hR => ?_)
    rw [hrd] at hR
    rcases hR with ⟨rfl, h4, rfl⟩ | ⟨rfl, h4, rfl⟩
    · rw [h4] at hk2
      refine ⟨rfl, ?_⟩
      refine ole (h' := outH l r σ0 a false) (LeS.refl _) leh ?_
      repeat' (first | (show W _ _ _ _ _ _; first | apply kA | refine kB rfl ?_ | refine kC rfl rfl ?_ | refine kD rfl rfl ?_ | apply kE | apply kF | apply kG | apply kH | refine kI (by kernel_rfl) (by kernel_rfl) ?_) | (show O _ _ _ _ _ _ _; first | (show O _ _ _ _ (⟨_, .store _ _ _, _, _, _, _⟩ :: _) _ _; refine kJ rfl rfl rfl rfl rfl rfl rfl rfl rfl rfl rfl ?_) | apply kK) | apply kL | ((first | apply kM | apply kN); (iterate 3 (· exact rfl)); (· first | exact ya)) | refine kO rfl rfl rfl rfl rfl ?_ | refine kP rfl rfl rfl ?_ | ((first | refine kQ rfl rfl ?_ ?_ | refine kR rfl rfl rfl rfl rfl ?_ ?_ | refine kS rfl rfl rfl ?_ ?_) <;> intro hc <;> (try simp only [KL, cond_true, cond_false, beq_iff_eq, bne_iff_ne, ne_eq, reduceCtorEq] at hc) <;> (try (have hT : True := hc; clear hT hc)) <;> (try (exfalso; omega))) | apply kT | apply kU | apply kV | apply kW | refine kX rfl ?_ | apply kY | apply kZ)
      exact ⟨i, ⟨by omega, hk2⟩, by omega, les, leh⟩
    · rw [h4] at hk2
      refine ⟨rfl, ?_⟩
      refine ole (h' := outH l { r with state := .done, pending := some .ret } σ0 s true) (LeS.refl _) leh ?_
      repeat' (first | (show W _ _ _ _ _ _; first | apply kA | refine kB rfl ?_ | refine kC rfl rfl ?_ | refine kD rfl rfl ?_ | apply kE | apply kF | apply kG | apply kH | refine kI (by kernel_rfl) (by kernel_rfl) ?_) | (show O _ _ _ _ _ _ _; first | (show O _ _ _ _ (⟨_, .store _ _ _, _, _, _, _⟩ :: _) _ _; refine kJ rfl rfl rfl rfl rfl rfl rfl rfl rfl rfl rfl ?_) | apply kK) | apply kL | ((first | apply kM | apply kN); (iterate 3 (· exact rfl)); (· first | exact ya)) | refine kO rfl rfl rfl rfl rfl ?_ | refine kP rfl rfl rfl ?_ | ((first | refine kQ rfl rfl ?_ ?_ | refine kR rfl rfl rfl rfl rfl ?_ ?_ | refine kS rfl rfl rfl ?_ ?_) <;> intro hc <;> (try simp only [KL, cond_true, cond_false, beq_iff_eq, bne_iff_ne, ne_eq, reduceCtorEq] at hc) <;> (try (have hT : True := hc; clear hT hc)) <;> (try (exfalso; omega))) | apply kT | apply kU | apply kV | apply kW | refine kX rfl ?_ | apply kY | apply kZ)
      exact retn rfl ⟨rfl, .inr ⟨s, hk2.symm, rfl⟩⟩
theorem pouter_fn (p : List Instr) (pc : Int) (part : Span) (hn : (loopsL p).length ≤ 1000000) : Fn Try.prog 89 [.ref (cA' p), .int .i64 pc, .agg (eSpan part)] (.tup [.agg (eSpan (outS (loopsL p) pc part)), .bool (outL (loopsL p) pc part).isSome]) := by
  refine fnm Try.func89 (entered_of (by kernel_rfl)) rfl rfl rfl ?_
  generalize hL : loopsL p = L at *
  rw [cA', hL]
  repeat' (first | (show M _ _ _ _ _ _; first | refine mseq ?_ | refine mregion (fun _ => ?_) | refine mcondT rfl rfl ?_ | refine mcondF rfl rfl ?_ | refine mblock ?_ | refine mskip ?_ | refine mexit ?_ | refine mret ?_) | (show W _ _ _ _ _ _; first | apply kA | refine kB rfl ?_ | refine kC rfl rfl ?_ | refine kD rfl rfl ?_ | apply kE | apply kF | apply kG | apply kH | refine kI (by kernel_rfl) (by kernel_rfl) ?_) | (show O _ _ _ _ _ _ _; first | (show O _ _ _ _ (⟨_, .alloc _, _, _, _, _⟩ :: _) _ _; first | refine ao_alloc (id := 10) rfl rfl rfl rfl rfl rfl rfl ?_ | refine ao_alloc (id := 11) rfl rfl rfl rfl rfl rfl rfl ?_) | (show O _ _ _ _ (⟨_, .store _ _ _, _, _, _, _⟩ :: _) _ _; refine kJ rfl rfl rfl rfl rfl rfl rfl rfl rfl rfl rfl ?_) | apply kK) | apply kL | ((first | apply kM | apply kN); (iterate 3 (· exact rfl)); (· first | (show Y _ ⟨_, .call ⟨.value _, _, _⟩, _, _, _, _⟩ _ _ _; first | exact q_c (backw_fn L) rfl) | exact ya)) | refine kO rfl rfl rfl rfl rfl ?_ | refine kP rfl rfl rfl ?_ | ((first | refine kQ rfl rfl ?_ ?_ | refine mcond rfl rfl ?_ ?_ | refine kR rfl rfl rfl rfl rfl ?_ ?_ | refine kS rfl rfl rfl ?_ ?_) <;> intro hc <;> (try simp only [KL, cond_true, cond_false, beq_iff_eq, bne_iff_ne, ne_eq, reduceCtorEq] at hc) <;> (try (have hT : True := hc; clear hT hc)) <;> (try (exfalso; omega))) | apply kT | apply kU | apply kV | apply kW | refine kX rfl ?_ | apply kY | apply kZ)
  refine mle (s' := [(4, .ref [.int .i64 pc]), (5, .ref (eSpan part)), (6, .ptr 10 0), (7, .ptr 11 0), (14, .fn (.func 132) [] [.ref [.lst 2 (L.map eSpan)]])]) (h' := [(10, .blk 84 (eSpan ⟨0, 0⟩)), (11, .blk 4 [.bool false])]) les leh ?_
  refine mrange ρo (caps0 := [.ref [.lst 2 (L.map eSpan)]]) (s0 := [(4, .ref [.int .i64 pc]), (5, .ref (eSpan part)), (6, .ptr 0 0), (7, .ptr 1 0)]) (hin0 := [(0, .blk 84 (eSpan ⟨0, 0⟩)), (1, .blk 4 [.bool false])]) 21 22
    (R := fun l r v h' => r.state = .ready ∧ r.pending = none ∧ v = .tup [] ∧ ∃ σ0, ((outL L pc part = none ∧ h' = outH l r σ0 ⟨0, 0⟩ false) ∨ ∃ s, outL L pc part = some s ∧ h' = outH l { r with state := .done, pending := some .ret } σ0 s true))
    rfl rfl rfl rfl (fun _ _ => rfl) (fun _ _ _ => leh) rfl rfl rfl (fun _ _ _ => rfl) les rfl (fun l r σ0 pins q1 q2 q3 q4 q5 q6 q7 q8 => ?_) (fun l r σ0 v h' hR => ?_) rfl
  · exact fnhp_mono (pouter_it L pc part ⟨0, 0⟩ hn l r σ0 pins q1 q2 (by rw [q3, q4, q5]; rfl) q6 q7 q8) fun v h' ⟨e1, e2⟩ => ⟨q1, q2, e1, σ0, e2⟩
  · obtain ⟨q1, q2, rfl, σ1, ⟨h1, rfl⟩ | ⟨s, h1, rfl⟩⟩ := hR
    · refine ⟨rfl, r, rfl, by rw [q1]; simp, fun _ => ?_, fun c e => by rw [q2] at e; cases e⟩
      rw [outS, h1]
      refine nIn (nThen ?_)
      refine mle (s' := [(6, .ptr 10 0), (7, .ptr 11 0)]) (h' := [(10, .blk 84 (eSpan ⟨0, 0⟩)), (11, .blk 4 [.bool false])]) les leh ?_
      repeat' (first | (show M _ _ _ _ _ _; first | refine mseq ?_ | refine mregion (fun _ => ?_) | refine mcondT rfl rfl ?_ | refine mcondF rfl rfl ?_ | refine mblock ?_ | refine mskip ?_ | refine mexit ?_ | refine mret ?_) | (show W _ _ _ _ _ _; first | apply kA | refine kB rfl ?_ | refine kC rfl rfl ?_ | refine kD rfl rfl ?_ | apply kE | apply kF | apply kG | apply kH | refine kI (by kernel_rfl) (by kernel_rfl) ?_) | (show O _ _ _ _ _ _ _; first | (show O _ _ _ _ (⟨_, .store _ _ _, _, _, _, _⟩ :: _) _ _; refine kJ rfl rfl rfl rfl rfl rfl rfl rfl rfl rfl rfl ?_) | apply kK) | apply kL | ((first | apply kM | apply kN); (iterate 3 (· exact rfl)); (· first | exact ya)) | refine kO rfl rfl rfl rfl rfl ?_ | refine kP rfl rfl rfl ?_ | ((first | refine kQ rfl rfl ?_ ?_ | refine mcond rfl rfl ?_ ?_ | refine kR rfl rfl rfl rfl rfl ?_ ?_ | refine kS rfl rfl rfl ?_ ?_) <;> intro hc <;> (try simp only [KL, cond_true, cond_false, beq_iff_eq, bne_iff_ne, ne_eq, reduceCtorEq] at hc) <;> (try (have hT : True := hc; clear hT hc)) <;> (try (exfalso; omega))) | apply kT | apply kU | apply kV | apply kW | refine kX rfl ?_ | apply kY | apply kZ)
      exact retq rfl rfl
    · refine ⟨rfl, { r with state := .done, pending := some .ret }, rfl, by simp, fun e => by simp at e, fun c e => ?_⟩
      injection e with e
      subst e
      rw [outS, h1]
      refine mret (rIn (rThen ?_))
      exact retq rfl rfl
theorem capW_plus (v u : GW Nat) : capW (cntR.plus v u) = ⟨addI (capW v).thr (capW u).thr, addI (capW v).fin (capW u).fin⟩ := by
  rw [capW, capW, capW, kap_add, kap_add]; rfl
def sumL (f : Nat → GW Nat) (l : List Int) : GW Nat := l.foldl (fun o x => cntR.plus o (f x.toNat)) cntR.nil
theorem sumL_eq (f : Nat → GW Nat) : ∀ (l : List Int) (o : GW Nat), l.foldl (fun o x => cntR.plus o (f x.toNat)) o = cntR.plus o (sumG cntR f l)
  | [], o => by rw [sumG, List.foldl_nil, List.foldr_nil, SR.plus, SR.nil, cntR.add_zero, cntR.add_zero]
  | x :: l, o => by
    have e : sumG cntR f (x :: l) = cntR.plus (f x.toNat) (sumG cntR f l) := rfl
    rw [List.foldl_cons, sumL_eq f l, e]
    unfold SR.plus
    simp only [cntR.add_assoc]
theorem sumL_sum (f : Nat → GW Nat) (l : List Int) : sumL f l = sumG cntR f l := by
  rw [sumL, sumL_eq]
  unfold SR.plus SR.nil
  simp only [SR.zero_add]
theorem sumL_next (f : Nat → GW Nat) (l : List Int) (k : Nat) (h : k < l.length) : sumL f (l.take (k + 1)) = cntR.plus (sumL f (l.take k)) (f (l.getD k default).toNat) := by
  have e : l.getD k default = l[k] := by rw [List.getD_eq_getElem?_getD, List.getElem?_eq_getElem h]; rfl
  rw [sumL, sumL, List.take_succ_eq_append_getElem h, List.foldl_append, List.foldl_cons, List.foldl_nil, e]
abbrev vC (p : List Instr) (P : Span) (pc : Nat) : GW Nat := VG cntR (fun _ => 1) p P pc
structure PtI (p : List Instr) (part : Span) (k : Nat) (l : List Way) : Prop where
  len : l.length = p.length + 1
  done : ∀ q : Nat, part.to - k < q → (q : Int) ≤ part.to → l.getD q default = capW (vC p part q)
  zero : ∀ q : Nat, (q : Int) ≤ part.to - k → l.getD q default = ⟨0, 0⟩
theorem PtI.next {p : List Instr} {part : Span} {k : Nat} {l : List Way} (h : PtI p part k l) {pc : Nat} (hpc : (pc : Int) = part.to - k) (hlt : pc < p.length) : PtI p part (k + 1) (l.set pc (capW (vC p part pc))) := by
  refine ⟨by rw [List.length_set]; exact h.len, fun q h1 h2 => ?_, fun q h1 => ?_⟩
  · rw [getD_setG]
    by_cases e : pc = q
    · subst e; rw [if_pos ⟨rfl, by rw [h.len]; omega⟩]
    · rw [if_neg (fun hh => e hh.1)]; exact h.done q (by omega) h2
  · rw [getD_setG, if_neg (by omega)]; exact h.zero q (by omega)
set_option maxHeartbeats 4000000 in
theorem ppart_fn (p : List Instr) (hf : fineB p = true) (hn : ∀ i, 0 ≤ (p.getD i default).n) :
    ∀ (f : Nat) (part : Span), isPart p part → sizeS part ≤ f → Fn Try.prog 61 [.ref (cA' p), .agg (eSpan part)] (.agg (eWy (capW (vC p part part.frm.toNat)))) := by
  have hfp := fine_inv hf
  have hmost := hfp.most
  have hll : (loopsL p).length ≤ 64 := Nat.le_trans (loopsTo_len p p.length) hmost
  intro f
  induction f with
  | zero =>
    intro part hp hs
    have := part_sound hfp hn hp
    unfold sizeS at hs; omega
  | succ f ih =>
  intro part hp hs
  have hso := part_sound hfp hn hp
  have hsz : (sizeS part : Int) = part.to + 1 - part.frm := by unfold sizeS; omega
  refine fnb Try.func61 (entered_of (by kernel_rfl)) rfl rfl rfl ?_
  repeat' (first | (show W _ _ _ _ _ _; first | apply kA | refine kB rfl ?_ | refine kC rfl rfl ?_ | refine kD rfl rfl ?_ | apply kE | apply kF | apply kG | apply kH | refine kI (by kernel_rfl) (by kernel_rfl) ?_ | apply wscope | apply wlabel) | (show O _ _ _ _ _ _ _; first | (show O _ _ _ _ (⟨_, .alloc _, _, _, _, _⟩ :: _) _ _; first | refine ao_alloc (id := 20) rfl rfl rfl rfl rfl rfl rfl ?_) | (show O _ _ _ _ (⟨_, .store _ _ _, _, _, _, _⟩ :: _) _ _; refine kJ rfl rfl rfl rfl rfl rfl rfl rfl rfl rfl rfl ?_) | apply kK) | apply kL | ((first | apply kM | apply kN); (iterate 3 (· exact rfl)); (· first | exact ya)) | refine kO rfl rfl rfl rfl rfl ?_ | refine kP rfl rfl rfl ?_ | ((first | refine kQ rfl rfl ?_ ?_ | refine kR rfl rfl rfl rfl rfl ?_ ?_ | refine kS rfl rfl rfl ?_ ?_) <;> intro hc <;> (try simp only [KL, cond_true, cond_false, beq_iff_eq, bne_iff_ne, ne_eq, reduceCtorEq] at hc) <;> (try (have hT : True := hc; clear hT hc)) <;> (try (exfalso; omega))) | apply kT | apply kU | apply kV | apply kW | refine kX rfl ?_ | apply kY | apply kZ | apply rSc | apply nSc)
  refine ole (s' := [(0, .ref (cA' p)), (3, .ref (eSpan part)), (4, .ptr 20 0), (17, .int .i64 ((p.length + 1 : Nat) : Int))]) (h' := [(20, .blk 106 (eWy ⟨0, 0⟩))]) les leh ?_
  (refine ao_mk (f := eWy) (d := (⟨0, 0⟩ : Way)) (id := 11) (by_ := 16) (sz := 2) rfl rfl rfl rfl rfl rfl rfl rfl rfl rfl ?_ ?_ rfl rfl rfl rfl ?_; (· omega); (· omega))
  repeat' (first | (show W _ _ _ _ _ _; first | apply kA | refine kB rfl ?_ | refine kC rfl rfl ?_ | refine kD rfl rfl ?_ | apply kE | apply kF | apply kG | apply kH | refine kI (by kernel_rfl) (by kernel_rfl) ?_ | apply wscope | apply wlabel) | (show O _ _ _ _ _ _ _; first | (show O _ _ _ _ (⟨_, .store _ _ _, _, _, _, _⟩ :: _) _ _; refine kJ rfl rfl rfl rfl rfl rfl rfl rfl rfl rfl rfl ?_) | apply kK) | apply kL | ((first | apply kM | apply kN); (iterate 3 (· exact rfl)); (· first | exact ya)) | refine kO rfl rfl rfl rfl rfl ?_ | refine kP rfl rfl rfl ?_ | ((first | refine kQ rfl rfl ?_ ?_ | refine kR rfl rfl rfl rfl rfl ?_ ?_ | refine kS rfl rfl rfl ?_ ?_) <;> intro hc <;> (try simp only [KL, cond_true, cond_false, beq_iff_eq, bne_iff_ne, ne_eq, reduceCtorEq] at hc) <;> (try (have hT : True := hc; clear hT hc)) <;> (try (exfalso; omega))) | apply kT | apply kU | apply kV | apply kW | refine kX rfl ?_ | apply kY | apply kZ | apply rSc | apply nSc)
  all_goals first | (exfalso; omega) | skip
  refine wloop (fun x : Nat × List Way => ([(0, .ref (cA' p)), (3, .ref (eSpan part)), (4, .ptr 20 0), (5, .own 11), (6, .int .i64 (part.to - x.1))], [(20, .blk 106 (eWy ⟨0, 0⟩)), (11, .row 106 2 (x.2.map eWy))])) (fun x => x.1 ≤ sizeS part ∧ PtI p part x.1 x.2) (fun x => sizeS part - x.1) (0, List.replicate (p.length + 1) ⟨0, 0⟩) ⟨Nat.zero_le _, ⟨List.length_replicate, fun q h1 h2 => by omega, fun q h1 => by rw [getD_rep, if_pos (by omega)]⟩⟩ les leh (fun x hx => ?_)
  obtain ⟨k, at_⟩ := x
  obtain ⟨hk, hP⟩ := hx
  simp only at hk hP ⊢
  have hal := hP.len
  rcases Nat.lt_or_eq_of_le hk with hkl | hkl
  · obtain ⟨pc, hpc⟩ : ∃ pc : Nat, (pc : Int) = part.to - k := ⟨(part.to - k).toNat, by omega⟩
    have hnx := hP.next hpc (by omega)
    have hz0 := hP.zero pc (by omega)
    refine wle (s' := [(0, .ref (cA' p)), (3, .ref (eSpan part)), (4, .ptr 20 0), (5, .own 11), (6, .int .i64 pc)]) (h' := [(20, .blk 106 (eWy ⟨0, 0⟩)), (11, .row 106 2 (at_.map eWy))]) les leh ?_
    have c1 := pouter_fn p pc part (by omega)
    have hval := VG_eq cntR (fun _ => 1) hfp hn hp (pc := pc) (by omega) (by omega)
    cases ho : outL (loopsL p) pc part with
    | none =>
      rw [outS, ho, Option.getD_none, Option.isSome_none] at c1
      rw [ho] at hval
      simp only at hval
      obtain ⟨x, hx⟩ : ∃ x, p.getD pc default = x := ⟨_, rfl⟩
      unfold nodeG at hval
      rw [hx] at hval
      by_cases h21 : x.op = 21
      · rw [if_pos h21] at hval
        have e : capW (vC p part pc) = ⟨0, 1⟩ := by rw [vC, hval]; rfl
        rw [e] at hnx
        repeat' (first | (show W _ _ _ _ _ _; first | apply kA | refine kB rfl ?_ | refine kC rfl rfl ?_ | refine kD rfl rfl ?_ | apply kE | apply kF | apply kG | apply kH | refine kI (by kernel_rfl) (by kernel_rfl) ?_ | apply wscope | apply wlabel) | (show O _ _ _ _ _ _ _; first | (show O _ _ _ _ (⟨_, .alloc _, _, _, _, _⟩ :: _) _ _; first | refine ao_alloc (id := 21) rfl rfl rfl rfl rfl rfl rfl ?_ | refine ao_alloc (id := 22) rfl rfl rfl rfl rfl rfl rfl ?_) | (show O _ _ _ _ (⟨_, .store _ _ _, _, _, _, _⟩ :: _) _ _; refine kJ rfl rfl rfl rfl rfl rfl rfl rfl rfl rfl rfl ?_) | apply kK) | apply kL | ((first | apply kM | apply kN); (iterate 3 (· exact rfl)); (· first | (show Y _ ⟨_, .indexAddr _ _ _, _, _, _, _⟩ _ _ _; first | exact Y.mk (ok_indexE (hx) rfl rfl rfl rfl rfl (by omega))) | (show Y _ ⟨_, .call ⟨.value _, _, _⟩, _, _, _, _⟩ _ _ _; first | exact q_c (c1) rfl) | exact ya)) | refine kO rfl rfl rfl rfl rfl ?_ | refine kP rfl rfl rfl ?_ | ((first | refine kQ rfl rfl ?_ ?_ | refine kR rfl rfl rfl rfl rfl ?_ ?_ | refine kS rfl rfl rfl ?_ ?_) <;> intro hc <;> (try simp only [KL, cond_true, cond_false, beq_iff_eq, bne_iff_ne, ne_eq, reduceCtorEq] at hc) <;> (try (have hT : True := hc; clear hT hc)) <;> (try (exfalso; omega))) | apply kT | apply kU | apply kV | apply kW | refine kX rfl ?_ | apply kY | apply kZ | apply rSc | apply nSc)
        all_goals first | (exfalso; omega) | skip
        (refine ao_se (x' := (⟨0, 1⟩ : Way)) rfl rfl rfl rfl rfl rfl rfl rfl rfl ?_ rfl rfl rfl ?_; (· (first | omega | ((try simp only [List.length_set, List.length_cons, List.length_nil, List.length_append, List.length_map]) <;> omega))))
        repeat' (first | (show W _ _ _ _ _ _; first | apply kA | refine kB rfl ?_ | refine kC rfl rfl ?_ | refine kD rfl rfl ?_ | apply kE | apply kF | apply kG | apply kH | refine kI (by kernel_rfl) (by kernel_rfl) ?_ | apply wscope | apply wlabel) | (show O _ _ _ _ _ _ _; first | (show O _ _ _ _ (⟨_, .store _ _ _, _, _, _, _⟩ :: _) _ _; refine kJ rfl rfl rfl rfl rfl rfl rfl rfl rfl rfl rfl ?_) | apply kK) | apply kL | ((first | apply kM | apply kN); (iterate 3 (· exact rfl)); (· first | exact ya)) | refine kO rfl rfl rfl rfl rfl ?_ | refine kP rfl rfl rfl ?_ | ((first | refine kQ rfl rfl ?_ ?_ | refine kR rfl rfl rfl rfl rfl ?_ ?_ | refine kS rfl rfl rfl ?_ ?_) <;> intro hc <;> (try simp only [KL, cond_true, cond_false, beq_iff_eq, bne_iff_ne, ne_eq, reduceCtorEq] at hc) <;> (try (have hT : True := hc; clear hT hc)) <;> (try (exfalso; omega))) | apply kT | apply kU | apply kV | apply kW | refine kX rfl ?_ | apply kY | apply kZ | apply rSc | apply nSc)
        exact ⟨(k + 1, at_.set pc ⟨0, 1⟩), ⟨by simp only; omega, hnx⟩, by simp only; omega, les, leh⟩
      rw [if_neg h21] at hval
      by_cases h16 : x.op = 16
      · rw [if_pos h16] at hval
        have e : capW (vC p part pc) = ⟨1, 0⟩ := by rw [vC, hval]; rfl
        rw [e] at hnx
        repeat' (first | (show W _ _ _ _ _ _; first | apply kA | refine kB rfl ?_ | refine kC rfl rfl ?_ | refine kD rfl rfl ?_ | apply kE | apply kF | apply kG | apply kH | refine kI (by kernel_rfl) (by kernel_rfl) ?_ | apply wscope | apply wlabel) | (show O _ _ _ _ _ _ _; first | (show O _ _ _ _ (⟨_, .alloc _, _, _, _, _⟩ :: _) _ _; first | refine ao_alloc (id := 21) rfl rfl rfl rfl rfl rfl rfl ?_ | refine ao_alloc (id := 22) rfl rfl rfl rfl rfl rfl rfl ?_) | (show O _ _ _ _ (⟨_, .store _ _ _, _, _, _, _⟩ :: _) _ _; refine kJ rfl rfl rfl rfl rfl rfl rfl rfl rfl rfl rfl ?_) | apply kK) | apply kL | ((first | apply kM | apply kN); (iterate 3 (· exact rfl)); (· first | (show Y _ ⟨_, .indexAddr _ _ _, _, _, _, _⟩ _ _ _; first | exact Y.mk (ok_indexE (hx) rfl rfl rfl rfl rfl (by omega))) | (show Y _ ⟨_, .call ⟨.value _, _, _⟩, _, _, _, _⟩ _ _ _; first | exact q_c (c1) rfl) | exact ya)) | refine kO rfl rfl rfl rfl rfl ?_ | refine kP rfl rfl rfl ?_ | ((first | refine kQ rfl rfl ?_ ?_ | refine kR rfl rfl rfl rfl rfl ?_ ?_ | refine kS rfl rfl rfl ?_ ?_) <;> intro hc <;> (try simp only [KL, cond_true, cond_false, beq_iff_eq, bne_iff_ne, ne_eq, reduceCtorEq] at hc) <;> (try (have hT : True := hc; clear hT hc)) <;> (try (exfalso; omega))) | apply kT | apply kU | apply kV | apply kW | refine kX rfl ?_ | apply kY | apply kZ | apply rSc | apply nSc)
        all_goals first | (exfalso; omega) | skip
        (refine ao_se (x' := (⟨1, 0⟩ : Way)) rfl rfl rfl rfl rfl rfl rfl rfl rfl ?_ rfl rfl rfl ?_; (· (first | omega | ((try simp only [List.length_set, List.length_cons, List.length_nil, List.length_append, List.length_map]) <;> omega))))
        repeat' (first | (show W _ _ _ _ _ _; first | apply kA | refine kB rfl ?_ | refine kC rfl rfl ?_ | refine kD rfl rfl ?_ | apply kE | apply kF | apply kG | apply kH | refine kI (by kernel_rfl) (by kernel_rfl) ?_ | apply wscope | apply wlabel) | (show O _ _ _ _ _ _ _; first | (show O _ _ _ _ (⟨_, .store _ _ _, _, _, _, _⟩ :: _) _ _; refine kJ rfl rfl rfl rfl rfl rfl rfl rfl rfl rfl rfl ?_) | apply kK) | apply kL | ((first | apply kM | apply kN); (iterate 3 (· exact rfl)); (· first | exact ya)) | refine kO rfl rfl rfl rfl rfl ?_ | refine kP rfl rfl rfl ?_ | ((first | refine kQ rfl rfl ?_ ?_ | refine kR rfl rfl rfl rfl rfl ?_ ?_ | refine kS rfl rfl rfl ?_ ?_) <;> intro hc <;> (try simp only [KL, cond_true, cond_false, beq_iff_eq, bne_iff_ne, ne_eq, reduceCtorEq] at hc) <;> (try (have hT : True := hc; clear hT hc)) <;> (try (exfalso; omega))) | apply kT | apply kU | apply kV | apply kW | refine kX rfl ?_ | apply kY | apply kZ | apply rSc | apply nSc)
        exact ⟨(k + 1, at_.set pc ⟨1, 0⟩), ⟨by simp only; omega, hnx⟩, by simp only; omega, les, leh⟩
      rw [if_neg h16, ← sumL_sum] at hval
      have e : capW (vC p part pc) = capW (sumL (vC p part) (nextL p pc)) := by
        rw [vC, hval, SR.scale]
        simp only [cntR, Nat.one_mul]
        rfl
      rw [e] at hnx
      have c2 := Next_fn p pc (by omega)
      rw [nextF_fine hf (by omega)] at c2
      have hup : ∀ y ∈ nextL p pc, ∃ j : Nat, y = j ∧ pc < j ∧ (j : Int) ≤ part.to := fun y hy => by
        obtain ⟨j, rfl, q1, q2, q3⟩ := next_up hfp hn (by omega) (by rw [hx]; exact h16) hy
        obtain ⟨q4, q5⟩ := next_in hfp hn hp (by omega) (by omega) ho (by rw [hx]; exact h16) q1 q2 q3
        exact ⟨j, rfl, q1, q4⟩
      have hlen := next_len p pc
      have hdn := fun (j : Nat) h1 h2 => hP.done j h1 h2
      clear hval e hP
      generalize nextL p pc = nl at *
      repeat' (first | (show W _ _ _ _ _ _; first | apply kA | refine kB rfl ?_ | refine kC rfl rfl ?_ | refine kD rfl rfl ?_ | apply kE | apply kF | apply kG | apply kH | refine kI (by kernel_rfl) (by kernel_rfl) ?_ | apply wscope | apply wlabel) | (show O _ _ _ _ _ _ _; first | (show O _ _ _ _ (⟨_, .alloc _, _, _, _, _⟩ :: _) _ _; first | refine ao_alloc (id := 21) rfl rfl rfl rfl rfl rfl rfl ?_ | refine ao_alloc (id := 22) rfl rfl rfl rfl rfl rfl rfl ?_) | (show O _ _ _ _ (⟨_, .store _ _ _, _, _, _, _⟩ :: _) _ _; refine kJ rfl rfl rfl rfl rfl rfl rfl rfl rfl rfl rfl ?_) | apply kK) | apply kL | ((first | apply kM | apply kN); (iterate 3 (· exact rfl)); (· first | (show Y _ ⟨_, .indexAddr _ _ _, _, _, _, _⟩ _ _ _; first | exact Y.mk (ok_indexE (hx) rfl rfl rfl rfl rfl (by omega))) | (show Y _ ⟨_, .call ⟨.value _, _, _⟩, _, _, _, _⟩ _ _ _; first | exact q_c (c1) rfl | exact q_c (c2) rfl) | exact ya)) | refine kO rfl rfl rfl rfl rfl ?_ | refine kP rfl rfl rfl ?_ | ((first | refine kQ rfl rfl ?_ ?_ | refine kR rfl rfl rfl rfl rfl ?_ ?_ | refine kS rfl rfl rfl ?_ ?_) <;> intro hc <;> (try simp only [KL, cond_true, cond_false, beq_iff_eq, bne_iff_ne, ne_eq, reduceCtorEq] at hc) <;> (try (have hT : True := hc; clear hT hc)) <;> (try (exfalso; omega))) | apply kT | apply kU | apply kV | apply kW | refine kX rfl ?_ | apply kY | apply kZ | apply rSc | apply nSc)
      all_goals first | (exfalso; omega) | skip
      refine wloop (fun i : Nat => ([(0, .ref (cA' p)), (3, .ref (eSpan part)), (4, .ptr 20 0), (5, .own 11), (6, .int .i64 pc), (89, .lst 1 (nl.map eI)), (90, .int .i64 nl.length), (91, .int .i64 i)], [(11, .row 106 2 ((at_.set pc (capW (sumL (vC p part) (nl.take i)))).map eWy)), (20, .blk 106 (eWy ⟨0, 0⟩))])) (fun i => i ≤ nl.length) (fun i => nl.length - i) 0 (Nat.zero_le _) les (by
        have e0 : at_.set pc (capW (sumL (vC p part) (nl.take 0))) = at_ := set_same (d := default) (by rw [hz0]; rfl)
        simp only [e0]; exact leh) (fun i hi => ?_)
      rcases Nat.lt_or_eq_of_le hi with hil | hil
      · have hsn := sumL_next (vC p part) nl i hil
        obtain ⟨j, hj1, hj2, hj3⟩ := hup _ (getD_mem hil)
        rw [hj1, Int.toNat_natCast] at hsn
        have hcp := capW_plus (sumL (vC p part) (nl.take i)) (vC p part j)
        rw [← hsn, ← hdn j (by omega) hj3] at hcp
        generalize capW (sumL (vC p part) (nl.take i)) = o at *
        have a1 : (at_.set pc o).getD pc default = o := by rw [getD_setG, if_pos ⟨rfl, by omega⟩]
        obtain ⟨z, hz⟩ : ∃ z, at_.getD j default = z := ⟨_, rfl⟩
        have a2 : (at_.set pc o).getD j default = z := by rw [getD_setG, if_neg (by omega), hz]
        rw [hz] at hcp
        have a3 : (at_.set pc o).length = p.length + 1 := by rw [List.length_set]; exact hal
        have a4 : ∀ v, (at_.set pc o).set pc v = at_.set pc v := fun v => List.set_set _
        generalize at_.set pc o = at1 at *
        repeat' (first | (show W _ _ _ _ _ _; first | apply kA | refine kB rfl ?_ | refine kC rfl rfl ?_ | refine kD rfl rfl ?_ | apply kE | apply kF | apply kG | apply kH | apply wscope | apply wlabel) | (show O _ _ _ _ _ _ _; first | (show O _ _ _ _ (⟨_, .store _ _ _, _, _, _, _⟩ :: _) _ _; refine kJ rfl rfl rfl rfl rfl rfl rfl rfl rfl rfl rfl ?_) | apply kK) | apply kL | ((first | apply kM | apply kN); (iterate 3 (· exact rfl)); (· first | (show Y _ ⟨_, .indexAddr _ _ _, _, _, _, _⟩ _ _ _; first | exact Y.mk (ok_indexE (hj1) rfl rfl rfl rfl rfl (by omega))) | exact ya)) | refine kO rfl rfl rfl rfl rfl ?_ | refine kP rfl rfl rfl ?_ | ((first | refine kQ rfl rfl ?_ ?_ | refine kR rfl rfl rfl rfl rfl ?_ ?_ | refine kS rfl rfl rfl ?_ ?_) <;> intro hc <;> (try simp only [KL, cond_true, cond_false, beq_iff_eq, bne_iff_ne, ne_eq, reduceCtorEq] at hc) <;> (try (have hT : True := hc; clear hT hc)) <;> (try (exfalso; omega))) | apply kT | apply kU | apply kV | apply kW | refine kX rfl ?_ | apply kY | apply kZ | apply rSc | apply nSc)
        all_goals first | (exfalso; omega) | skip
        refine wle (s' := [(0, .ref (cA' p)), (3, .ref (eSpan part)), (4, .ptr 20 0), (5, .own 11), (6, .int .i64 pc), (11, .int .i64 (j : Int)), (89, .lst 1 (nl.map eI)), (90, .int .i64 nl.length), (91, .int .i64 i)]) (h' := [(11, .row 106 2 (at1.map eWy)), (20, .blk 106 (eWy ⟨0, 0⟩))]) les leh ?_
        have b1 : (at1.set pc (⟨addI o.thr z.thr, (at1.getD pc default).fin⟩ : Way)).getD pc default = ⟨addI o.thr z.thr, o.fin⟩ := by rw [getD_setG, if_pos ⟨rfl, by omega⟩, a1]
        have b2 : (at1.set pc (⟨addI o.thr z.thr, (at1.getD pc default).fin⟩ : Way)).getD j default = z := by rw [getD_setG, if_neg (by omega), a2]
        have b3 : (at1.set pc (⟨addI o.thr z.thr, (at1.getD pc default).fin⟩ : Way)).length = p.length + 1 := by rw [List.length_set]; exact a3
        have b4 : ∀ v, (at1.set pc (⟨addI o.thr z.thr, (at1.getD pc default).fin⟩ : Way)).set pc v = at1.set pc v := fun v => List.set_set _
        repeat' (first | (show W _ _ _ _ _ _; first | refine wdrawS rfl (by kernel_rfl) (by kernel_rfl) (by kernel_rfl) ?_ | apply kA | refine kB rfl ?_ | refine kC rfl rfl ?_ | refine kD rfl rfl ?_ | apply kE | apply kF | apply kG | apply kH | refine kI (by kernel_rfl) (by kernel_rfl) ?_ | apply wscope | apply wlabel) | (show O _ _ _ _ _ _ _; first | (show O _ _ _ _ (⟨_, .store _ _ _, _, _, _, _⟩ :: _) _ _; refine kJ rfl rfl rfl rfl rfl rfl rfl rfl rfl rfl rfl ?_) | apply kK) | apply kL | ((first | apply kM | apply kN); (iterate 3 (· exact rfl)); (· first | (show Y _ ⟨_, .indexAddr _ _ _, _, _, _, _⟩ _ _ _; first | exact q_ioE (pc) rfl rfl rfl rfl rfl rfl (by omega) (by omega) | exact q_ioE (j) rfl rfl rfl rfl rfl rfl (by omega) (by omega)) | (show Y _ ⟨_, .load _ _, _, _, _, _⟩ _ _ _; first | exact q_pE' a1 | exact q_pE' a2 | exact q_pE' b1 | exact q_pE' b2) | (show Y _ ⟨_, .call ⟨.value _, _, _⟩, _, _, _, _⟩ _ _ _; first | exact q_c (kAdd_fn _ _) rfl) | exact ya)) | (show F _ _ _ _ _ _ _ _ _ _ _; first | refine fnil ?_ | (apply f_ld; (· exact rfl); (· exact rfl); (· first | exact q_pE' a1 | exact q_pE' a2 | exact q_pE' b1 | exact q_pE' b2 | exact yp)) | refine f_se (x' := (⟨addI o.thr z.thr, (at1.getD pc default).fin⟩ : Way)) rfl rfl rfl rfl rfl rfl rfl rfl rfl (by (first | rfl | omega | (simp only [List.length_set]; omega) | simp only [List.length_set])) (by (first | rfl | omega | (simp only [List.length_set]; omega) | simp only [List.length_set])) ?_ | refine f_se (x' := (⟨((at1.set pc (⟨addI o.thr z.thr, (at1.getD pc default).fin⟩ : Way)).getD pc default).thr, addI o.fin z.fin⟩ : Way)) rfl rfl rfl rfl rfl rfl rfl rfl rfl (by (first | rfl | omega | (simp only [List.length_set]; omega) | simp only [List.length_set])) (by (first | rfl | omega | (simp only [List.length_set]; omega) | simp only [List.length_set])) ?_ | (apply f_k; (· exact rfl); (· intro y' hy'; first | (show Y _ ⟨_, .indexAddr _ _ _, _, _, _, _⟩ _ _ _; first | exact q_ioE (pc) rfl rfl rfl rfl rfl rfl (by omega) (by omega) | exact q_ioE (j) rfl rfl rfl rfl rfl rfl (by omega) (by omega)) | (show Y _ ⟨_, .load _ _, _, _, _, _⟩ _ _ _; first | exact q_pE' a1 | exact q_pE' a2 | exact q_pE' b1 | exact q_pE' b2) | (show Y _ ⟨_, .call ⟨.value _, _, _⟩, _, _, _, _⟩ _ _ _; first | exact q_c (kAdd_fn _ _) rfl) | exact ya))) | refine kO rfl rfl rfl rfl rfl ?_ | refine kP rfl rfl rfl ?_ | ((first | refine kQ rfl rfl ?_ ?_ | refine kR rfl rfl rfl rfl rfl ?_ ?_ | refine kS rfl rfl rfl ?_ ?_) <;> intro hc <;> (try simp only [KL, cond_true, cond_false, beq_iff_eq, bne_iff_ne, ne_eq, reduceCtorEq] at hc) <;> (try (have hT : True := hc; clear hT hc)) <;> (try (exfalso; omega))) | apply kT | apply kU | apply kV | apply kW | refine kX rfl ?_ | apply kY | apply kZ | apply rSc | apply nSc)
        all_goals first | (exfalso; omega) | skip
        rw [b1, b4, a4]
        exact ⟨i + 1, by omega, by omega, les, by simp only [hcp]; exact leh⟩
      · subst hil
        rw [List.take_length]
        repeat' (first | (show W _ _ _ _ _ _; first | apply kA | refine kB rfl ?_ | refine kC rfl rfl ?_ | refine kD rfl rfl ?_ | apply kE | apply kF | apply kG | apply kH | refine kI (by kernel_rfl) (by kernel_rfl) ?_ | apply wscope | apply wlabel) | (show O _ _ _ _ _ _ _; first | (show O _ _ _ _ (⟨_, .store _ _ _, _, _, _, _⟩ :: _) _ _; refine kJ rfl rfl rfl rfl rfl rfl rfl rfl rfl rfl rfl ?_) | apply kK) | apply kL | ((first | apply kM | apply kN); (iterate 3 (· exact rfl)); (· first | exact ya)) | refine kO rfl rfl rfl rfl rfl ?_ | refine kP rfl rfl rfl ?_ | ((first | refine kQ rfl rfl ?_ ?_ | refine kR rfl rfl rfl rfl rfl ?_ ?_ | refine kS rfl rfl rfl ?_ ?_) <;> intro hc <;> (try simp only [KL, cond_true, cond_false, beq_iff_eq, bne_iff_ne, ne_eq, reduceCtorEq] at hc) <;> (try (have hT : True := hc; clear hT hc)) <;> (try (exfalso; omega))) | apply kT | apply kU | apply kV | apply kW | refine kX rfl ?_ | apply kY | apply kZ | apply rSc | apply nSc)
        all_goals first | (exfalso; omega) | exact ⟨(k + 1, at_.set pc (capW (sumL (vC p part) nl))), ⟨by simp only; omega, hnx⟩, by simp only; omega, les, leh⟩
    | some s =>
      rw [outS, ho, Option.getD_some, Option.isSome_some] at c1
      rw [ho] at hval
      simp only at hval
      obtain ⟨s1, ⟨s2, s3, s4⟩, s5⟩ := outL_some.1 ho
      have t1 := loop_sound hfp hn s1
      have t2 := in_part hfp hn hp s1 s2
      by_cases hfe : s.frm = pc
      · rw [if_pos hfe] at hval
        have c2 := ih s (.inl s1) (by unfold sizeS at *; omega)
        rw [show s.frm.toNat = pc by omega] at c2
        have t3 := right_back (hfp.right s.to.toNat (by omega)) t1.2.2.2.1
        have ht : (p.getD s.to.toNat default).c = (turnsC p s : Nat) := by rw [turnsC]; omega
        have c3 := prounds_fn (vC p s pc) (vC p part (s.to + 1).toNat) (turnsC p s) (by omega)
        rw [← hP.done (s.to + 1).toNat (by omega) (by omega), ← ht] at c3
        have e : capW (vC p part pc) = capW (cntR.close (vC p s pc) (vC p s pc) (vC p part (s.to + 1).toNat) (turnsC p s)) := by rw [vC, hval]
        rw [e] at hnx
        generalize cntR.close (vC p s pc) (vC p s pc) (vC p part (s.to + 1).toNat) (turnsC p s) = V at *
        repeat' (first | (show W _ _ _ _ _ _; first | apply kA | refine kB rfl ?_ | refine kC rfl rfl ?_ | refine kD rfl rfl ?_ | apply kE | apply kF | apply kG | apply kH | apply wscope | apply wlabel) | (show O _ _ _ _ _ _ _; first | (show O _ _ _ _ (⟨_, .alloc _, _, _, _, _⟩ :: _) _ _; first | refine ao_alloc (id := 21) rfl rfl rfl rfl rfl rfl rfl ?_) | (show O _ _ _ _ (⟨_, .store _ _ _, _, _, _, _⟩ :: _) _ _; refine kJ rfl rfl rfl rfl rfl rfl rfl rfl rfl rfl rfl ?_) | apply kK) | apply kL | ((first | apply kM | apply kN); (iterate 3 (· exact rfl)); (· first | (show Y _ ⟨_, .call ⟨.value _, _, _⟩, _, _, _, _⟩ _ _ _; first | exact q_c (c1) rfl) | exact ya)) | refine kO rfl rfl rfl rfl rfl ?_ | refine kP rfl rfl rfl ?_ | ((first | refine kQ rfl rfl ?_ ?_ | refine kR rfl rfl rfl rfl rfl ?_ ?_ | refine kS rfl rfl rfl ?_ ?_) <;> intro hc <;> (try simp only [KL, cond_true, cond_false, beq_iff_eq, bne_iff_ne, ne_eq, reduceCtorEq] at hc) <;> (try (have hT : True := hc; clear hT hc)) <;> (try (exfalso; omega))) | apply kT | apply kU | apply kV | apply kW | refine kX rfl ?_ | apply kY | apply kZ | apply rSc | apply nSc)
        all_goals first | (exfalso; omega) | skip
        refine wle (s' := [(0, .ref (cA' p)), (3, .ref (eSpan part)), (4, .ptr 20 0), (5, .own 11), (6, .int .i64 pc), (7, .ptr 21 0)]) (h' := [(11, .row 106 2 (at_.map eWy)), (20, .blk 106 (eWy ⟨0, 0⟩)), (21, .blk 84 (eSpan s))]) les leh ?_
        repeat' (first | (show W _ _ _ _ _ _; first | refine wdrawS rfl (by kernel_rfl) (by kernel_rfl) (by kernel_rfl) ?_ | apply kA | refine kB rfl ?_ | refine kC rfl rfl ?_ | refine kD rfl rfl ?_ | apply kE | apply kF | apply kG | apply kH | refine kI (by kernel_rfl) (by kernel_rfl) ?_ | apply wscope | apply wlabel) | (show O _ _ _ _ _ _ _; first | (show O _ _ _ _ (⟨_, .store _ _ _, _, _, _, _⟩ :: _) _ _; refine kJ rfl rfl rfl rfl rfl rfl rfl rfl rfl rfl rfl ?_) | apply kK) | apply kL | ((first | apply kM | apply kN); (iterate 3 (· exact rfl)); (· first | (show Y _ ⟨_, .indexAddr _ _ _, _, _, _, _⟩ _ _ _; first | exact q_ioE (pc) rfl rfl rfl rfl rfl rfl (by omega) (by omega)) | (show Y _ ⟨_, .call ⟨.value _, _, _⟩, _, _, _, _⟩ _ _ _; first | exact q_c (c2) rfl | exact q_c (c3) rfl) | exact ya)) | (show F _ _ _ _ _ _ _ _ _ _ _; first | refine fnil ?_ | (apply f_ld; (· exact rfl); (· exact rfl); (· first | exact yp)) | refine f_se (x' := capW V) rfl rfl rfl rfl rfl rfl rfl rfl rfl (by (first | rfl | omega | (simp only [List.length_set]; omega) | simp only [List.length_set])) (by (first | rfl | omega | (simp only [List.length_set]; omega) | simp only [List.length_set])) ?_ | (apply f_k; (· exact rfl); (· intro y' hy'; first | (show Y _ ⟨_, .indexAddr _ _ _, _, _, _, _⟩ _ _ _; first | exact q_ioE (pc) rfl rfl rfl rfl rfl rfl (by omega) (by omega)) | (show Y _ ⟨_, .call ⟨.value _, _, _⟩, _, _, _, _⟩ _ _ _; first | exact q_c (c2) rfl | exact q_c (c3) rfl) | exact ya))) | refine kO rfl rfl rfl rfl rfl ?_ | refine kP rfl rfl rfl ?_ | ((first | refine kQ rfl rfl ?_ ?_ | refine kR rfl rfl rfl rfl rfl ?_ ?_ | refine kS rfl rfl rfl ?_ ?_) <;> intro hc <;> (try simp only [KL, cond_true, cond_false, beq_iff_eq, bne_iff_ne, ne_eq, reduceCtorEq] at hc) <;> (try (have hT : True := hc; clear hT hc)) <;> (try (exfalso; omega))) | apply kT | apply kU | apply kV | apply kW | refine kX rfl ?_ | apply kY | apply kZ | apply rSc | apply nSc)
        all_goals first | (exfalso; omega) | skip
        exact ⟨(k + 1, at_.set pc (capW V)), ⟨by simp only; omega, hnx⟩, by simp only; omega, les, leh⟩
      · rw [if_neg hfe] at hval
        have e : capW (vC p part pc) = ⟨0, 0⟩ := by rw [vC, hval]; rfl
        rw [e, set_same hz0] at hnx
        repeat' (first | (show W _ _ _ _ _ _; first | apply kA | refine kB rfl ?_ | refine kC rfl rfl ?_ | refine kD rfl rfl ?_ | apply kE | apply kF | apply kG | apply kH | refine kI (by kernel_rfl) (by kernel_rfl) ?_ | apply wscope | apply wlabel) | (show O _ _ _ _ _ _ _; first | (show O _ _ _ _ (⟨_, .alloc _, _, _, _, _⟩ :: _) _ _; first | refine ao_alloc (id := 21) rfl rfl rfl rfl rfl rfl rfl ?_) | (show O _ _ _ _ (⟨_, .store _ _ _, _, _, _, _⟩ :: _) _ _; refine kJ rfl rfl rfl rfl rfl rfl rfl rfl rfl rfl rfl ?_) | apply kK) | apply kL | ((first | apply kM | apply kN); (iterate 3 (· exact rfl)); (· first | (show Y _ ⟨_, .call ⟨.value _, _, _⟩, _, _, _, _⟩ _ _ _; first | exact q_c (c1) rfl) | exact ya)) | refine kO rfl rfl rfl rfl rfl ?_ | refine kP rfl rfl rfl ?_ | ((first | refine kQ rfl rfl ?_ ?_ | refine kR rfl rfl rfl rfl rfl ?_ ?_ | refine kS rfl rfl rfl ?_ ?_) <;> intro hc <;> (try simp only [KL, cond_true, cond_false, beq_iff_eq, bne_iff_ne, ne_eq, reduceCtorEq] at hc) <;> (try (have hT : True := hc; clear hT hc)) <;> (try (exfalso; omega))) | apply kT | apply kU | apply kV | apply kW | refine kX rfl ?_ | apply kY | apply kZ | apply rSc | apply nSc)
        all_goals first | (exfalso; omega) | exact ⟨(k + 1, at_), ⟨by simp only; omega, hnx⟩, by simp only; omega, les, leh⟩
  · subst hkl
    obtain ⟨q, hq⟩ : ∃ q : Nat, part.frm = q := ⟨part.frm.toNat, by omega⟩
    have hd := hP.done q (by omega) (by omega)
    rw [hq, Int.toNat_natCast]
    generalize capW (vC p part q) = V at *
    repeat' (first | (show W _ _ _ _ _ _; first | apply kA | refine kB rfl ?_ | refine kC rfl rfl ?_ | refine kD rfl rfl ?_ | apply kE | apply kF | apply kG | apply kH | refine kI (by kernel_rfl) (by kernel_rfl) ?_ | apply wscope | apply wlabel) | (show O _ _ _ _ _ _ _; first | (show O _ _ _ _ (⟨_, .store _ _ _, _, _, _, _⟩ :: _) _ _; refine kJ rfl rfl rfl rfl rfl rfl rfl rfl rfl rfl rfl ?_) | apply kK) | apply kL | ((first | apply kM | apply kN); (iterate 3 (· exact rfl)); (· first | (show Y _ ⟨_, .indexAddr _ _ _, _, _, _, _⟩ _ _ _; first | exact q_ioE (q) rfl rfl rfl rfl rfl rfl (by omega) (by omega)) | (show Y _ ⟨_, .load _ _, _, _, _, _⟩ _ _ _; first | exact q_pE' hd) | exact ya)) | refine kO rfl rfl rfl rfl rfl ?_ | refine kP rfl rfl rfl ?_ | ((first | refine kQ rfl rfl ?_ ?_ | refine kR rfl rfl rfl rfl rfl ?_ ?_ | refine kS rfl rfl rfl ?_ ?_) <;> intro hc <;> (try simp only [KL, cond_true, cond_false, beq_iff_eq, bne_iff_ne, ne_eq, reduceCtorEq] at hc) <;> (try (have hT : True := hc; clear hT hc)) <;> (try (exfalso; omega))) | apply kT | apply kU | apply kV | apply kW | refine kX rfl ?_ | apply kY | apply kZ | apply rSc | apply nSc)
    all_goals first | (exfalso; omega) | exact retq rfl rfl
theorem pfine_fn (p : List Instr) (hl : p.length ≤ 1000000) : Fn Try.prog 58 [.lst 5 (p.map eInstr)] (.bool (fineB p)) := by
  have c := check_fn p hl
  have e : fineB p = decide ((checkF p).2 = 0) := rfl
  rw [e]
  generalize checkF p = z at *
  refine fnb Try.func58 (entered_of (by kernel_rfl)) rfl rfl rfl ?_
  repeat' (first | (show W _ _ _ _ _ _; first | apply kA | refine kB rfl ?_ | refine kC rfl rfl ?_ | refine kD rfl rfl ?_ | apply kE | apply kF | apply kG | apply kH | refine kI (by kernel_rfl) (by kernel_rfl) ?_) | (show O _ _ _ _ _ _ _; first | (show O _ _ _ _ (⟨_, .store _ _ _, _, _, _, _⟩ :: _) _ _; refine kJ rfl rfl rfl rfl rfl rfl rfl rfl rfl rfl rfl ?_) | apply kK) | apply kL | ((first | apply kM | apply kN); (iterate 3 (· exact rfl)); (· first | (show Y _ ⟨_, .call ⟨.value _, _, _⟩, _, _, _, _⟩ _ _ _; first | exact q_c (c) rfl) | exact ya)) | refine kO rfl rfl rfl rfl rfl ?_ | refine kP rfl rfl rfl ?_ | ((first | refine kQ rfl rfl ?_ ?_ | refine kR rfl rfl rfl rfl rfl ?_ ?_ | refine kS rfl rfl rfl ?_ ?_) <;> intro hc <;> (try simp only [KL, cond_true, cond_false, beq_iff_eq, bne_iff_ne, ne_eq, reduceCtorEq] at hc) <;> (try (have hT : True := hc; clear hT hc)) <;> (try (exfalso; omega))) | apply kT | apply kU | apply kV | apply kW | refine kX rfl ?_ | apply kY | apply kZ)
  exact retq rfl rfl
def countP (p : List Instr) : Int := if fineB p = true then kap (some (leftC p 0 (fun _ => 0))) else 0
theorem leftC_whole {p : List Instr} (hf : FineP p) (hn : ∀ i, 0 ≤ (p.getD i default).n) : leftC p 0 (fun _ => 0) = (vC p (wholeS p) 0).fin := by
  have e : cOf p (fun _ => 0) = turnsC p := by funext s; rw [cOf, Nat.sub_zero]
  rw [leftC, e, phi_start cntR hf hn (VG_isV cntR (fun _ => 1) hf hn)]
theorem count_fn (p : List Instr) (hl : p.length ≤ 1000000) (hn : ∀ i, 0 ≤ (p.getD i default).n) : Fn Try.prog 26 [.lst 5 (p.map eInstr)] (.int .i64 (countP p)) := by
  have c1 := pfine_fn p hl
  refine fnb Try.func26 (entered_of (by kernel_rfl)) rfl rfl rfl ?_
  cases hf : fineB p
  · rw [countP, hf]
    rw [hf] at c1
    repeat' (first | (show W _ _ _ _ _ _; first | apply kA | refine kB rfl ?_ | refine kC rfl rfl ?_ | refine kD rfl rfl ?_ | apply kE | apply kF | apply kG | apply kH | refine kI (by kernel_rfl) (by kernel_rfl) ?_) | (show O _ _ _ _ _ _ _; first | (show O _ _ _ _ (⟨_, .store _ _ _, _, _, _, _⟩ :: _) _ _; refine kJ rfl rfl rfl rfl rfl rfl rfl rfl rfl rfl rfl ?_) | apply kK) | apply kL | ((first | apply kM | apply kN); (iterate 3 (· exact rfl)); (· first | (show Y _ ⟨_, .call ⟨.value _, _, _⟩, _, _, _, _⟩ _ _ _; first | exact q_c (c1) rfl) | exact ya)) | refine kO rfl rfl rfl rfl rfl ?_ | refine kP rfl rfl rfl ?_ | ((first | refine kQ rfl rfl ?_ ?_ | refine kR rfl rfl rfl rfl rfl ?_ ?_ | refine kS rfl rfl rfl ?_ ?_) <;> intro hc <;> (try simp only [KL, cond_true, cond_false, beq_iff_eq, bne_iff_ne, ne_eq, reduceCtorEq] at hc) <;> (try (have hT : True := hc; clear hT hc)) <;> (try (exfalso; omega))) | apply kT | apply kU | apply kV | apply kW | refine kX rfl ?_ | apply kY | apply kZ)
    exact retq rfl rfl
  · have hfp := fine_inv hf
    have hso := hfp.pos
    rw [countP, hf, if_pos rfl, leftC_whole hfp hn]
    rw [hf] at c1
    have c2 := Loops_fn p hl
    rw [loopsF, if_pos hf] at c2
    have c3 := ppart_fn p hf hn p.length (wholeS p) (.inr rfl) (by unfold sizeS wholeS; simp only; omega)
    rw [wholeS] at c3
    simp only [Int.toNat_zero] at c3
    rw [wholeS]
    repeat' (first | (show W _ _ _ _ _ _; first | apply kA | refine kB rfl ?_ | refine kC rfl rfl ?_ | refine kD rfl rfl ?_ | apply kE | apply kF | apply kG | apply kH | refine kI (by kernel_rfl) (by kernel_rfl) ?_) | (show O _ _ _ _ _ _ _; first | (show O _ _ _ _ (⟨_, .store _ _ _, _, _, _, _⟩ :: _) _ _; refine kJ rfl rfl rfl rfl rfl rfl rfl rfl rfl rfl rfl ?_) | apply kK) | apply kL | ((first | apply kM | apply kN); (iterate 3 (· exact rfl)); (· first | (show Y _ ⟨_, .call ⟨.value _, _, _⟩, _, _, _, _⟩ _ _ _; first | exact q_c (c1) rfl | exact q_c (c2) rfl | exact q_c (c3) rfl) | exact ya)) | refine kO rfl rfl rfl rfl rfl ?_ | refine kP rfl rfl rfl ?_ | ((first | refine kQ rfl rfl ?_ ?_ | refine kR rfl rfl rfl rfl rfl ?_ ?_ | refine kS rfl rfl rfl ?_ ?_) <;> intro hc <;> (try simp only [KL, cond_true, cond_false, beq_iff_eq, bne_iff_ne, ne_eq, reduceCtorEq] at hc) <;> (try (have hT : True := hc; clear hT hc)) <;> (try (exfalso; omega))) | apply kT | apply kU | apply kV | apply kW | refine kX rfl ?_ | apply kY | apply kZ)
    all_goals first | (exfalso; omega) | exact retq rfl rfl
end Go.Proofs.Ytffciebjpiljgaa
