/- The document's spot (a place, and 64 counters) and its step. No condition. -/
import Derived.Test.YtkkmageogkkchaaWm
namespace Go.Proofs.Ytkkmageogkkchaa
set_option linter.unusedSimpArgs false
set_option linter.unusedVariables false
set_option maxRecDepth 100000
set_option linter.unusedSimpArgs false
set_option linter.unusedVariables false
set_option maxRecDepth 100000
open Go.RowKit
section
variable {P : Program} {n : Md} {Q : Exit → Slots → Heap → Prop} {s : Slots} {h : Heap} {ops : Array Oper} {rest : List Oper} {o : Oper}
/-- A place of an array in a block of the call's own, by any index. -/
theorem ok_index_ptr {t e : TypeId} {x y : Operand} {len sz id off : Nat} {ik : IntKind} (i : Nat) (hi : i < len) (ho : o.op = .indexAddr t x y) (ht : arrE P t = some (len, e)) (hz : sizeQ P e sz = true) (hx : evA s x = .ptr id off) (hy : evA s y = .int ik i) : OkO P o s h (.ptr id (off + i * sz)) := by
  refine ok_of_run fun E σ ι a w hr hv => ?_
  have hX := hv x (by rw [ho]; simp [Op.operands])
  have hY := hv y (by rw [ho]; simp [Op.operands])
  rw [hx] at hX
  rw [hy] at hY
  have h9 : (0 : Int) ≤ (i : Int) ∧ (i : Int) < (len : Int) := by omega
  obtain ⟨g, h1, h2⟩ := hX.ptr_inv
  refine ⟨.pointer (some ⟨g, off + i * sz, none⟩), ?_, .ptr _ _ g h1⟩
  simp only [execOp, ho, h2, hY.int_inv.1, Instr.indexAt, Instr.sureAddr, asIntOf, Sem.run_bind, Sem.run_pure, Result.andThen_ok, run_underlying (arrE_spec ht), h9, and_self, if_true, sizeQ_run hz, Int.toNat_natCast, Go.WideShapes.add_plain]
theorem ok_load_ptr {t ty : TypeId} {x : Operand} {id off : Nat} {cs rs : List AV} {c : AV} {side : Prop} {v : AV} (hd : cs.drop off = c :: rs) (ho : o.op = .load t x) (hx : evA s x = .ptr id off) (hg : hget h id = some (.blk ty cs)) (hc : cellsA P t (c :: rs) = some (side, v)) (hside : side) : OkO P o s h v := by
  refine stepO_sound (side := side) ?_ hside
  unfold stepO
  rw [ho]
  simp only [loadA, hx, hg, hd, hc]
end
def eSp (j : Nat) (T : Nat → Nat) : List AV := .int .i64 j :: (List.range 64).map fun i => AV.int .i64 (T i)
theorem eSp_drop (j : Nat) (T : Nat → Nat) {i : Nat} (hi : i < 64) : (eSp j T).drop (1 + i * 1) = .int .i64 (T i) :: ((List.range 64).drop (i + 1)).map fun i => AV.int .i64 (T i) := by
  rw [eSp, Nat.mul_one, Nat.add_comm, List.drop_succ_cons, ← List.map_drop, List.drop_eq_getElem_cons (by simpa using hi), List.map_cons, List.getElem_range]
theorem eSp_len (j : Nat) (T : Nat → Nat) : (eSp j T).length = 65 := rfl
theorem eSp_set (j : Nat) (T : Nat → Nat) {i : Nat} (hi : i < 64) (v : Nat) : spl (eSp j T) (1 + i * 1) [.int .i64 v] = eSp j (setT T i v) := by
  rw [spl_eq _ _ _ (by rw [eSp_len]; simp; omega)]
  apply List.ext_getElem?
  intro k
  rw [Nat.mul_one, List.append_assoc, List.getElem?_append, List.length_take, eSp_len]
  have hmin : min (1 + i) 65 = 1 + i := by omega
  rw [hmin]
  cases k with
  | zero => rw [if_pos (by omega), List.getElem?_take, if_pos (by omega)]; rfl
  | succ k =>
    have hm : ∀ (T : Nat → Nat), (eSp j T)[k + 1]? = if k < 64 then some (AV.int .i64 (T k)) else none := fun T => by
      rw [eSp, List.getElem?_cons_succ, List.getElem?_map]
      by_cases hk : k < 64
      · rw [if_pos hk, List.getElem?_eq_getElem (by simpa using hk), List.getElem_range]; rfl
      · rw [if_neg hk, List.getElem?_eq_none (by simpa using hk)]; rfl
    rw [hm]
    split
    · rename_i hk
      rw [List.getElem?_take, if_pos hk, hm]
      split
      · rw [setT, if_neg (by omega)]
      · rfl
    · rename_i hk
      rcases Nat.lt_or_eq_of_le (Nat.le_of_not_lt hk) with q | q
      · rw [List.getElem?_append_right (by simp; omega), List.getElem?_drop, show 1 + i + [AV.int .i64 (v : Int)].length + (k + 1 - (1 + i) - [AV.int .i64 (v : Int)].length) = k + 1 by simp; omega, hm]
        split
        · rw [setT, if_neg (by omega)]
        · rfl
      · obtain rfl : k = i := by omega
        rw [show k + 1 - (1 + k) = 0 by omega, if_pos hi, setT, if_pos rfl]
        rfl
section
variable {P : Program} {n : Md} {Q : Exit → Slots → Heap → Prop} {s : Slots} {h : Heap} {ops : Array Oper} {rest : List Oper} {o : Oper}
theorem ao_sp (i : Nat) (hi : i < 64) (v : Nat) {t ty : TypeId} {x y : Operand} {id j : Nat} {T : Nat → Nat} (ho : o.op = .store t x y) (hx : evA s x = .ptr id (1 + i * 1)) (hg : hget h id = some (.blk ty (eSp j T))) (hv : evA s y = .int .i64 v) (hz : sizeQ P t 1 = true) (hd : o.dst = none) (hgd : o.guard = none) (hco : constsOk o = true)
    (hk : O P n ops Q rest s ((id, .blk ty (eSp j (setT T i v))) :: h)) : O P n ops Q (o :: rest) s h := by
  refine ao_st ho hx hg hv rfl hz ?_ hd hgd hco (by rw [hd]; rfl) ?_
  · rw [Nat.ble_eq, eSp_len]; simp [celA]; omega
  · rw [show celA (.int .i64 (v : Int)) = [.int .i64 (v : Int)] from rfl, eSp_set j T hi]; exact hk
end
theorem next11_fn (p : List Instr) (j : Nat) (T : Nat → Nat) (b : Bool) (hl : p.length ≤ 64) (hj : j < p.length) (hn : 0 ≤ (p.getD j default).n ∧ (p.getD j default).n ≤ 4294967295) (hT : (p.getD j default).op = 16 → T j ≤ 100000) : Fn Try.prog 53 [.lst 5 (p.map eInstr), .agg (eSp j T), .bool b] (.agg (eSp (nxtS p j T b).1 (nxtS p j T b).2)) := by
  refine fnb Try.func53 (entered_of (by kernel_rfl)) rfl rfl rfl ?_
  obtain ⟨x, hx⟩ : ∃ x, p.getD j default = x := ⟨_, rfl⟩
  rw [hx] at hn hT
  unfold nxtS
  rw [hx]
  obtain ⟨op, xa, xb, xc, xn⟩ := x
  simp only at hn hT ⊢
  obtain ⟨m, rfl⟩ : ∃ m : Nat, xn = m := ⟨xn.toNat, by omega⟩
  rw [Int.toNat_natCast]
  by_cases h16 : op = 16
  · rw [if_pos h16]
    have hT := hT h16
    by_cases hlt : (T j : Int) < xc
    · rw [if_pos hlt]
      repeat' (first | (show W _ _ _ _ _ _; first | apply kA | refine kB rfl ?_ | refine kC rfl rfl ?_ | refine kD rfl rfl ?_ | apply kE | apply kF | apply kG | apply kH | refine kI (by kernel_rfl) (by kernel_rfl) ?_) | (show O _ _ _ _ _ _ _; first | (show O _ _ _ _ (⟨_, .box _ _, _, _, _, _⟩ :: _) _ _; first | refine ao_box (id := 10) rfl rfl rfl rfl rfl rfl rfl rfl ?_) | (show O _ _ _ _ (⟨_, .alloc _, _, _, _, _⟩ :: _) _ _; first | refine ao_alloc (id := 11) rfl rfl rfl rfl rfl rfl rfl ?_ | refine ao_alloc (id := 12) rfl rfl rfl rfl rfl rfl rfl ?_) | (show O _ _ _ _ (⟨_, .store _ _ _, _, _, _, _⟩ :: _) _ _; refine kJ rfl rfl rfl rfl rfl rfl rfl rfl rfl rfl rfl ?_) | apply kK) | apply kL | ((first | apply kM | apply kN); (iterate 3 (· exact rfl)); (· first | (show Y _ ⟨_, .indexAddr _ _ _, _, _, _, _⟩ _ _ _; first | exact Y.mk (ok_indexE (hx) rfl rfl rfl rfl rfl (by omega))) | exact yab | exact Y.mk (ok_index_ptr (sz := 1) j (by omega) rfl rfl rfl rfl rfl) | exact Y.mk (ok_load_ptr (eSp_drop j T (by omega)) rfl rfl rfl rfl (Nat.succ_pos _)))) | refine kO rfl rfl rfl rfl rfl ?_ | refine kP rfl rfl rfl ?_ | ((first | refine kQ rfl rfl ?_ ?_ | refine kR rfl rfl rfl rfl rfl ?_ ?_ | refine kS rfl rfl rfl ?_ ?_) <;> intro hc <;> (try simp only [KL, cond_true, cond_false, beq_iff_eq, bne_iff_ne, ne_eq, reduceCtorEq] at hc) <;> (try (have hT : True := hc; clear hT hc)) <;> (try (exfalso; omega))) | apply kT | apply kU | apply kV | apply kW | refine kX rfl ?_ | apply kY | apply kZ)
      all_goals first | (exfalso; omega) | skip
      refine ao_sp j (by omega) (T j + 1) (j := j) (T := T) rfl rfl rfl rfl rfl rfl rfl rfl ?_
      repeat' (first | (show W _ _ _ _ _ _; first | apply kA | refine kB rfl ?_ | refine kC rfl rfl ?_ | refine kD rfl rfl ?_ | apply kE | apply kF | apply kG | apply kH | refine kI (by kernel_rfl) (by kernel_rfl) ?_) | (show O _ _ _ _ _ _ _; first | (show O _ _ _ _ (⟨_, .store _ _ _, _, _, _, _⟩ :: _) _ _; refine kJ rfl rfl rfl rfl rfl rfl rfl rfl rfl rfl rfl ?_) | apply kK) | apply kL | ((first | apply kM | apply kN); (iterate 3 (· exact rfl)); (· first | exact ya)) | refine kO rfl rfl rfl rfl rfl ?_ | refine kP rfl rfl rfl ?_ | ((first | refine kQ rfl rfl ?_ ?_ | refine kR rfl rfl rfl rfl rfl ?_ ?_ | refine kS rfl rfl rfl ?_ ?_) <;> intro hc <;> (try simp only [KL, cond_true, cond_false, beq_iff_eq, bne_iff_ne, ne_eq, reduceCtorEq] at hc) <;> (try (have hT : True := hc; clear hT hc)) <;> (try (exfalso; omega))) | apply kT | apply kU | apply kV | apply kW | refine kX rfl ?_ | apply kY | apply kZ)
      exact retq rfl rfl
    · rw [if_neg hlt]
      repeat' (first | (show W _ _ _ _ _ _; first | apply kA | refine kB rfl ?_ | refine kC rfl rfl ?_ | refine kD rfl rfl ?_ | apply kE | apply kF | apply kG | apply kH | refine kI (by kernel_rfl) (by kernel_rfl) ?_) | (show O _ _ _ _ _ _ _; first | (show O _ _ _ _ (⟨_, .box _ _, _, _, _, _⟩ :: _) _ _; first | refine ao_box (id := 10) rfl rfl rfl rfl rfl rfl rfl rfl ?_) | (show O _ _ _ _ (⟨_, .alloc _, _, _, _, _⟩ :: _) _ _; first | refine ao_alloc (id := 11) rfl rfl rfl rfl rfl rfl rfl ?_ | refine ao_alloc (id := 12) rfl rfl rfl rfl rfl rfl rfl ?_) | (show O _ _ _ _ (⟨_, .store _ _ _, _, _, _, _⟩ :: _) _ _; refine kJ rfl rfl rfl rfl rfl rfl rfl rfl rfl rfl rfl ?_) | apply kK) | apply kL | ((first | apply kM | apply kN); (iterate 3 (· exact rfl)); (· first | (show Y _ ⟨_, .indexAddr _ _ _, _, _, _, _⟩ _ _ _; first | exact Y.mk (ok_indexE (hx) rfl rfl rfl rfl rfl (by omega))) | exact yab | exact Y.mk (ok_index_ptr (sz := 1) j (by omega) rfl rfl rfl rfl rfl) | exact Y.mk (ok_load_ptr (eSp_drop j T (by omega)) rfl rfl rfl rfl (Nat.succ_pos _)))) | refine kO rfl rfl rfl rfl rfl ?_ | refine kP rfl rfl rfl ?_ | ((first | refine kQ rfl rfl ?_ ?_ | refine kR rfl rfl rfl rfl rfl ?_ ?_ | refine kS rfl rfl rfl ?_ ?_) <;> intro hc <;> (try simp only [KL, cond_true, cond_false, beq_iff_eq, bne_iff_ne, ne_eq, reduceCtorEq] at hc) <;> (try (have hT : True := hc; clear hT hc)) <;> (try (exfalso; omega))) | apply kT | apply kU | apply kV | apply kW | refine kX rfl ?_ | apply kY | apply kZ)
      all_goals first | (exfalso; omega) | skip
      refine ao_sp j (by omega) 0 (j := j) (T := T) rfl rfl rfl rfl rfl rfl rfl rfl ?_
      repeat' (first | (show W _ _ _ _ _ _; first | apply kA | refine kB rfl ?_ | refine kC rfl rfl ?_ | refine kD rfl rfl ?_ | apply kE | apply kF | apply kG | apply kH | refine kI (by kernel_rfl) (by kernel_rfl) ?_) | (show O _ _ _ _ _ _ _; first | (show O _ _ _ _ (⟨_, .store _ _ _, _, _, _, _⟩ :: _) _ _; refine kJ rfl rfl rfl rfl rfl rfl rfl rfl rfl rfl rfl ?_) | apply kK) | apply kL | ((first | apply kM | apply kN); (iterate 3 (· exact rfl)); (· first | exact ya)) | refine kO rfl rfl rfl rfl rfl ?_ | refine kP rfl rfl rfl ?_ | ((first | refine kQ rfl rfl ?_ ?_ | refine kR rfl rfl rfl rfl rfl ?_ ?_ | refine kS rfl rfl rfl ?_ ?_) <;> intro hc <;> (try simp only [KL, cond_true, cond_false, beq_iff_eq, bne_iff_ne, ne_eq, reduceCtorEq] at hc) <;> (try (have hT : True := hc; clear hT hc)) <;> (try (exfalso; omega))) | apply kT | apply kU | apply kV | apply kW | refine kX rfl ?_ | apply kY | apply kZ)
      all_goals first | (exfalso; omega) | exact retq rfl rfl
  · rw [if_neg h16]
    by_cases h14 : op = 14
    · rw [if_pos (.inl h14)]
      repeat' (first | (show W _ _ _ _ _ _; first | apply kA | refine kB rfl ?_ | refine kC rfl rfl ?_ | refine kD rfl rfl ?_ | apply kE | apply kF | apply kG | apply kH | refine kI (by kernel_rfl) (by kernel_rfl) ?_) | (show O _ _ _ _ _ _ _; first | (show O _ _ _ _ (⟨_, .box _ _, _, _, _, _⟩ :: _) _ _; first | refine ao_box (id := 10) rfl rfl rfl rfl rfl rfl rfl rfl ?_) | (show O _ _ _ _ (⟨_, .alloc _, _, _, _, _⟩ :: _) _ _; first | refine ao_alloc (id := 11) rfl rfl rfl rfl rfl rfl rfl ?_ | refine ao_alloc (id := 12) rfl rfl rfl rfl rfl rfl rfl ?_) | (show O _ _ _ _ (⟨_, .store _ _ _, _, _, _, _⟩ :: _) _ _; refine kJ rfl rfl rfl rfl rfl rfl rfl rfl rfl rfl rfl ?_) | apply kK) | apply kL | ((first | apply kM | apply kN); (iterate 3 (· exact rfl)); (· first | (show Y _ ⟨_, .indexAddr _ _ _, _, _, _, _⟩ _ _ _; first | exact Y.mk (ok_indexE (hx) rfl rfl rfl rfl rfl (by omega))) | exact yab | exact Y.mk (ok_index_ptr (sz := 1) j (by omega) rfl rfl rfl rfl rfl) | exact Y.mk (ok_load_ptr (eSp_drop j T (by omega)) rfl rfl rfl rfl (Nat.succ_pos _)))) | refine kO rfl rfl rfl rfl rfl ?_ | refine kP rfl rfl rfl ?_ | ((first | refine kQ rfl rfl ?_ ?_ | refine kR rfl rfl rfl rfl rfl ?_ ?_ | refine kS rfl rfl rfl ?_ ?_) <;> intro hc <;> (try simp only [KL, cond_true, cond_false, beq_iff_eq, bne_iff_ne, ne_eq, reduceCtorEq] at hc) <;> (try (have hT : True := hc; clear hT hc)) <;> (try (exfalso; omega))) | apply kT | apply kU | apply kV | apply kW | refine kX rfl ?_ | apply kY | apply kZ)
      all_goals first | (exfalso; omega) | exact retq rfl rfl
    by_cases h15 : op = 15
    · cases b
      · rw [if_neg (fun q => by rcases q with q | q; exact h14 q; cases q.2)]
        repeat' (first | (show W _ _ _ _ _ _; first | apply kA | refine kB rfl ?_ | refine kC rfl rfl ?_ | refine kD rfl rfl ?_ | apply kE | apply kF | apply kG | apply kH | refine kI (by kernel_rfl) (by kernel_rfl) ?_) | (show O _ _ _ _ _ _ _; first | (show O _ _ _ _ (⟨_, .box _ _, _, _, _, _⟩ :: _) _ _; first | refine ao_box (id := 10) rfl rfl rfl rfl rfl rfl rfl rfl ?_) | (show O _ _ _ _ (⟨_, .alloc _, _, _, _, _⟩ :: _) _ _; first | refine ao_alloc (id := 11) rfl rfl rfl rfl rfl rfl rfl ?_ | refine ao_alloc (id := 12) rfl rfl rfl rfl rfl rfl rfl ?_) | (show O _ _ _ _ (⟨_, .store _ _ _, _, _, _, _⟩ :: _) _ _; refine kJ rfl rfl rfl rfl rfl rfl rfl rfl rfl rfl rfl ?_) | apply kK) | apply kL | ((first | apply kM | apply kN); (iterate 3 (· exact rfl)); (· first | (show Y _ ⟨_, .indexAddr _ _ _, _, _, _, _⟩ _ _ _; first | exact Y.mk (ok_indexE (hx) rfl rfl rfl rfl rfl (by omega))) | exact yab | exact Y.mk (ok_index_ptr (sz := 1) j (by omega) rfl rfl rfl rfl rfl) | exact Y.mk (ok_load_ptr (eSp_drop j T (by omega)) rfl rfl rfl rfl (Nat.succ_pos _)))) | refine kO rfl rfl rfl rfl rfl ?_ | refine kP rfl rfl rfl ?_ | ((first | refine kQ rfl rfl ?_ ?_ | refine kR rfl rfl rfl rfl rfl ?_ ?_ | refine kS rfl rfl rfl ?_ ?_) <;> intro hc <;> (try simp only [KL, cond_true, cond_false, beq_iff_eq, bne_iff_ne, ne_eq, reduceCtorEq] at hc) <;> (try (have hT : True := hc; clear hT hc)) <;> (try (exfalso; omega))) | apply kT | apply kU | apply kV | apply kW | refine kX rfl ?_ | apply kY | apply kZ)
        all_goals first | (exfalso; omega) | exact retq rfl rfl
      · rw [if_pos (.inr ⟨h15, rfl⟩)]
        repeat' (first | (show W _ _ _ _ _ _; first | apply kA | refine kB rfl ?_ | refine kC rfl rfl ?_ | refine kD rfl rfl ?_ | apply kE | apply kF | apply kG | apply kH | refine kI (by kernel_rfl) (by kernel_rfl) ?_) | (show O _ _ _ _ _ _ _; first | (show O _ _ _ _ (⟨_, .box _ _, _, _, _, _⟩ :: _) _ _; first | refine ao_box (id := 10) rfl rfl rfl rfl rfl rfl rfl rfl ?_) | (show O _ _ _ _ (⟨_, .alloc _, _, _, _, _⟩ :: _) _ _; first | refine ao_alloc (id := 11) rfl rfl rfl rfl rfl rfl rfl ?_ | refine ao_alloc (id := 12) rfl rfl rfl rfl rfl rfl rfl ?_) | (show O _ _ _ _ (⟨_, .store _ _ _, _, _, _, _⟩ :: _) _ _; refine kJ rfl rfl rfl rfl rfl rfl rfl rfl rfl rfl rfl ?_) | apply kK) | apply kL | ((first | apply kM | apply kN); (iterate 3 (· exact rfl)); (· first | (show Y _ ⟨_, .indexAddr _ _ _, _, _, _, _⟩ _ _ _; first | exact Y.mk (ok_indexE (hx) rfl rfl rfl rfl rfl (by omega))) | exact yab | exact Y.mk (ok_index_ptr (sz := 1) j (by omega) rfl rfl rfl rfl rfl) | exact Y.mk (ok_load_ptr (eSp_drop j T (by omega)) rfl rfl rfl rfl (Nat.succ_pos _)))) | refine kO rfl rfl rfl rfl rfl ?_ | refine kP rfl rfl rfl ?_ | ((first | refine kQ rfl rfl ?_ ?_ | refine kR rfl rfl rfl rfl rfl ?_ ?_ | refine kS rfl rfl rfl ?_ ?_) <;> intro hc <;> (try simp only [KL, cond_true, cond_false, beq_iff_eq, bne_iff_ne, ne_eq, reduceCtorEq] at hc) <;> (try (have hT : True := hc; clear hT hc)) <;> (try (exfalso; omega))) | apply kT | apply kU | apply kV | apply kW | refine kX rfl ?_ | apply kY | apply kZ)
        all_goals first | (exfalso; omega) | exact retq rfl rfl
    · rw [if_neg (fun q => by rcases q with q | q; exact h14 q; exact h15 q.1)]
      repeat' (first | (show W _ _ _ _ _ _; first | apply kA | refine kB rfl ?_ | refine kC rfl rfl ?_ | refine kD rfl rfl ?_ | apply kE | apply kF | apply kG | apply kH | refine kI (by kernel_rfl) (by kernel_rfl) ?_) | (show O _ _ _ _ _ _ _; first | (show O _ _ _ _ (⟨_, .box _ _, _, _, _, _⟩ :: _) _ _; first | refine ao_box (id := 10) rfl rfl rfl rfl rfl rfl rfl rfl ?_) | (show O _ _ _ _ (⟨_, .alloc _, _, _, _, _⟩ :: _) _ _; first | refine ao_alloc (id := 11) rfl rfl rfl rfl rfl rfl rfl ?_ | refine ao_alloc (id := 12) rfl rfl rfl rfl rfl rfl rfl ?_) | (show O _ _ _ _ (⟨_, .store _ _ _, _, _, _, _⟩ :: _) _ _; refine kJ rfl rfl rfl rfl rfl rfl rfl rfl rfl rfl rfl ?_) | apply kK) | apply kL | ((first | apply kM | apply kN); (iterate 3 (· exact rfl)); (· first | (show Y _ ⟨_, .indexAddr _ _ _, _, _, _, _⟩ _ _ _; first | exact Y.mk (ok_indexE (hx) rfl rfl rfl rfl rfl (by omega))) | exact yab | exact Y.mk (ok_index_ptr (sz := 1) j (by omega) rfl rfl rfl rfl rfl) | exact Y.mk (ok_load_ptr (eSp_drop j T (by omega)) rfl rfl rfl rfl (Nat.succ_pos _)))) | refine kO rfl rfl rfl rfl rfl ?_ | refine kP rfl rfl rfl ?_ | ((first | refine kQ rfl rfl ?_ ?_ | refine kR rfl rfl rfl rfl rfl ?_ ?_ | refine kS rfl rfl rfl ?_ ?_) <;> intro hc <;> (try simp only [KL, cond_true, cond_false, beq_iff_eq, bne_iff_ne, ne_eq, reduceCtorEq] at hc) <;> (try (have hT : True := hc; clear hT hc)) <;> (try (exfalso; omega))) | apply kT | apply kU | apply kV | apply kW | refine kX rfl ?_ | apply kY | apply kZ)
      all_goals first | (exfalso; omega) | exact retq rfl rfl
theorem StI.turns {p : List Instr} {j : Nat} {T : Nat → Nat} (hf : FineP p) (h : StI p j T) (h16 : (p.getD j default).op = 16) : T j ≤ 100000 := by
  have h1 := h.le _ (back_loop h.lt h16)
  have h2 := right_back (hf.right j h.lt) h16
  rw [turnsC] at h1
  simp only [Int.toNat_natCast] at h1
  omega
theorem walk11_fn (p : List Instr) (ch : List Bool) (most : Int) (hf : FineP p) (hn : ∀ i, 0 ≤ (p.getD i default).n ∧ (p.getD i default).n ≤ 4294967295) (hm : most ≤ 2000) (hc : ch.length ≤ 2000) :
    Fn Try.prog 23 [.lst 5 (p.map eInstr), .lst 1 (ch.map eB), .int .i64 most] (.tup [.lst 1 ((walkL p ch most.toNat 0 (fun _ => 0) 0).1.map eI), .bool (walkL p ch most.toNat 0 (fun _ => 0) 0).2]) := by
  have hmost := hf.most
  refine fnb Try.func23 (entered_of (by kernel_rfl)) rfl rfl rfl ?_
  generalize hF : walkL p ch most.toNat 0 (fun _ => 0) 0 = F at *
  repeat' (first | (show W _ _ _ _ _ _; first | apply kA | refine kB rfl ?_ | refine kC rfl rfl ?_ | refine kD rfl rfl ?_ | apply kE | apply kF | apply kG | apply kH | refine kI (by kernel_rfl) (by kernel_rfl) ?_) | (show O _ _ _ _ _ _ _; first | (show O _ _ _ _ (⟨_, .alloc _, _, _, _, _⟩ :: _) _ _; first | refine ao_alloc (id := 11) rfl rfl rfl rfl rfl rfl rfl ?_) | (show O _ _ _ _ (⟨_, .store _ _ _, _, _, _, _⟩ :: _) _ _; refine kJ rfl rfl rfl rfl rfl rfl rfl rfl rfl rfl rfl ?_) | apply kK) | apply kL | ((first | apply kM | apply kN); (iterate 3 (· exact rfl)); (· first | exact ya)) | refine kO rfl rfl rfl rfl rfl ?_ | refine kP rfl rfl rfl ?_ | ((first | refine kQ rfl rfl ?_ ?_ | refine kR rfl rfl rfl rfl rfl ?_ ?_ | refine kS rfl rfl rfl ?_ ?_) <;> intro hc <;> (try simp only [KL, cond_true, cond_false, beq_iff_eq, bne_iff_ne, ne_eq, reduceCtorEq] at hc) <;> (try (have hT : True := hc; clear hT hc)) <;> (try (exfalso; omega))) | apply kT | apply kU | apply kV | apply kW | refine kX rfl ?_ | apply kY | apply kZ)
  refine wturn (turn_own eI (t := 8) rfl 10 3 1 (by omega) rfl) ?_
  refine wloop (fun x : List Int × Nat × (Nat → Nat) × Nat => ([(0, .lst 5 (p.map eInstr)), (1, .lst 1 (ch.map eB)), (2, .int .i64 most), (8, .own 10), (9, .ptr 11 0), (10, .int .i64 x.2.2.2)], [(10, .row 3 1 (x.1.map eI)), (11, .blk 82 (eSp x.2.1 x.2.2.1))]))
    (fun x => x.1.length ≤ most.toNat ∧ x.2.2.2 ≤ x.1.length ∧ StI p x.2.1 x.2.2.1 ∧ x.1 ++ (walkL p ch (most.toNat - x.1.length) x.2.1 x.2.2.1 x.2.2.2).1 = F.1 ∧ (walkL p ch (most.toNat - x.1.length) x.2.1 x.2.2.1 x.2.2.2).2 = F.2) (fun x => most.toNat - x.1.length) ([], 0, (fun _ => 0), 0)
    ⟨Nat.zero_le _, Nat.le_refl _, st_0 hf, by rw [← hF]; rfl, by rw [← hF]; rfl⟩ les leh (fun x hx => ?_)
  obtain ⟨pre, j, T, k⟩ := x
  obtain ⟨h1, h2, h3, h4, h5⟩ := hx
  simp only at h1 h2 h3 h4 h5 ⊢
  rcases Nat.lt_or_eq_of_le h1 with hlt | heq
  · have hjl := h3.lt
    obtain ⟨m, hmm⟩ : ∃ m, most.toNat - pre.length = m + 1 := ⟨most.toNat - pre.length - 1, by omega⟩
    rw [hmm] at h4 h5
    obtain ⟨y, hy⟩ : ∃ y, p.getD j default = y := ⟨_, rfl⟩
    by_cases h21 : opA p j = 21
    · rw [walkL_done _ _ _ _ _ _ h21] at h4 h5
      have h21' := h21
      rw [opA, hy] at h21'
      repeat' (first | (show W _ _ _ _ _ _; first | apply kA | refine kB rfl ?_ | refine kC rfl rfl ?_ | refine kD rfl rfl ?_ | apply kE | apply kF | apply kG | apply kH | refine kI (by kernel_rfl) (by kernel_rfl) ?_) | (show O _ _ _ _ _ _ _; first | (show O _ _ _ _ (⟨_, .store _ _ _, _, _, _, _⟩ :: _) _ _; refine kJ rfl rfl rfl rfl rfl rfl rfl rfl rfl rfl rfl ?_) | apply kK) | apply kL | ((first | apply kM | apply kN); (iterate 3 (· exact rfl)); (· first | exact ya)) | refine kO rfl rfl rfl rfl rfl ?_ | refine kP rfl rfl rfl ?_ | ((first | refine kQ rfl rfl ?_ ?_ | refine kR rfl rfl rfl rfl rfl ?_ ?_ | refine kS rfl rfl rfl ?_ ?_) <;> intro hc <;> (try simp only [KL, cond_true, cond_false, beq_iff_eq, bne_iff_ne, ne_eq, reduceCtorEq] at hc) <;> (try (have hT : True := hc; clear hT hc)) <;> (try (exfalso; omega))) | apply kT | apply kU | apply kV | apply kW | refine kX rfl ?_ | apply kY | apply kZ)
      all_goals first | (exfalso; omega) | skip
      (refine ao_ap (id := 10) (ys := [(j : Int)]) (by_ := 8) rfl rfl rfl rfl rfl rfl rfl rfl rfl rfl (fun _ _ => rfl) ?_ ?_ rfl rfl rfl rfl rfl ?_; (· (first | omega | ((try simp only [List.length_cons, List.length_nil, List.length_append, List.length_map]) <;> omega))); (· (first | omega | ((try simp only [List.length_cons, List.length_nil, List.length_append, List.length_map]) <;> omega))))
      repeat' (first | (show W _ _ _ _ _ _; first | apply kA | refine kB rfl ?_ | refine kC rfl rfl ?_ | refine kD rfl rfl ?_ | apply kE | apply kF | apply kG | apply kH | refine kI (by kernel_rfl) (by kernel_rfl) ?_) | (show O _ _ _ _ _ _ _; first | (show O _ _ _ _ (⟨_, .store _ _ _, _, _, _, _⟩ :: _) _ _; refine kJ rfl rfl rfl rfl rfl rfl rfl rfl rfl rfl rfl ?_) | apply kK) | apply kL | ((first | apply kM | apply kN); (iterate 3 (· exact rfl)); (· first | (show Y _ ⟨_, .indexAddr _ _ _, _, _, _, _⟩ _ _ _; first | exact Y.mk (ok_indexE (hy) rfl rfl rfl rfl rfl (by omega))) | exact ya)) | refine kO rfl rfl rfl rfl rfl ?_ | refine kP rfl rfl rfl ?_ | ((first | refine kQ rfl rfl ?_ ?_ | refine kR rfl rfl rfl rfl rfl ?_ ?_ | refine kS rfl rfl rfl ?_ ?_) <;> intro hc <;> (try simp only [KL, cond_true, cond_false, beq_iff_eq, bne_iff_ne, ne_eq, reduceCtorEq] at hc) <;> (try (have hT : True := hc; clear hT hc)) <;> (try (exfalso; omega))) | apply kT | apply kU | apply kV | apply kW | refine kX rfl ?_ | apply kY | apply kZ)
      all_goals first | (exfalso; omega) | skip
      refine retT (fun _ => turn_freeze (t := 6) rfl rfl rfl) ?_
      exact retq rfl (by rw [← h4, ← h5])
    · rw [walkL_step _ _ _ _ _ _ h21] at h4 h5
      have h21' := h21
      rw [opA, hy] at h21'
      have hmn : most.toNat - (pre ++ [(j : Int)]).length = m := by rw [List.length_append, List.length_singleton]; omega
      have hpl : (pre ++ [(j : Int)]).length = pre.length + 1 := by rw [List.length_append, List.length_singleton]
      have hnx := nxt_st hf (fun i => (hn i).1) h3 h21 (decide (opA p j = 15) && ch.getD k false)
      have cN := next11_fn p j T (decide (opA p j = 15) && ch.getD k false) hmost hjl (hn j) (h3.turns hf)
      rw [opA, hy] at h4 h5 hnx cN
      have h4' : (pre ++ [(j : Int)]) ++ (walkL p ch m (nxtS p j T (decide (y.op = 15) && ch.getD k false)).1 (nxtS p j T (decide (y.op = 15) && ch.getD k false)).2 (if y.op = 15 then k + 1 else k)).1 = F.1 := by rw [List.append_assoc]; exact h4
      simp only at h5
      by_cases h15 : y.op = 15
      · rw [decide_eq_true h15, Bool.true_and] at h4' h5 hnx cN
        rw [if_pos h15] at h4' h5
        by_cases hk : k < ch.length
        · obtain ⟨b, hb⟩ : ∃ b, ch.getD k false = b := ⟨_, rfl⟩
          rw [hb] at h4' h5 hnx cN
          generalize nxtS p j T b = r at *
          repeat' (first | (show W _ _ _ _ _ _; first | apply kA | refine kB rfl ?_ | refine kC rfl rfl ?_ | refine kD rfl rfl ?_ | apply kE | apply kF | apply kG | apply kH | refine kI (by kernel_rfl) (by kernel_rfl) ?_) | (show O _ _ _ _ _ _ _; first | (show O _ _ _ _ (⟨_, .store _ _ _, _, _, _, _⟩ :: _) _ _; refine kJ rfl rfl rfl rfl rfl rfl rfl rfl rfl rfl rfl ?_) | apply kK) | apply kL | ((first | apply kM | apply kN); (iterate 3 (· exact rfl)); (· first | exact ya)) | refine kO rfl rfl rfl rfl rfl ?_ | refine kP rfl rfl rfl ?_ | ((first | refine kQ rfl rfl ?_ ?_ | refine kR rfl rfl rfl rfl rfl ?_ ?_ | refine kS rfl rfl rfl ?_ ?_) <;> intro hc <;> (try simp only [KL, cond_true, cond_false, beq_iff_eq, bne_iff_ne, ne_eq, reduceCtorEq] at hc) <;> (try (have hT : True := hc; clear hT hc)) <;> (try (exfalso; omega))) | apply kT | apply kU | apply kV | apply kW | refine kX rfl ?_ | apply kY | apply kZ)
          all_goals first | (exfalso; omega) | skip
          (refine ao_ap (id := 10) (ys := [(j : Int)]) (by_ := 8) rfl rfl rfl rfl rfl rfl rfl rfl rfl rfl (fun _ _ => rfl) ?_ ?_ rfl rfl rfl rfl rfl ?_; (· (first | omega | ((try simp only [List.length_cons, List.length_nil, List.length_append, List.length_map]) <;> omega))); (· (first | omega | ((try simp only [List.length_cons, List.length_nil, List.length_append, List.length_map]) <;> omega))))
          repeat' (first | (show W _ _ _ _ _ _; first | apply kA | refine kB rfl ?_ | refine kC rfl rfl ?_ | refine kD rfl rfl ?_ | apply kE | apply kF | apply kG | apply kH | refine kI (by kernel_rfl) (by kernel_rfl) ?_) | (show O _ _ _ _ _ _ _; first | (show O _ _ _ _ (⟨_, .store _ _ _, _, _, _, _⟩ :: _) _ _; refine kJ rfl rfl rfl rfl rfl rfl rfl rfl rfl rfl rfl ?_) | apply kK) | apply kL | ((first | apply kM | apply kN); (iterate 3 (· exact rfl)); (· first | (show Y _ ⟨_, .indexAddr _ _ _, _, _, _, _⟩ _ _ _; first | exact Y.mk (ok_indexE (hy) rfl rfl rfl rfl rfl (by omega)) | exact Y.mk (ok_indexE (hb) rfl rfl rfl rfl rfl (by omega))) | (show Y _ ⟨_, .call ⟨.value _, _, _⟩, _, _, _, _⟩ _ _ _; first | exact q_c (cN) rfl) | exact ya)) | refine kO rfl rfl rfl rfl rfl ?_ | refine kP rfl rfl rfl ?_ | ((first | refine kQ rfl rfl ?_ ?_ | refine kR rfl rfl rfl rfl rfl ?_ ?_ | refine kS rfl rfl rfl ?_ ?_) <;> intro hc <;> (try simp only [KL, cond_true, cond_false, beq_iff_eq, bne_iff_ne, ne_eq, reduceCtorEq] at hc) <;> (try (have hT : True := hc; clear hT hc)) <;> (try (exfalso; omega))) | apply kT | apply kU | apply kV | apply kW | refine kX rfl ?_ | apply kY | apply kZ)
          all_goals first | (exfalso; omega) | skip
          exact ⟨(pre ++ [(j : Int)], r.1, r.2, k + 1), ⟨by simp only; omega, by simp only; omega, hnx, by simp only [hmn]; exact h4', by simp only [hmn]; exact h5⟩, by simp only; omega, les, leh⟩
        · have hb : ch.getD k false = false := by rw [List.getD_eq_getElem?_getD, List.getElem?_eq_none (by omega)]; rfl
          rw [hb] at h4' h5 hnx cN
          generalize nxtS p j T false = r at *
          repeat' (first | (show W _ _ _ _ _ _; first | apply kA | refine kB rfl ?_ | refine kC rfl rfl ?_ | refine kD rfl rfl ?_ | apply kE | apply kF | apply kG | apply kH | refine kI (by kernel_rfl) (by kernel_rfl) ?_) | (show O _ _ _ _ _ _ _; first | (show O _ _ _ _ (⟨_, .store _ _ _, _, _, _, _⟩ :: _) _ _; refine kJ rfl rfl rfl rfl rfl rfl rfl rfl rfl rfl rfl ?_) | apply kK) | apply kL | ((first | apply kM | apply kN); (iterate 3 (· exact rfl)); (· first | exact ya)) | refine kO rfl rfl rfl rfl rfl ?_ | refine kP rfl rfl rfl ?_ | ((first | refine kQ rfl rfl ?_ ?_ | refine kR rfl rfl rfl rfl rfl ?_ ?_ | refine kS rfl rfl rfl ?_ ?_) <;> intro hc <;> (try simp only [KL, cond_true, cond_false, beq_iff_eq, bne_iff_ne, ne_eq, reduceCtorEq] at hc) <;> (try (have hT : True := hc; clear hT hc)) <;> (try (exfalso; omega))) | apply kT | apply kU | apply kV | apply kW | refine kX rfl ?_ | apply kY | apply kZ)
          all_goals first | (exfalso; omega) | skip
          (refine ao_ap (id := 10) (ys := [(j : Int)]) (by_ := 8) rfl rfl rfl rfl rfl rfl rfl rfl rfl rfl (fun _ _ => rfl) ?_ ?_ rfl rfl rfl rfl rfl ?_; (· (first | omega | ((try simp only [List.length_cons, List.length_nil, List.length_append, List.length_map]) <;> omega))); (· (first | omega | ((try simp only [List.length_cons, List.length_nil, List.length_append, List.length_map]) <;> omega))))
          repeat' (first | (show W _ _ _ _ _ _; first | apply kA | refine kB rfl ?_ | refine kC rfl rfl ?_ | refine kD rfl rfl ?_ | apply kE | apply kF | apply kG | apply kH | refine kI (by kernel_rfl) (by kernel_rfl) ?_) | (show O _ _ _ _ _ _ _; first | (show O _ _ _ _ (⟨_, .store _ _ _, _, _, _, _⟩ :: _) _ _; refine kJ rfl rfl rfl rfl rfl rfl rfl rfl rfl rfl rfl ?_) | apply kK) | apply kL | ((first | apply kM | apply kN); (iterate 3 (· exact rfl)); (· first | (show Y _ ⟨_, .indexAddr _ _ _, _, _, _, _⟩ _ _ _; first | exact Y.mk (ok_indexE (hy) rfl rfl rfl rfl rfl (by omega))) | (show Y _ ⟨_, .call ⟨.value _, _, _⟩, _, _, _, _⟩ _ _ _; first | exact q_c (cN) rfl) | exact ya)) | refine kO rfl rfl rfl rfl rfl ?_ | refine kP rfl rfl rfl ?_ | ((first | refine kQ rfl rfl ?_ ?_ | refine kR rfl rfl rfl rfl rfl ?_ ?_ | refine kS rfl rfl rfl ?_ ?_) <;> intro hc <;> (try simp only [KL, cond_true, cond_false, beq_iff_eq, bne_iff_ne, ne_eq, reduceCtorEq] at hc) <;> (try (have hT : True := hc; clear hT hc)) <;> (try (exfalso; omega))) | apply kT | apply kU | apply kV | apply kW | refine kX rfl ?_ | apply kY | apply kZ)
          all_goals first | (exfalso; omega) | skip
          exact ⟨(pre ++ [(j : Int)], r.1, r.2, k + 1), ⟨by simp only; omega, by simp only; omega, hnx, by simp only [hmn]; exact h4', by simp only [hmn]; exact h5⟩, by simp only; omega, les, leh⟩
      · rw [decide_eq_false h15, Bool.false_and] at h4' h5 hnx cN
        rw [if_neg h15] at h4' h5
        generalize nxtS p j T false = r at *
        repeat' (first | (show W _ _ _ _ _ _; first | apply kA | refine kB rfl ?_ | refine kC rfl rfl ?_ | refine kD rfl rfl ?_ | apply kE | apply kF | apply kG | apply kH | refine kI (by kernel_rfl) (by kernel_rfl) ?_) | (show O _ _ _ _ _ _ _; first | (show O _ _ _ _ (⟨_, .store _ _ _, _, _, _, _⟩ :: _) _ _; refine kJ rfl rfl rfl rfl rfl rfl rfl rfl rfl rfl rfl ?_) | apply kK) | apply kL | ((first | apply kM | apply kN); (iterate 3 (· exact rfl)); (· first | exact ya)) | refine kO rfl rfl rfl rfl rfl ?_ | refine kP rfl rfl rfl ?_ | ((first | refine kQ rfl rfl ?_ ?_ | refine kR rfl rfl rfl rfl rfl ?_ ?_ | refine kS rfl rfl rfl ?_ ?_) <;> intro hc <;> (try simp only [KL, cond_true, cond_false, beq_iff_eq, bne_iff_ne, ne_eq, reduceCtorEq] at hc) <;> (try (have hT : True := hc; clear hT hc)) <;> (try (exfalso; omega))) | apply kT | apply kU | apply kV | apply kW | refine kX rfl ?_ | apply kY | apply kZ)
        all_goals first | (exfalso; omega) | skip
        (refine ao_ap (id := 10) (ys := [(j : Int)]) (by_ := 8) rfl rfl rfl rfl rfl rfl rfl rfl rfl rfl (fun _ _ => rfl) ?_ ?_ rfl rfl rfl rfl rfl ?_; (· (first | omega | ((try simp only [List.length_cons, List.length_nil, List.length_append, List.length_map]) <;> omega))); (· (first | omega | ((try simp only [List.length_cons, List.length_nil, List.length_append, List.length_map]) <;> omega))))
        repeat' (first | (show W _ _ _ _ _ _; first | apply kA | refine kB rfl ?_ | refine kC rfl rfl ?_ | refine kD rfl rfl ?_ | apply kE | apply kF | apply kG | apply kH | refine kI (by kernel_rfl) (by kernel_rfl) ?_) | (show O _ _ _ _ _ _ _; first | (show O _ _ _ _ (⟨_, .store _ _ _, _, _, _, _⟩ :: _) _ _; refine kJ rfl rfl rfl rfl rfl rfl rfl rfl rfl rfl rfl ?_) | apply kK) | apply kL | ((first | apply kM | apply kN); (iterate 3 (· exact rfl)); (· first | (show Y _ ⟨_, .indexAddr _ _ _, _, _, _, _⟩ _ _ _; first | exact Y.mk (ok_indexE (hy) rfl rfl rfl rfl rfl (by omega))) | (show Y _ ⟨_, .call ⟨.value _, _, _⟩, _, _, _, _⟩ _ _ _; first | exact q_c (cN) rfl) | exact ya)) | refine kO rfl rfl rfl rfl rfl ?_ | refine kP rfl rfl rfl ?_ | ((first | refine kQ rfl rfl ?_ ?_ | refine kR rfl rfl rfl rfl rfl ?_ ?_ | refine kS rfl rfl rfl ?_ ?_) <;> intro hc <;> (try simp only [KL, cond_true, cond_false, beq_iff_eq, bne_iff_ne, ne_eq, reduceCtorEq] at hc) <;> (try (have hT : True := hc; clear hT hc)) <;> (try (exfalso; omega))) | apply kT | apply kU | apply kV | apply kW | refine kX rfl ?_ | apply kY | apply kZ)
        all_goals first | (exfalso; omega) | skip
        exact ⟨(pre ++ [(j : Int)], r.1, r.2, k), ⟨by simp only; omega, by simp only; omega, hnx, by simp only [hmn]; exact h4', by simp only [hmn]; exact h5⟩, by simp only; omega, les, leh⟩
  · rw [heq, Nat.sub_self, walkL] at h4 h5
    simp only [List.append_nil] at h4 h5
    repeat' (first | (show W _ _ _ _ _ _; first | apply kA | refine kB rfl ?_ | refine kC rfl rfl ?_ | refine kD rfl rfl ?_ | apply kE | apply kF | apply kG | apply kH | refine kI (by kernel_rfl) (by kernel_rfl) ?_) | (show O _ _ _ _ _ _ _; first | (show O _ _ _ _ (⟨_, .store _ _ _, _, _, _, _⟩ :: _) _ _; refine kJ rfl rfl rfl rfl rfl rfl rfl rfl rfl rfl rfl ?_) | apply kK) | apply kL | ((first | apply kM | apply kN); (iterate 3 (· exact rfl)); (· first | exact ya)) | refine kO rfl rfl rfl rfl rfl ?_ | refine kP rfl rfl rfl ?_ | ((first | refine kQ rfl rfl ?_ ?_ | refine kR rfl rfl rfl rfl rfl ?_ ?_ | refine kS rfl rfl rfl ?_ ?_) <;> intro hc <;> (try simp only [KL, cond_true, cond_false, beq_iff_eq, bne_iff_ne, ne_eq, reduceCtorEq] at hc) <;> (try (have hT : True := hc; clear hT hc)) <;> (try (exfalso; omega))) | apply kT | apply kU | apply kV | apply kW | refine kX rfl ?_ | apply kY | apply kZ)
    all_goals first | (exfalso; omega) | skip
    refine retT (fun _ => turn_freeze (t := 6) rfl rfl rfl) ?_
    exact retq rfl (by rw [h4, ← h5])
abbrev eSn (x : Sn) : List AV := [.int .i64 x.cnt, .int .i64 x.mx, .int .i64 x.mn, .int .i64 x.left]
end Go.Proofs.Ytkkmageogkkchaa
