/- Steps and runs of a frame (frame.Step, Run, Start). No condition. -/
import Derived.Test.YtffciebjpiljgaaG16
import Derived.Test.YtffciebjpiljgaaG17
namespace Go.Proofs.Ytffciebjpiljgaa
set_option linter.unusedSimpArgs false
set_option linter.unusedVariables false
set_option maxRecDepth 100000
set_option linter.unusedSimpArgs false
set_option linter.unusedVariables false
set_option maxRecDepth 100000
open Go.RowKit
def okS (p : List Instr) (f : Fr) (a l : Int) (n : Nat) : Bool := rightF p f.pc f.tn && decide (1 ≤ l) && nsdB n a l
structure StR where
  f : Fr
  k : Int
  st : Int
  L : List Int
def goF (x : Instr) (f : Fr) (a l st : Int) (L : List Int) : StR :=
  let d := doF x f.pc.toNat f.rg f.tn a l st L
  ⟨⟨if d.jmp = true then x.n else f.pc + 1, d.rg, d.tn⟩, 0, d.st, d.L⟩
def stepF (p : List Instr) (f : Fr) (a l st : Int) (L : List Int) : StR :=
  if okS p f a l L.length = true then
    (if kindI (p.getD f.pc.toNat default).op ≠ 0 then ⟨f, kindI (p.getD f.pc.toNat default).op, st, L⟩ else goF (p.getD f.pc.toNat default) f a l st L)
  else ⟨f, 3, st, L⟩
theorem right_inv {p : List Instr} {pc : Int} {tn : List Int} (h : rightF p pc tn = true) : fineB p = true ∧ 0 ≤ pc ∧ pc < p.length ∧ tn.length = p.length ∧ turnsTo p tn p.length = true := by
  rw [rightF, Bool.and_eq_true, Bool.and_eq_true, decide_eq_true_eq] at h
  exact ⟨h.1.1, h.1.2.1, h.1.2.2.1, h.1.2.2.2, h.2⟩
theorem turn_le {p : List Instr} (hf : FineP p) {tn : List Int} (h : turnsTo p tn p.length = true) {k : Nat} (hk : k < p.length) : 0 ≤ tn.getD k default ∧ tn.getD k default ≤ 1000 := by
  have h1 := turns_at h k hk
  have h2 := hf.right k hk
  rw [mostT] at h1
  split at h1
  · rename_i h16
    have : (p.getD k default).c ≤ 255 := by
      generalize p.getD k default = x at *
      rw [rightI, h16] at h2
      simp [kindsOf, kindsN, fitsB] at h2
      omega
    omega
  · omega
def ρt (i : Nat) : Nat := [22, 1, 2, 3, 15].getD i i
abbrev eRe (a l : Int) : List AV := [.int .i64 a, .int .i64 l]
abbrev spH (pc : Int) (rg : Nat → Int) (tn : List Int) (a l st : Int) (L : List Int) : Heap := [(20, .blk 52 (eFw pc rg (.own 15))), (24, .blk 55 (eRe a l)), (21, .blk 52 (eFw 0 (fun _ => 0) .nils)), (15, .row 3 1 (tn.map eI)), (1, .blk 124 [.own 2, .int .i64 st]), (2, .row 47 1 (L.map eU))]
set_option maxHeartbeats 4000000 in
theorem step13_fn (p : List Instr) (f : Fr) (a l st : Int) (L : List Int) (hp : p.length ≤ 1000000) (hn : ∀ i, 0 ≤ (p.getD i default).n ∧ (p.getD i default).n ≤ 4294967295) (hrg : rgB f.rg) (htl : f.tn.length ≤ 1000000) (hL : L.length ≤ 1000000) (hst : 0 ≤ st ∧ st ≤ 1000000) :
    FnH Try.prog 42 [.agg (eFr f), .lst 5 (p.map eInstr), .ptr 1 0, .agg (eRe a l)] (memH st L) (fun r h' => r = .tup [.agg (eFr (stepF p f a l st L).f), .int .i64 (stepF p f a l st L).k] ∧ h' = memH (stepF p f a l st L).st (stepF p f a l st L).L) := by
  refine FnH.drop' (fnhb Try.func42 (entered_of (by kernel_rfl)) rfl rfl ?_)
  obtain ⟨pc, rg, tn⟩ := f
  simp only at hrg htl
  have cI := minside_fn L.length a l hL
  have cL := mlen_fn st L
  have cR := kright13O_fn p pc rg tn hp htl
  rw [stepF, okS]
  simp only
  repeat' (first | (show W _ _ _ _ _ _; first | apply kA | refine kB rfl ?_ | refine kC rfl rfl ?_ | refine kD rfl rfl ?_ | apply kE | apply kF | apply kG | apply kH | refine kI (by kernel_rfl) (by kernel_rfl) ?_) | (show O _ _ _ _ _ _ _; first | (show O _ _ _ _ (⟨_, .box _ _, _, _, _, _⟩ :: _) _ _; first | refine ao_box (id := 20) rfl rfl rfl rfl rfl rfl rfl rfl ?_ | refine ao_box (id := 24) rfl rfl rfl rfl rfl rfl rfl rfl ?_) | (show O _ _ _ _ (⟨_, .alloc _, _, _, _, _⟩ :: _) _ _; first | refine ao_alloc (id := 21) rfl rfl rfl rfl rfl rfl rfl ?_) | (show O _ _ _ _ (⟨_, .store _ _ _, _, _, _, _⟩ :: _) _ _; refine kJ rfl rfl rfl rfl rfl rfl rfl rfl rfl rfl rfl ?_) | apply kK) | apply kL | ((first | apply kM | apply kN); (iterate 3 (· exact rfl)); (· first | exact yab)) | refine kO rfl rfl rfl rfl rfl ?_ | refine kP rfl rfl rfl ?_ | ((first | refine kQ rfl rfl ?_ ?_ | refine kR rfl rfl rfl rfl rfl ?_ ?_ | refine kS rfl rfl rfl ?_ ?_) <;> intro hc <;> (try simp only [KL, cond_true, cond_false, beq_iff_eq, bne_iff_ne, ne_eq, reduceCtorEq] at hc) <;> (try (have hT : True := hc; clear hT hc)) <;> (try (exfalso; omega))) | apply kT | apply kU | apply kV | apply kW | refine kX rfl ?_ | apply kY | apply kZ)
  refine oturn (turn_dummy eI 15 3 1 (by omega) rfl) ?_
  refine zcall (fun i => i + 10) (own13_fn pc rg tn htl) rfl rfl leh rfl rfl rfl rfl rfl rfl (fun r h' hR => ?_)
  obtain ⟨rfl, rfl⟩ := hR
  refine ⟨rfl, rfl, ?_⟩
  repeat' (first | (show W _ _ _ _ _ _; first | apply kA | refine kB rfl ?_ | refine kC rfl rfl ?_ | refine kD rfl rfl ?_ | apply kE | apply kF | apply kG | apply kH) | (show O _ _ _ _ _ _ _; first | (show O _ _ _ _ (⟨_, .store _ _ _, _, _, _, _⟩ :: _) _ _; refine kJ rfl rfl rfl rfl rfl rfl rfl rfl rfl rfl rfl ?_) | apply kK) | apply kL | ((first | apply kM | apply kN); (iterate 3 (· exact rfl)); (· first | exact ya)) | refine kO rfl rfl rfl rfl rfl ?_ | refine kP rfl rfl rfl ?_ | ((first | refine kQ rfl rfl ?_ ?_ | refine kR rfl rfl rfl rfl rfl ?_ ?_ | refine kS rfl rfl rfl ?_ ?_) <;> intro hc <;> (try simp only [KL, cond_true, cond_false, beq_iff_eq, bne_iff_ne, ne_eq, reduceCtorEq] at hc) <;> (try (have hT : True := hc; clear hT hc)) <;> (try (exfalso; omega))) | apply kT | apply kU | apply kV | apply kW | refine kX rfl ?_ | apply kY | apply kZ)
  refine wle (s' := [(1, .lst 5 (p.map eInstr)), (2, .ptr 1 0), (4, .ptr 20 0), (7, .ptr 24 0), (8, .ptr 21 0)]) (h' := spH pc rg tn a l st L) les leh ?_
  refine wdrawC (H := fun _ : Unit => spH pc rg tn a l st L) (ok := fun _ => True) (tn := [2, 11]) (ln := []) () leh (by kernel_rfl) (by kernel_rfl) (by kernel_rfl) trivial ?_
  cases hr : rightF p pc tn
  · rw [hr] at cR
    rw [Bool.false_and, Bool.false_and, if_neg (by decide)]
    repeat' (first | (show W _ _ _ _ _ _; first | apply kA | refine kB rfl ?_ | refine kC rfl rfl ?_ | refine kD rfl rfl ?_ | apply kE | apply kF | apply kG | apply kH) | (show O _ _ _ _ _ _ _; first | (show O _ _ _ _ (⟨_, .store _ _ _, _, _, _, _⟩ :: _) _ _; refine kJ rfl rfl rfl rfl rfl rfl rfl rfl rfl rfl rfl ?_) | apply kK) | apply kL | ((first | apply kM | apply kN); (iterate 3 (· exact rfl)); (· first | exact ya)) | (show C _ _ _ _ _ _ _ _ _ _ _; first | refine cnil ?_ | (apply c_any; (· exact rfl); (· exact rfl); (· intro y' hy'; first | exact ya)) | (apply c_ld; (· exact rfl); (· exact rfl); (· exact rfl); (· first | exact ya)) | refine c_grdN rfl rfl rfl ?_) | refine kO rfl rfl rfl rfl rfl ?_ | refine kP rfl rfl rfl ?_ | ((first | refine kQ rfl rfl ?_ ?_ | refine kR rfl rfl rfl rfl rfl ?_ ?_ | refine kS rfl rfl rfl ?_ ?_ | refine c_grd rfl rfl rfl ?_ ?_) <;> intro hc <;> (try simp only [KL, cond_true, cond_false, beq_iff_eq, bne_iff_ne, ne_eq, reduceCtorEq] at hc) <;> (try (have hT : True := hc; clear hT hc)) <;> (try (exfalso; omega))) | apply kT | apply kU | apply kV | apply kW | refine kX rfl ?_ | apply kY | apply kZ)
    refine c_tu (x' := ()) rfl rfl trivial (tu_call (fun i => i + 11) cR rfl leh rfl rfl rfl rfl rfl rfl leh) ?_
    repeat' (first | (show W _ _ _ _ _ _; first | apply kA | refine kB rfl ?_ | refine kC rfl rfl ?_ | refine kD rfl rfl ?_ | apply kE | apply kF | apply kG | apply kH) | (show O _ _ _ _ _ _ _; first | (show O _ _ _ _ (⟨_, .store _ _ _, _, _, _, _⟩ :: _) _ _; refine kJ rfl rfl rfl rfl rfl rfl rfl rfl rfl rfl rfl ?_) | apply kK) | apply kL | ((first | apply kM | apply kN); (iterate 3 (· exact rfl)); (· first | exact ya)) | (show C _ _ _ _ _ _ _ _ _ _ _; first | refine cnil ?_ | (apply c_any; (· exact rfl); (· exact rfl); (· intro y' hy'; first | exact ya)) | (apply c_ld; (· exact rfl); (· exact rfl); (· exact rfl); (· first | exact ya)) | refine c_grdN rfl rfl rfl ?_) | refine kO rfl rfl rfl rfl rfl ?_ | refine kP rfl rfl rfl ?_ | ((first | refine kQ rfl rfl ?_ ?_ | refine kR rfl rfl rfl rfl rfl ?_ ?_ | refine kS rfl rfl rfl ?_ ?_ | refine c_grd rfl rfl rfl ?_ ?_) <;> intro hc <;> (try simp only [KL, cond_true, cond_false, beq_iff_eq, bne_iff_ne, ne_eq, reduceCtorEq] at hc) <;> (try (have hT : True := hc; clear hT hc)) <;> (try (exfalso; omega))) | apply kT | apply kU | apply kV | apply kW | refine kX rfl ?_ | apply kY | apply kZ)
    all_goals first | (exfalso; omega) | skip
    refine retT (fun _ => Turns.le (s' := [(8, .ptr 21 0), (9, .int .i64 3)]) (h' := [(21, .blk 52 (eFw pc rg (.own 15))), (15, .row 3 1 (tn.map eI)), (1, .blk 124 [.own 2, .int .i64 st]), (2, .row 47 1 (L.map eU))]) les leh) ?_
    refine retT (fun _ => turn_frzJ (b := 21) 9 rfl rfl rfl rfl) ?_
    exact retq rfl ⟨memH st L, leh, rfl, rfl⟩
  rw [hr] at cR
  rw [Bool.true_and]
  by_cases h1 : 1 ≤ l
  case neg =>
    rw [decide_eq_false h1, Bool.false_and, if_neg (by decide)]
    repeat' (first | (show W _ _ _ _ _ _; first | apply kA | refine kB rfl ?_ | refine kC rfl rfl ?_ | refine kD rfl rfl ?_ | apply kE | apply kF | apply kG | apply kH) | (show O _ _ _ _ _ _ _; first | (show O _ _ _ _ (⟨_, .store _ _ _, _, _, _, _⟩ :: _) _ _; refine kJ rfl rfl rfl rfl rfl rfl rfl rfl rfl rfl rfl ?_) | apply kK) | apply kL | ((first | apply kM | apply kN); (iterate 3 (· exact rfl)); (· first | exact ya)) | (show C _ _ _ _ _ _ _ _ _ _ _; first | refine cnil ?_ | (apply c_any; (· exact rfl); (· exact rfl); (· intro y' hy'; first | exact ya)) | (apply c_ld; (· exact rfl); (· exact rfl); (· exact rfl); (· first | exact ya)) | refine c_grdN rfl rfl rfl ?_) | refine kO rfl rfl rfl rfl rfl ?_ | refine kP rfl rfl rfl ?_ | ((first | refine kQ rfl rfl ?_ ?_ | refine kR rfl rfl rfl rfl rfl ?_ ?_ | refine kS rfl rfl rfl ?_ ?_ | refine c_grd rfl rfl rfl ?_ ?_) <;> intro hc <;> (try simp only [KL, cond_true, cond_false, beq_iff_eq, bne_iff_ne, ne_eq, reduceCtorEq] at hc) <;> (try (have hT : True := hc; clear hT hc)) <;> (try (exfalso; omega))) | apply kT | apply kU | apply kV | apply kW | refine kX rfl ?_ | apply kY | apply kZ)
    refine c_tu (x' := ()) rfl rfl trivial (tu_call (fun i => i + 11) cR rfl leh rfl rfl rfl rfl rfl rfl leh) ?_
    repeat' (first | (show W _ _ _ _ _ _; first | apply kA | refine kB rfl ?_ | refine kC rfl rfl ?_ | refine kD rfl rfl ?_ | apply kE | apply kF | apply kG | apply kH) | (show O _ _ _ _ _ _ _; first | (show O _ _ _ _ (⟨_, .store _ _ _, _, _, _, _⟩ :: _) _ _; refine kJ rfl rfl rfl rfl rfl rfl rfl rfl rfl rfl rfl ?_) | apply kK) | apply kL | ((first | apply kM | apply kN); (iterate 3 (· exact rfl)); (· first | exact ya)) | (show C _ _ _ _ _ _ _ _ _ _ _; first | refine cnil ?_ | (apply c_any; (· exact rfl); (· exact rfl); (· intro y' hy'; first | exact ya)) | (apply c_ld; (· exact rfl); (· exact rfl); (· exact rfl); (· first | exact ya)) | refine c_grdN rfl rfl rfl ?_) | refine kO rfl rfl rfl rfl rfl ?_ | refine kP rfl rfl rfl ?_ | ((first | refine kQ rfl rfl ?_ ?_ | refine kR rfl rfl rfl rfl rfl ?_ ?_ | refine kS rfl rfl rfl ?_ ?_ | refine c_grd rfl rfl rfl ?_ ?_) <;> intro hc <;> (try simp only [KL, cond_true, cond_false, beq_iff_eq, bne_iff_ne, ne_eq, reduceCtorEq] at hc) <;> (try (have hT : True := hc; clear hT hc)) <;> (try (exfalso; omega))) | apply kT | apply kU | apply kV | apply kW | refine kX rfl ?_ | apply kY | apply kZ)
    all_goals first | (exfalso; omega) | skip
    refine retT (fun _ => Turns.le (s' := [(8, .ptr 21 0), (9, .int .i64 3)]) (h' := [(21, .blk 52 (eFw pc rg (.own 15))), (15, .row 3 1 (tn.map eI)), (1, .blk 124 [.own 2, .int .i64 st]), (2, .row 47 1 (L.map eU))]) les leh) ?_
    refine retT (fun _ => turn_frzJ (b := 21) 9 rfl rfl rfl rfl) ?_
    exact retq rfl ⟨memH st L, leh, rfl, rfl⟩
  rw [decide_eq_true h1, Bool.true_and]
  cases hi : nsdB L.length a l
  · rw [hi] at cI
    rw [if_neg (by decide)]
    repeat' (first | (show W _ _ _ _ _ _; first | apply kA | refine kB rfl ?_ | refine kC rfl rfl ?_ | refine kD rfl rfl ?_ | apply kE | apply kF | apply kG | apply kH) | (show O _ _ _ _ _ _ _; first | (show O _ _ _ _ (⟨_, .store _ _ _, _, _, _, _⟩ :: _) _ _; refine kJ rfl rfl rfl rfl rfl rfl rfl rfl rfl rfl rfl ?_) | apply kK) | apply kL | ((first | apply kM | apply kN); (iterate 3 (· exact rfl)); (· first | exact ya)) | (show C _ _ _ _ _ _ _ _ _ _ _; first | refine cnil ?_ | (apply c_any; (· exact rfl); (· exact rfl); (· intro y' hy'; first | exact ya)) | (apply c_ld; (· exact rfl); (· exact rfl); (· exact rfl); (· first | exact ya)) | refine c_grdN rfl rfl rfl ?_) | refine kO rfl rfl rfl rfl rfl ?_ | refine kP rfl rfl rfl ?_ | ((first | refine kQ rfl rfl ?_ ?_ | refine kR rfl rfl rfl rfl rfl ?_ ?_ | refine kS rfl rfl rfl ?_ ?_ | refine c_grd rfl rfl rfl ?_ ?_) <;> intro hc <;> (try simp only [KL, cond_true, cond_false, beq_iff_eq, bne_iff_ne, ne_eq, reduceCtorEq] at hc) <;> (try (have hT : True := hc; clear hT hc)) <;> (try (exfalso; omega))) | apply kT | apply kU | apply kV | apply kW | refine kX rfl ?_ | apply kY | apply kZ)
    refine c_tu (x' := ()) rfl rfl trivial (tu_call (fun i => i + 11) cR rfl leh rfl rfl rfl rfl rfl rfl leh) ?_
    repeat' (first | (show W _ _ _ _ _ _; first | apply kA | refine kB rfl ?_ | refine kC rfl rfl ?_ | refine kD rfl rfl ?_ | apply kE | apply kF | apply kG | apply kH) | (show O _ _ _ _ _ _ _; first | (show O _ _ _ _ (⟨_, .store _ _ _, _, _, _, _⟩ :: _) _ _; refine kJ rfl rfl rfl rfl rfl rfl rfl rfl rfl rfl rfl ?_) | apply kK) | apply kL | ((first | apply kM | apply kN); (iterate 3 (· exact rfl)); (· first | exact ya)) | (show C _ _ _ _ _ _ _ _ _ _ _; first | refine cnil ?_ | (apply c_any; (· exact rfl); (· exact rfl); (· intro y' hy'; first | exact ya)) | (apply c_ld; (· exact rfl); (· exact rfl); (· exact rfl); (· first | exact ya)) | refine c_grdN rfl rfl rfl ?_) | refine kO rfl rfl rfl rfl rfl ?_ | refine kP rfl rfl rfl ?_ | ((first | refine kQ rfl rfl ?_ ?_ | refine kR rfl rfl rfl rfl rfl ?_ ?_ | refine kS rfl rfl rfl ?_ ?_ | refine c_grd rfl rfl rfl ?_ ?_) <;> intro hc <;> (try simp only [KL, cond_true, cond_false, beq_iff_eq, bne_iff_ne, ne_eq, reduceCtorEq] at hc) <;> (try (have hT : True := hc; clear hT hc)) <;> (try (exfalso; omega))) | apply kT | apply kU | apply kV | apply kW | refine kX rfl ?_ | apply kY | apply kZ)
    all_goals first | (exfalso; omega) | skip
    refine c_tu (x' := ()) rfl rfl trivial (tu_call (fun i => i) cL rfl leh rfl rfl rfl rfl rfl rfl leh) ?_
    repeat' (first | (show W _ _ _ _ _ _; first | apply kA | refine kB rfl ?_ | refine kC rfl rfl ?_ | refine kD rfl rfl ?_ | apply kE | apply kF | apply kG | apply kH) | (show O _ _ _ _ _ _ _; first | (show O _ _ _ _ (⟨_, .store _ _ _, _, _, _, _⟩ :: _) _ _; refine kJ rfl rfl rfl rfl rfl rfl rfl rfl rfl rfl rfl ?_) | apply kK) | apply kL | ((first | apply kM | apply kN); (iterate 3 (· exact rfl)); (· first | (show Y _ ⟨_, .call ⟨.value _, _, _⟩, _, _, _, _⟩ _ _ _; first | exact q_c (cI) rfl) | exact ya)) | (show C _ _ _ _ _ _ _ _ _ _ _; first | refine cnil ?_ | (apply c_any; (· exact rfl); (· exact rfl); (· intro y' hy'; first | (show Y _ ⟨_, .call ⟨.value _, _, _⟩, _, _, _, _⟩ _ _ _; first | exact q_c (cI) rfl) | exact ya)) | (apply c_ld; (· exact rfl); (· exact rfl); (· exact rfl); (· first | (show Y _ ⟨_, .call ⟨.value _, _, _⟩, _, _, _, _⟩ _ _ _; first | exact q_c (cI) rfl) | exact ya)) | refine c_grdN rfl rfl rfl ?_) | refine kO rfl rfl rfl rfl rfl ?_ | refine kP rfl rfl rfl ?_ | ((first | refine kQ rfl rfl ?_ ?_ | refine kR rfl rfl rfl rfl rfl ?_ ?_ | refine kS rfl rfl rfl ?_ ?_ | refine c_grd rfl rfl rfl ?_ ?_) <;> intro hc <;> (try simp only [KL, cond_true, cond_false, beq_iff_eq, bne_iff_ne, ne_eq, reduceCtorEq] at hc) <;> (try (have hT : True := hc; clear hT hc)) <;> (try (exfalso; omega))) | apply kT | apply kU | apply kV | apply kW | refine kX rfl ?_ | apply kY | apply kZ)
    all_goals first | (exfalso; omega) | skip
    refine retT (fun _ => Turns.le (s' := [(8, .ptr 21 0), (9, .int .i64 3)]) (h' := [(21, .blk 52 (eFw pc rg (.own 15))), (15, .row 3 1 (tn.map eI)), (1, .blk 124 [.own 2, .int .i64 st]), (2, .row 47 1 (L.map eU))]) les leh) ?_
    refine retT (fun _ => turn_frzJ (b := 21) 9 rfl rfl rfl rfl) ?_
    exact retq rfl ⟨memH st L, leh, rfl, rfl⟩
  rw [hi] at cI
  rw [if_pos rfl]
  obtain ⟨hf, h0, h2, h3, h4⟩ := right_inv hr
  have hfp := fine_inv hf
  obtain ⟨j, rfl⟩ : ∃ j : Nat, pc = j := ⟨pc.toNat, by omega⟩
  rw [goF]
  simp only [Int.toNat_natCast]
  have hx := hfp.right j (by omega)
  have hnj := hn j
  have htj := turn_le hfp h4 (k := j) (by omega)
  obtain ⟨x, hxd⟩ : ∃ x, p.getD j default = x := ⟨_, rfl⟩
  rw [hxd] at hx hnj ⊢
  have cK := kind13_fn x
  have hib := hi
  rw [nsdB, decide_eq_true_eq] at hib
  by_cases hk : kindI x.op = 0
  case neg =>
    rw [if_pos hk]
    generalize kindI x.op = K at *
    repeat' (first | (show W _ _ _ _ _ _; first | apply kA | refine kB rfl ?_ | refine kC rfl rfl ?_ | refine kD rfl rfl ?_ | apply kE | apply kF | apply kG | apply kH) | (show O _ _ _ _ _ _ _; first | (show O _ _ _ _ (⟨_, .store _ _ _, _, _, _, _⟩ :: _) _ _; refine kJ rfl rfl rfl rfl rfl rfl rfl rfl rfl rfl rfl ?_) | apply kK) | apply kL | ((first | apply kM | apply kN); (iterate 3 (· exact rfl)); (· first | exact ya)) | (show C _ _ _ _ _ _ _ _ _ _ _; first | refine cnil ?_ | (apply c_any; (· exact rfl); (· exact rfl); (· intro y' hy'; first | exact ya)) | (apply c_ld; (· exact rfl); (· exact rfl); (· exact rfl); (· first | exact ya)) | refine c_grdN rfl rfl rfl ?_) | refine kO rfl rfl rfl rfl rfl ?_ | refine kP rfl rfl rfl ?_ | ((first | refine kQ rfl rfl ?_ ?_ | refine kR rfl rfl rfl rfl rfl ?_ ?_ | refine kS rfl rfl rfl ?_ ?_ | refine c_grd rfl rfl rfl ?_ ?_) <;> intro hc <;> (try simp only [KL, cond_true, cond_false, beq_iff_eq, bne_iff_ne, ne_eq, reduceCtorEq] at hc) <;> (try (have hT : True := hc; clear hT hc)) <;> (try (exfalso; omega))) | apply kT | apply kU | apply kV | apply kW | refine kX rfl ?_ | apply kY | apply kZ)
    refine c_tu (x' := ()) rfl rfl trivial (tu_call (fun i => i + 11) cR rfl leh rfl rfl rfl rfl rfl rfl leh) ?_
    repeat' (first | (show W _ _ _ _ _ _; first | apply kA | refine kB rfl ?_ | refine kC rfl rfl ?_ | refine kD rfl rfl ?_ | apply kE | apply kF | apply kG | apply kH) | (show O _ _ _ _ _ _ _; first | (show O _ _ _ _ (⟨_, .store _ _ _, _, _, _, _⟩ :: _) _ _; refine kJ rfl rfl rfl rfl rfl rfl rfl rfl rfl rfl rfl ?_) | apply kK) | apply kL | ((first | apply kM | apply kN); (iterate 3 (· exact rfl)); (· first | exact ya)) | (show C _ _ _ _ _ _ _ _ _ _ _; first | refine cnil ?_ | (apply c_any; (· exact rfl); (· exact rfl); (· intro y' hy'; first | exact ya)) | (apply c_ld; (· exact rfl); (· exact rfl); (· exact rfl); (· first | exact ya)) | refine c_grdN rfl rfl rfl ?_) | refine kO rfl rfl rfl rfl rfl ?_ | refine kP rfl rfl rfl ?_ | ((first | refine kQ rfl rfl ?_ ?_ | refine kR rfl rfl rfl rfl rfl ?_ ?_ | refine kS rfl rfl rfl ?_ ?_ | refine c_grd rfl rfl rfl ?_ ?_) <;> intro hc <;> (try simp only [KL, cond_true, cond_false, beq_iff_eq, bne_iff_ne, ne_eq, reduceCtorEq] at hc) <;> (try (have hT : True := hc; clear hT hc)) <;> (try (exfalso; omega))) | apply kT | apply kU | apply kV | apply kW | refine kX rfl ?_ | apply kY | apply kZ)
    all_goals first | (exfalso; omega) | skip
    refine c_tu (x' := ()) rfl rfl trivial (tu_call (fun i => i) cL rfl leh rfl rfl rfl rfl rfl rfl leh) ?_
    repeat' (first | (show W _ _ _ _ _ _; first | apply kA | refine kB rfl ?_ | refine kC rfl rfl ?_ | refine kD rfl rfl ?_ | apply kE | apply kF | apply kG | apply kH) | (show O _ _ _ _ _ _ _; first | (show O _ _ _ _ (⟨_, .alloc _, _, _, _, _⟩ :: _) _ _; first | refine ao_alloc (id := 26) rfl rfl rfl rfl rfl rfl rfl ?_) | (show O _ _ _ _ (⟨_, .store _ _ _, _, _, _, _⟩ :: _) _ _; refine kJ rfl rfl rfl rfl rfl rfl rfl rfl rfl rfl rfl ?_) | apply kK) | apply kL | ((first | apply kM | apply kN); (iterate 3 (· exact rfl)); (· first | (show Y _ ⟨_, .indexAddr _ _ _, _, _, _, _⟩ _ _ _; first | exact Y.mk (ok_indexE (hxd) rfl rfl rfl rfl rfl (by omega))) | (show Y _ ⟨_, .call ⟨.value _, _, _⟩, _, _, _, _⟩ _ _ _; first | exact q_c (cI) rfl | exact q_c (cK) rfl) | exact ya)) | (show C _ _ _ _ _ _ _ _ _ _ _; first | refine cnil ?_ | (apply c_any; (· exact rfl); (· exact rfl); (· intro y' hy'; first | (show Y _ ⟨_, .indexAddr _ _ _, _, _, _, _⟩ _ _ _; first | exact Y.mk (ok_indexE (hxd) rfl rfl rfl rfl rfl (by omega))) | (show Y _ ⟨_, .call ⟨.value _, _, _⟩, _, _, _, _⟩ _ _ _; first | exact q_c (cI) rfl | exact q_c (cK) rfl) | exact ya)) | (apply c_ld; (· exact rfl); (· exact rfl); (· exact rfl); (· first | (show Y _ ⟨_, .indexAddr _ _ _, _, _, _, _⟩ _ _ _; first | exact Y.mk (ok_indexE (hxd) rfl rfl rfl rfl rfl (by omega))) | (show Y _ ⟨_, .call ⟨.value _, _, _⟩, _, _, _, _⟩ _ _ _; first | exact q_c (cI) rfl | exact q_c (cK) rfl) | exact ya)) | refine c_grdN rfl rfl rfl ?_) | refine kO rfl rfl rfl rfl rfl ?_ | refine kP rfl rfl rfl ?_ | ((first | refine kQ rfl rfl ?_ ?_ | refine kR rfl rfl rfl rfl rfl ?_ ?_ | refine kS rfl rfl rfl ?_ ?_ | refine c_grd rfl rfl rfl ?_ ?_) <;> intro hc <;> (try simp only [KL, cond_true, cond_false, beq_iff_eq, bne_iff_ne, ne_eq, reduceCtorEq] at hc) <;> (try (have hT : True := hc; clear hT hc)) <;> (try (exfalso; omega))) | apply kT | apply kU | apply kV | apply kW | refine kX rfl ?_ | apply kY | apply kZ)
    all_goals first | (exfalso; omega) | skip
    refine retT (fun _ => Turns.le (s' := [(8, .ptr 21 0), (9, .int .i64 K)]) (h' := [(21, .blk 52 (eFw j rg (.own 15))), (15, .row 3 1 (tn.map eI)), (1, .blk 124 [.own 2, .int .i64 st]), (2, .row 47 1 (L.map eU))]) les leh) ?_
    refine retT (fun _ => turn_frzJ (b := 21) 9 rfl rfl rfl rfl) ?_
    exact retq rfl ⟨memH st L, leh, rfl, rfl⟩
  rw [if_neg (fun e => e hk)]
  rw [hk] at cK
  have cD := do13_fn x j rg tn a l st L hx hnj hrg (by omega) htj ⟨by omega, by omega⟩ ⟨h1, by omega⟩ hi hst
  generalize doF x j rg tn a l st L = d at *
  obtain ⟨dj, dr, dt, ds, dL⟩ := d
  simp only at cD ⊢
  repeat' (first | (show W _ _ _ _ _ _; first | apply kA | refine kB rfl ?_ | refine kC rfl rfl ?_ | refine kD rfl rfl ?_ | apply kE | apply kF | apply kG | apply kH) | (show O _ _ _ _ _ _ _; first | (show O _ _ _ _ (⟨_, .store _ _ _, _, _, _, _⟩ :: _) _ _; refine kJ rfl rfl rfl rfl rfl rfl rfl rfl rfl rfl rfl ?_) | apply kK) | apply kL | ((first | apply kM | apply kN); (iterate 3 (· exact rfl)); (· first | exact ya)) | (show C _ _ _ _ _ _ _ _ _ _ _; first | refine cnil ?_ | (apply c_any; (· exact rfl); (· exact rfl); (· intro y' hy'; first | exact ya)) | (apply c_ld; (· exact rfl); (· exact rfl); (· exact rfl); (· first | exact ya)) | refine c_grdN rfl rfl rfl ?_) | refine kO rfl rfl rfl rfl rfl ?_ | refine kP rfl rfl rfl ?_ | ((first | refine kQ rfl rfl ?_ ?_ | refine kR rfl rfl rfl rfl rfl ?_ ?_ | refine kS rfl rfl rfl ?_ ?_ | refine c_grd rfl rfl rfl ?_ ?_) <;> intro hc <;> (try simp only [KL, cond_true, cond_false, beq_iff_eq, bne_iff_ne, ne_eq, reduceCtorEq] at hc) <;> (try (have hT : True := hc; clear hT hc)) <;> (try (exfalso; omega))) | apply kT | apply kU | apply kV | apply kW | refine kX rfl ?_ | apply kY | apply kZ)
  refine c_tu (x' := ()) rfl rfl trivial (tu_call (fun i => i + 11) cR rfl leh rfl rfl rfl rfl rfl rfl leh) ?_
  repeat' (first | (show W _ _ _ _ _ _; first | apply kA | refine kB rfl ?_ | refine kC rfl rfl ?_ | refine kD rfl rfl ?_ | apply kE | apply kF | apply kG | apply kH) | (show O _ _ _ _ _ _ _; first | (show O _ _ _ _ (⟨_, .store _ _ _, _, _, _, _⟩ :: _) _ _; refine kJ rfl rfl rfl rfl rfl rfl rfl rfl rfl rfl rfl ?_) | apply kK) | apply kL | ((first | apply kM | apply kN); (iterate 3 (· exact rfl)); (· first | exact ya)) | (show C _ _ _ _ _ _ _ _ _ _ _; first | refine cnil ?_ | (apply c_any; (· exact rfl); (· exact rfl); (· intro y' hy'; first | exact ya)) | (apply c_ld; (· exact rfl); (· exact rfl); (· exact rfl); (· first | exact ya)) | refine c_grdN rfl rfl rfl ?_) | refine kO rfl rfl rfl rfl rfl ?_ | refine kP rfl rfl rfl ?_ | ((first | refine kQ rfl rfl ?_ ?_ | refine kR rfl rfl rfl rfl rfl ?_ ?_ | refine kS rfl rfl rfl ?_ ?_ | refine c_grd rfl rfl rfl ?_ ?_) <;> intro hc <;> (try simp only [KL, cond_true, cond_false, beq_iff_eq, bne_iff_ne, ne_eq, reduceCtorEq] at hc) <;> (try (have hT : True := hc; clear hT hc)) <;> (try (exfalso; omega))) | apply kT | apply kU | apply kV | apply kW | refine kX rfl ?_ | apply kY | apply kZ)
  all_goals first | (exfalso; omega) | skip
  refine c_tu (x' := ()) rfl rfl trivial (tu_call (fun i => i) cL rfl leh rfl rfl rfl rfl rfl rfl leh) ?_
  repeat' (first | (show W _ _ _ _ _ _; first | apply kA | refine kB rfl ?_ | refine kC rfl rfl ?_ | refine kD rfl rfl ?_ | apply kE | apply kF | apply kG | apply kH) | (show O _ _ _ _ _ _ _; first | (show O _ _ _ _ (⟨_, .alloc _, _, _, _, _⟩ :: _) _ _; first | refine ao_alloc (id := 26) rfl rfl rfl rfl rfl rfl rfl ?_) | (show O _ _ _ _ (⟨_, .store _ _ _, _, _, _, _⟩ :: _) _ _; refine kJ rfl rfl rfl rfl rfl rfl rfl rfl rfl rfl rfl ?_) | apply kK) | apply kL | ((first | apply kM | apply kN); (iterate 3 (· exact rfl)); (· first | (show Y _ ⟨_, .indexAddr _ _ _, _, _, _, _⟩ _ _ _; first | exact Y.mk (ok_indexE (hxd) rfl rfl rfl rfl rfl (by omega))) | (show Y _ ⟨_, .call ⟨.value _, _, _⟩, _, _, _, _⟩ _ _ _; first | exact q_c (cI) rfl | exact q_c (cK) rfl) | exact ya)) | (show C _ _ _ _ _ _ _ _ _ _ _; first | refine cnil ?_ | (apply c_any; (· exact rfl); (· exact rfl); (· intro y' hy'; first | (show Y _ ⟨_, .indexAddr _ _ _, _, _, _, _⟩ _ _ _; first | exact Y.mk (ok_indexE (hxd) rfl rfl rfl rfl rfl (by omega))) | (show Y _ ⟨_, .call ⟨.value _, _, _⟩, _, _, _, _⟩ _ _ _; first | exact q_c (cI) rfl | exact q_c (cK) rfl) | exact ya)) | (apply c_ld; (· exact rfl); (· exact rfl); (· exact rfl); (· first | (show Y _ ⟨_, .indexAddr _ _ _, _, _, _, _⟩ _ _ _; first | exact Y.mk (ok_indexE (hxd) rfl rfl rfl rfl rfl (by omega))) | (show Y _ ⟨_, .call ⟨.value _, _, _⟩, _, _, _, _⟩ _ _ _; first | exact q_c (cI) rfl | exact q_c (cK) rfl) | exact ya)) | refine c_grdN rfl rfl rfl ?_) | refine kO rfl rfl rfl rfl rfl ?_ | refine kP rfl rfl rfl ?_ | ((first | refine kQ rfl rfl ?_ ?_ | refine kR rfl rfl rfl rfl rfl ?_ ?_ | refine kS rfl rfl rfl ?_ ?_ | refine c_grd rfl rfl rfl ?_ ?_) <;> intro hc <;> (try simp only [KL, cond_true, cond_false, beq_iff_eq, bne_iff_ne, ne_eq, reduceCtorEq] at hc) <;> (try (have hT : True := hc; clear hT hc)) <;> (try (exfalso; omega))) | apply kT | apply kU | apply kV | apply kW | refine kX rfl ?_ | apply kY | apply kZ)
  all_goals first | (exfalso; omega) | skip
  refine ao_k (v := .agg (eFw j rg (.own 15) ++ [.ptr 1 0, .int .i64 a, .int .i64 l])) rfl rfl rfl (Y.mk (ok_buildN rfl rfl)) ?_
  repeat' (first | (show W _ _ _ _ _ _; first | apply kA | refine kB rfl ?_ | refine kC rfl rfl ?_ | refine kD rfl rfl ?_ | apply kE | apply kF | apply kG | apply kH | refine kI (by kernel_rfl) (by kernel_rfl) ?_) | (show O _ _ _ _ _ _ _; first | (show O _ _ _ _ (⟨_, .box _ _, _, _, _, _⟩ :: _) _ _; first | refine ao_box (id := 22) rfl rfl rfl rfl rfl rfl rfl rfl ?_) | (show O _ _ _ _ (⟨_, .store _ _ _, _, _, _, _⟩ :: _) _ _; refine kJ rfl rfl rfl rfl rfl rfl rfl rfl rfl rfl rfl ?_) | apply kK) | apply kL | ((first | apply kM | apply kN); (iterate 3 (· exact rfl)); (· first | exact yab)) | refine kO rfl rfl rfl rfl rfl ?_ | refine kP rfl rfl rfl ?_ | ((first | refine kQ rfl rfl ?_ ?_ | refine kR rfl rfl rfl rfl rfl ?_ ?_ | refine kS rfl rfl rfl ?_ ?_) <;> intro hc <;> (try simp only [KL, cond_true, cond_false, beq_iff_eq, bne_iff_ne, ne_eq, reduceCtorEq] at hc) <;> (try (have hT : True := hc; clear hT hc)) <;> (try (exfalso; omega))) | apply kT | apply kU | apply kV | apply kW | refine kX rfl ?_ | apply kY | apply kZ)
  refine ole (s' := [(8, .ptr 21 0), (10, .ptr 26 0), (12, .ptr 22 0), (48, .ptr 22 0), (49, .agg (eInstr x))]) (h' := [(22, .blk 122 (eFw j rg (.own 15) ++ [.ptr 1 0, .int .i64 a, .int .i64 l])), (26, .blk 49 (eInstr x)), (21, .blk 52 (eFw 0 (fun _ => 0) .nils)), (15, .row 3 1 (tn.map eI)), (1, .blk 124 [.own 2, .int .i64 st]), (2, .row 47 1 (L.map eU))]) les leh ?_
  refine zcall (fun i => ρt i) (cD) rfl rfl leh rfl rfl rfl rfl rfl rfl (fun r h' hR => ?_)
  obtain ⟨rfl, rfl⟩ := hR
  refine ⟨rfl, rfl, ?_⟩
  cases dj
  · rw [if_neg (by decide)]
    repeat' (first | (show W _ _ _ _ _ _; first | apply kA | refine kB rfl ?_ | refine kC rfl rfl ?_ | refine kD rfl rfl ?_ | apply kE | apply kF | apply kG | apply kH | refine kI (by kernel_rfl) (by kernel_rfl) ?_) | (show O _ _ _ _ _ _ _; first | (show O _ _ _ _ (⟨_, .store _ _ _, _, _, _, _⟩ :: _) _ _; refine kJ rfl rfl rfl rfl rfl rfl rfl rfl rfl rfl rfl ?_) | apply kK) | apply kL | ((first | apply kM | apply kN); (iterate 3 (· exact rfl)); (· first | exact ya)) | refine kO rfl rfl rfl rfl rfl ?_ | refine kP rfl rfl rfl ?_ | ((first | refine kQ rfl rfl ?_ ?_ | refine kR rfl rfl rfl rfl rfl ?_ ?_ | refine kS rfl rfl rfl ?_ ?_) <;> intro hc <;> (try simp only [KL, cond_true, cond_false, beq_iff_eq, bne_iff_ne, ne_eq, reduceCtorEq] at hc) <;> (try (have hT : True := hc; clear hT hc)) <;> (try (exfalso; omega))) | apply kT | apply kU | apply kV | apply kW | refine kX rfl ?_ | apply kY | apply kZ)
    all_goals first | (exfalso; omega) | skip
    refine retT (fun _ => Turns.le (s' := [(8, .ptr 21 0), (9, .int .i64 0)]) (h' := [(21, .blk 52 (eFw (j + 1) dr (.own 15))), (15, .row 3 1 (dt.map eI)), (1, .blk 124 [.own 2, .int .i64 ds]), (2, .row 47 1 (dL.map eU))]) les leh) ?_
    refine retT (fun _ => turn_frzJ (b := 21) 9 rfl rfl rfl rfl) ?_
    exact retq rfl ⟨memH ds dL, leh, rfl, rfl⟩
  · rw [if_pos rfl]
    repeat' (first | (show W _ _ _ _ _ _; first | apply kA | refine kB rfl ?_ | refine kC rfl rfl ?_ | refine kD rfl rfl ?_ | apply kE | apply kF | apply kG | apply kH | refine kI (by kernel_rfl) (by kernel_rfl) ?_) | (show O _ _ _ _ _ _ _; first | (show O _ _ _ _ (⟨_, .store _ _ _, _, _, _, _⟩ :: _) _ _; refine kJ rfl rfl rfl rfl rfl rfl rfl rfl rfl rfl rfl ?_) | apply kK) | apply kL | ((first | apply kM | apply kN); (iterate 3 (· exact rfl)); (· first | exact ya)) | refine kO rfl rfl rfl rfl rfl ?_ | refine kP rfl rfl rfl ?_ | ((first | refine kQ rfl rfl ?_ ?_ | refine kR rfl rfl rfl rfl rfl ?_ ?_ | refine kS rfl rfl rfl ?_ ?_) <;> intro hc <;> (try simp only [KL, cond_true, cond_false, beq_iff_eq, bne_iff_ne, ne_eq, reduceCtorEq] at hc) <;> (try (have hT : True := hc; clear hT hc)) <;> (try (exfalso; omega))) | apply kT | apply kU | apply kV | apply kW | refine kX rfl ?_ | apply kY | apply kZ)
    all_goals first | (exfalso; omega) | skip
    refine retT (fun _ => Turns.le (s' := [(8, .ptr 21 0), (9, .int .i64 0)]) (h' := [(21, .blk 52 (eFw x.n dr (.own 15))), (15, .row 3 1 (dt.map eI)), (1, .blk 124 [.own 2, .int .i64 ds]), (2, .row 47 1 (dL.map eU))]) les leh) ?_
    refine retT (fun _ => turn_frzJ (b := 21) 9 rfl rfl rfl rfl) ?_
    exact retq rfl ⟨memH ds dL, leh, rfl, rfl⟩
/-! What stays. -/
def wB (L : List Int) : Prop := ∀ i : Nat, 0 ≤ L.getD i default ∧ L.getD i default ≤ 4294967295
theorem wB_set {L : List Int} (h : wB L) (i : Nat) {v : Int} (hv : 0 ≤ v ∧ v ≤ 4294967295) : wB (L.set i v) := fun j => by
  simp only [List.getD_eq_getElem?_getD, List.getElem?_set]
  have := h j
  rw [List.getD_eq_getElem?_getD] at this
  split
  · split
    · exact hv
    · exact ⟨Int.le_refl 0, (by show (0 : Int) ≤ 4294967295; decide)⟩
  · exact this
theorem doF_inv (x : Instr) (pc : Nat) {rg : Nat → Int} (tn : List Int) (a l st : Int) {L : List Int} (hn : 0 ≤ x.n ∧ x.n ≤ 4294967295) (hr : rgB rg) (hL : wB L) :
    rgB (doF x pc rg tn a l st L).rg ∧ wB (doF x pc rg tn a l st L).L ∧ (doF x pc rg tn a l st L).L.length = L.length ∧ (doF x pc rg tn a l st L).tn.length = tn.length ∧ st ≤ (doF x pc rg tn a l st L).st ∧ (doF x pc rg tn a l st L).st ≤ st + 1 := by
  unfold doF
  by_cases h1 : x.op = 1
  · rw [if_pos h1]; exact ⟨rgB_set hr _ hn, hL, rfl, rfl, Int.le_refl _, by simp only; omega⟩
  rw [if_neg h1]
  by_cases h2 : x.op = 2
  · rw [if_pos h2]; exact ⟨rgB_set hr _ (hr _), hL, rfl, rfl, Int.le_refl _, by simp only; omega⟩
  rw [if_neg h2]
  by_cases h3 : x.op = 11
  · rw [if_pos h3]; exact ⟨rgB_set hr _ (hL _), hL, rfl, rfl, by simp only; omega, by simp only; omega⟩
  rw [if_neg h3]
  by_cases h4 : x.op = 12
  · rw [if_pos h4]; exact ⟨hr, wB_set hL _ (hr _), by simp only [List.length_set], rfl, by simp only; omega, by simp only; omega⟩
  rw [if_neg h4]
  by_cases h5 : x.op = 13
  · rw [if_pos h5]
    split
    · exact ⟨rgB_set hr _ (by decide), wB_set hL _ (hr _), by simp only [List.length_set], rfl, by simp only; omega, by simp only; omega⟩
    · exact ⟨rgB_set hr _ (by decide), hL, rfl, rfl, by simp only; omega, by simp only; omega⟩
  rw [if_neg h5]
  by_cases h6 : x.op = 15
  · rw [if_pos h6]; exact ⟨hr, hL, rfl, rfl, Int.le_refl _, by simp only; omega⟩
  rw [if_neg h6]
  by_cases h7 : x.op = 14
  · rw [if_pos h7]; exact ⟨hr, hL, rfl, rfl, Int.le_refl _, by simp only; omega⟩
  rw [if_neg h7]
  by_cases h8 : x.op = 16
  · rw [if_pos h8]
    split
    · exact ⟨hr, hL, rfl, by simp only [List.length_set], Int.le_refl _, by simp only; omega⟩
    · exact ⟨hr, hL, rfl, by simp only [List.length_set], Int.le_refl _, by simp only; omega⟩
  rw [if_neg h8]
  split
  · exact ⟨rgB_set hr _ (aluW_B _ _ _ (hr _) (hr _)), hL, rfl, rfl, Int.le_refl _, by simp only; omega⟩
  · exact ⟨hr, hL, rfl, rfl, Int.le_refl _, by simp only; omega⟩
theorem step_inv (p : List Instr) (f : Fr) (a l st : Int) (L : List Int) (hn : ∀ i, 0 ≤ (p.getD i default).n ∧ (p.getD i default).n ≤ 4294967295) (hr : rgB f.rg) (hL : wB L) :
    rgB (stepF p f a l st L).f.rg ∧ wB (stepF p f a l st L).L ∧ (stepF p f a l st L).L.length = L.length ∧ (stepF p f a l st L).f.tn.length = f.tn.length ∧ st ≤ (stepF p f a l st L).st ∧ (stepF p f a l st L).st ≤ st + 1 := by
  unfold stepF
  split
  · split
    · exact ⟨hr, hL, rfl, rfl, Int.le_refl _, by simp only; omega⟩
    · rw [goF]
      exact doF_inv _ _ _ _ _ _ (hn _) hr hL
  · exact ⟨hr, hL, rfl, rfl, Int.le_refl _, by simp only; omega⟩
/-! Runs. -/
structure RnR where
  f : Fr
  n : Nat
  k : Int
  st : Int
  L : List Int
def runF (p : List Instr) (a l : Int) : Nat → Fr → Int → List Int → RnR
  | 0, f, st, L => ⟨f, 0, 0, st, L⟩
  | m + 1, f, st, L =>
    if (stepF p f a l st L).k ≠ 0 then ⟨f, 0, (stepF p f a l st L).k, (stepF p f a l st L).st, (stepF p f a l st L).L⟩ else
    let r := runF p a l m (stepF p f a l st L).f (stepF p f a l st L).st (stepF p f a l st L).L
    ⟨r.f, r.n + 1, r.k, r.st, r.L⟩
theorem run_stop (p : List Instr) (a l : Int) (m : Nat) (f : Fr) (st : Int) (L : List Int) (h : (stepF p f a l st L).k ≠ 0) : runF p a l (m + 1) f st L = ⟨f, 0, (stepF p f a l st L).k, (stepF p f a l st L).st, (stepF p f a l st L).L⟩ := by rw [runF, if_pos h]
theorem run_more (p : List Instr) (a l : Int) (m : Nat) (f : Fr) (st : Int) (L : List Int) (h : (stepF p f a l st L).k = 0) : runF p a l (m + 1) f st L = ⟨(runF p a l m (stepF p f a l st L).f (stepF p f a l st L).st (stepF p f a l st L).L).f, (runF p a l m (stepF p f a l st L).f (stepF p f a l st L).st (stepF p f a l st L).L).n + 1, (runF p a l m (stepF p f a l st L).f (stepF p f a l st L).st (stepF p f a l st L).L).k, (runF p a l m (stepF p f a l st L).f (stepF p f a l st L).st (stepF p f a l st L).L).st, (runF p a l m (stepF p f a l st L).f (stepF p f a l st L).st (stepF p f a l st L).L).L⟩ := by
  rw [runF, if_neg (fun e => e h)]
abbrev rnH (f : Fr) (a l st : Int) (L : List Int) : Heap := [(20, .blk 52 (eFr f)), (24, .blk 55 (eRe a l)), (21, .blk 52 (eFw 0 (fun _ => 0) .nils)), (1, .blk 124 [.own 2, .int .i64 st]), (2, .row 47 1 (L.map eU))]
set_option maxHeartbeats 4000000 in
theorem run13_fn (p : List Instr) (f : Fr) (a l st most : Int) (L : List Int) (hp : p.length ≤ 1000000) (hn : ∀ i, 0 ≤ (p.getD i default).n ∧ (p.getD i default).n ≤ 4294967295) (hrg : rgB f.rg) (htl : f.tn.length ≤ 1000000) (hL : L.length ≤ 1000000) (hLB : wB L) (hst : 0 ≤ st ∧ st ≤ 1000) (hm : most ≤ 100000) :
    FnH Try.prog 38 [.agg (eFr f), .lst 5 (p.map eInstr), .ptr 1 0, .agg (eRe a l), .int .i64 most] (memH st L) (fun r h' => r = .tup [.agg (eFr (runF p a l most.toNat f st L).f), .int .i64 (runF p a l most.toNat f st L).n, .int .i64 (runF p a l most.toNat f st L).k] ∧ h' = memH (runF p a l most.toNat f st L).st (runF p a l most.toNat f st L).L) := by
  refine FnH.drop' (fnhb Try.func38 (entered_of (by kernel_rfl)) rfl rfl ?_)
  generalize hF : runF p a l most.toNat f st L = R at *
  repeat' (first | (show W _ _ _ _ _ _; first | apply kA | refine kB rfl ?_ | refine kC rfl rfl ?_ | refine kD rfl rfl ?_ | apply kE | apply kF | apply kG | apply kH | refine kI (by kernel_rfl) (by kernel_rfl) ?_) | (show O _ _ _ _ _ _ _; first | (show O _ _ _ _ (⟨_, .box _ _, _, _, _, _⟩ :: _) _ _; first | refine ao_box (id := 20) rfl rfl rfl rfl rfl rfl rfl rfl ?_ | refine ao_box (id := 24) rfl rfl rfl rfl rfl rfl rfl rfl ?_) | (show O _ _ _ _ (⟨_, .alloc _, _, _, _, _⟩ :: _) _ _; first | refine ao_alloc (id := 21) rfl rfl rfl rfl rfl rfl rfl ?_) | (show O _ _ _ _ (⟨_, .store _ _ _, _, _, _, _⟩ :: _) _ _; refine kJ rfl rfl rfl rfl rfl rfl rfl rfl rfl rfl rfl ?_) | apply kK) | apply kL | ((first | apply kM | apply kN); (iterate 3 (· exact rfl)); (· first | exact yab)) | refine kO rfl rfl rfl rfl rfl ?_ | refine kP rfl rfl rfl ?_ | ((first | refine kQ rfl rfl ?_ ?_ | refine kR rfl rfl rfl rfl rfl ?_ ?_ | refine kS rfl rfl rfl ?_ ?_) <;> intro hc <;> (try simp only [KL, cond_true, cond_false, beq_iff_eq, bne_iff_ne, ne_eq, reduceCtorEq] at hc) <;> (try (have hT : True := hc; clear hT hc)) <;> (try (exfalso; omega))) | apply kT | apply kU | apply kV | apply kW | refine kX rfl ?_ | apply kY | apply kZ)
  refine oturn (turn_dummy eI 15 3 1 (by omega) rfl) ?_
  refine zcall (fun i => i + 10) (own13_fn f.pc f.rg f.tn htl) rfl rfl leh rfl rfl rfl rfl rfl rfl (fun r h' hR => ?_)
  obtain ⟨rfl, rfl⟩ := hR
  refine ⟨rfl, rfl, ?_⟩
  repeat' (first | (show W _ _ _ _ _ _; first | apply kA | refine kB rfl ?_ | refine kC rfl rfl ?_ | refine kD rfl rfl ?_ | apply kE | apply kF | apply kG | apply kH | refine kI (by kernel_rfl) (by kernel_rfl) ?_) | (show O _ _ _ _ _ _ _; first | (show O _ _ _ _ (⟨_, .store _ _ _, _, _, _, _⟩ :: _) _ _; refine kJ rfl rfl rfl rfl rfl rfl rfl rfl rfl rfl rfl ?_) | apply kK) | apply kL | ((first | apply kM | apply kN); (iterate 3 (· exact rfl)); (· first | exact ya)) | refine kO rfl rfl rfl rfl rfl ?_ | refine kP rfl rfl rfl ?_ | ((first | refine kQ rfl rfl ?_ ?_ | refine kR rfl rfl rfl rfl rfl ?_ ?_ | refine kS rfl rfl rfl ?_ ?_) <;> intro hc <;> (try simp only [KL, cond_true, cond_false, beq_iff_eq, bne_iff_ne, ne_eq, reduceCtorEq] at hc) <;> (try (have hT : True := hc; clear hT hc)) <;> (try (exfalso; omega))) | apply kT | apply kU | apply kV | apply kW | refine kX rfl ?_ | apply kY | apply kZ)
  refine wle (s' := [(1, .lst 5 (p.map eInstr)), (2, .ptr 1 0), (4, .int .i64 most), (5, .ptr 20 0), (8, .ptr 24 0), (10, .ptr 21 0), (19, .int .i64 (most.toNat : Int)), (20, .int .i64 ((0 : Nat) : Int))]) (h' := [(20, .blk 52 (eFw f.pc f.rg (.own 15))), (15, .row 3 1 (f.tn.map eI)), (24, .blk 55 (eRe a l)), (21, .blk 52 (eFw 0 (fun _ => 0) .nils)), (1, .blk 124 [.own 2, .int .i64 st]), (2, .row 47 1 (L.map eU))]) les leh ?_
  refine wturn (turn_frzJ (b := 20) 9 rfl rfl rfl rfl) ?_
  refine wloop (fun x : Nat × Fr × Int × List Int => ([(1, .lst 5 (p.map eInstr)), (2, .ptr 1 0), (4, .int .i64 most), (5, .ptr 20 0), (8, .ptr 24 0), (10, .ptr 21 0), (19, .int .i64 (most.toNat : Int)), (20, .int .i64 (x.1 : Int))], rnH x.2.1 a l x.2.2.1 x.2.2.2))
    (fun x => x.1 ≤ most.toNat ∧ rgB x.2.1.rg ∧ x.2.1.tn.length = f.tn.length ∧ wB x.2.2.2 ∧ x.2.2.2.length = L.length ∧ (0 ≤ x.2.2.1 ∧ x.2.2.1 ≤ 1000 + x.1) ∧ (runF p a l (most.toNat - x.1) x.2.1 x.2.2.1 x.2.2.2).f = R.f ∧ x.1 + (runF p a l (most.toNat - x.1) x.2.1 x.2.2.1 x.2.2.2).n = R.n ∧ (runF p a l (most.toNat - x.1) x.2.1 x.2.2.1 x.2.2.2).k = R.k ∧ (runF p a l (most.toNat - x.1) x.2.1 x.2.2.1 x.2.2.2).st = R.st ∧ (runF p a l (most.toNat - x.1) x.2.1 x.2.2.1 x.2.2.2).L = R.L)
    (fun x => most.toNat - x.1) (0, f, st, L) ⟨Nat.zero_le _, hrg, rfl, hLB, rfl, ⟨hst.1, by simp only; omega⟩, by rw [← hF]; rfl, by rw [← hF]; exact Nat.zero_add _, by rw [← hF]; rfl, by rw [← hF]; rfl, by rw [← hF]; rfl⟩ les leh (fun x hx => ?_)
  obtain ⟨i, g, st1, L1⟩ := x
  obtain ⟨x1, x2, x3, x4, x5, x6, y1, y2, y3, y4, y5⟩ := hx
  simp only at x1 x2 x3 x4 x5 x6 y1 y2 y3 y4 y5 ⊢
  clear hF
  rcases Nat.lt_or_eq_of_le x1 with hlt | heq
  · obtain ⟨m, hmm⟩ : ∃ m, most.toNat - i = m + 1 := ⟨most.toNat - i - 1, by omega⟩
    rw [hmm] at y1 y2 y3 y4 y5
    have cS := step13_fn p g a l st1 L1 hp hn x2 (by omega) (by omega) (by omega)
    have hin := step_inv p g a l st1 L1 hn x2 x4
    by_cases hk : (stepF p g a l st1 L1).k = 0
    · rw [run_more p a l m g st1 L1 hk] at y1 y2 y3 y4 y5
      simp only at y1 y2 y3 y4 y5
      have hm2 : most.toNat - (i + 1) = m := by omega
      rw [hk] at cS
      generalize stepF p g a l st1 L1 = S at *
      obtain ⟨sf, sk, ss, sL⟩ := S
      simp only at hin cS y1 y2 y3 y4 y5
      obtain ⟨pc, rg, tn⟩ := g
      repeat' (first | (show W _ _ _ _ _ _; first | apply kA | refine kB rfl ?_ | refine kC rfl rfl ?_ | refine kD rfl rfl ?_ | apply kE | apply kF | apply kG | apply kH | refine kI (by kernel_rfl) (by kernel_rfl) ?_) | (show O _ _ _ _ _ _ _; first | (show O _ _ _ _ (⟨_, .alloc _, _, _, _, _⟩ :: _) _ _; first | refine ao_alloc (id := 25) rfl rfl rfl rfl rfl rfl rfl ?_) | (show O _ _ _ _ (⟨_, .store _ _ _, _, _, _, _⟩ :: _) _ _; refine kJ rfl rfl rfl rfl rfl rfl rfl rfl rfl rfl rfl ?_) | apply kK) | apply kL | ((first | apply kM | apply kN); (iterate 3 (· exact rfl)); (· first | exact ya)) | refine kO rfl rfl rfl rfl rfl ?_ | refine kP rfl rfl rfl ?_ | ((first | refine kQ rfl rfl ?_ ?_ | refine kR rfl rfl rfl rfl rfl ?_ ?_ | refine kS rfl rfl rfl ?_ ?_) <;> intro hc <;> (try simp only [KL, cond_true, cond_false, beq_iff_eq, bne_iff_ne, ne_eq, reduceCtorEq] at hc) <;> (try (have hT : True := hc; clear hT hc)) <;> (try (exfalso; omega))) | apply kT | apply kU | apply kV | apply kW | refine kX rfl ?_ | apply kY | apply kZ)
      all_goals first | (exfalso; omega) | skip
      refine ole (s' := [(1, .lst 5 (p.map eInstr)), (2, .ptr 1 0), (4, .int .i64 most), (5, .ptr 20 0), (8, .ptr 24 0), (10, .ptr 21 0), (13, .int .i64 (i : Int)), (19, .int .i64 (most.toNat : Int)), (20, .int .i64 (i : Int)), (24, .agg (eFr ⟨pc, rg, tn⟩)), (25, .lst 5 (p.map eInstr)), (26, .ptr 1 0), (27, .agg (eRe a l))]) (h' := rnH ⟨pc, rg, tn⟩ a l st1 L1) les leh ?_
      refine zcall (fun i => i) (cS) rfl rfl leh rfl rfl rfl rfl rfl rfl (fun r h' hR => ?_)
      obtain ⟨rfl, rfl⟩ := hR
      refine ⟨rfl, rfl, ?_⟩
      obtain ⟨pc2, rg2, tn2⟩ := sf
      have z1 : tn2.length = f.tn.length := hin.2.2.2.1.trans x3
      have z2 : sL.length = L.length := hin.2.2.1.trans x5
      have z3 : 0 ≤ ss ∧ ss ≤ 1000 + ((i + 1 : Nat) : Int) := by
        have := hin.2.2.2.2
        omega
      repeat' (first | (show W _ _ _ _ _ _; first | apply kA | refine kB rfl ?_ | refine kC rfl rfl ?_ | refine kD rfl rfl ?_ | apply kE | apply kF | apply kG | apply kH | refine kI (by kernel_rfl) (by kernel_rfl) ?_) | (show O _ _ _ _ _ _ _; first | (show O _ _ _ _ (⟨_, .alloc _, _, _, _, _⟩ :: _) _ _; first | refine ao_alloc (id := 25) rfl rfl rfl rfl rfl rfl rfl ?_) | (show O _ _ _ _ (⟨_, .store _ _ _, _, _, _, _⟩ :: _) _ _; refine kJ rfl rfl rfl rfl rfl rfl rfl rfl rfl rfl rfl ?_) | apply kK) | apply kL | ((first | apply kM | apply kN); (iterate 3 (· exact rfl)); (· first | exact ya)) | refine kO rfl rfl rfl rfl rfl ?_ | refine kP rfl rfl rfl ?_ | ((first | refine kQ rfl rfl ?_ ?_ | refine kR rfl rfl rfl rfl rfl ?_ ?_ | refine kS rfl rfl rfl ?_ ?_) <;> intro hc <;> (try simp only [KL, cond_true, cond_false, beq_iff_eq, bne_iff_ne, ne_eq, reduceCtorEq] at hc) <;> (try (have hT : True := hc; clear hT hc)) <;> (try (exfalso; omega))) | apply kT | apply kU | apply kV | apply kW | refine kX rfl ?_ | apply kY | apply kZ)
      all_goals first | (exfalso; omega) | exact ⟨(i + 1, ⟨pc2, rg2, tn2⟩, ss, sL), ⟨by simp only; omega, hin.1, z1, hin.2.1, z2, z3, by simp only [hm2]; exact y1, by simp only [hm2]; omega, by simp only [hm2]; exact y3, by simp only [hm2]; exact y4, by simp only [hm2]; exact y5⟩, by simp only; omega, les, leh⟩
    · rw [run_stop p a l m g st1 L1 hk] at y1 y2 y3 y4 y5
      simp only at y1 y2 y3 y4 y5
      generalize stepF p g a l st1 L1 = S at *
      obtain ⟨sf, sk, ss, sL⟩ := S
      simp only at hin cS hk y1 y2 y3 y4 y5
      obtain ⟨pc, rg, tn⟩ := g
      repeat' (first | (show W _ _ _ _ _ _; first | apply kA | refine kB rfl ?_ | refine kC rfl rfl ?_ | refine kD rfl rfl ?_ | apply kE | apply kF | apply kG | apply kH | refine kI (by kernel_rfl) (by kernel_rfl) ?_) | (show O _ _ _ _ _ _ _; first | (show O _ _ _ _ (⟨_, .alloc _, _, _, _, _⟩ :: _) _ _; first | refine ao_alloc (id := 25) rfl rfl rfl rfl rfl rfl rfl ?_) | (show O _ _ _ _ (⟨_, .store _ _ _, _, _, _, _⟩ :: _) _ _; refine kJ rfl rfl rfl rfl rfl rfl rfl rfl rfl rfl rfl ?_) | apply kK) | apply kL | ((first | apply kM | apply kN); (iterate 3 (· exact rfl)); (· first | exact ya)) | refine kO rfl rfl rfl rfl rfl ?_ | refine kP rfl rfl rfl ?_ | ((first | refine kQ rfl rfl ?_ ?_ | refine kR rfl rfl rfl rfl rfl ?_ ?_ | refine kS rfl rfl rfl ?_ ?_) <;> intro hc <;> (try simp only [KL, cond_true, cond_false, beq_iff_eq, bne_iff_ne, ne_eq, reduceCtorEq] at hc) <;> (try (have hT : True := hc; clear hT hc)) <;> (try (exfalso; omega))) | apply kT | apply kU | apply kV | apply kW | refine kX rfl ?_ | apply kY | apply kZ)
      all_goals first | (exfalso; omega) | skip
      refine ole (s' := [(1, .lst 5 (p.map eInstr)), (2, .ptr 1 0), (4, .int .i64 most), (5, .ptr 20 0), (8, .ptr 24 0), (10, .ptr 21 0), (13, .int .i64 (i : Int)), (19, .int .i64 (most.toNat : Int)), (20, .int .i64 (i : Int)), (24, .agg (eFr ⟨pc, rg, tn⟩)), (25, .lst 5 (p.map eInstr)), (26, .ptr 1 0), (27, .agg (eRe a l))]) (h' := rnH ⟨pc, rg, tn⟩ a l st1 L1) les leh ?_
      refine zcall (fun i => i) (cS) rfl rfl leh rfl rfl rfl rfl rfl rfl (fun r h' hR => ?_)
      obtain ⟨rfl, rfl⟩ := hR
      refine ⟨rfl, rfl, ?_⟩
      obtain ⟨pc2, rg2, tn2⟩ := sf
      repeat' (first | (show W _ _ _ _ _ _; first | apply kA | refine kB rfl ?_ | refine kC rfl rfl ?_ | refine kD rfl rfl ?_ | apply kE | apply kF | apply kG | apply kH | refine kI (by kernel_rfl) (by kernel_rfl) ?_) | (show O _ _ _ _ _ _ _; first | (show O _ _ _ _ (⟨_, .alloc _, _, _, _, _⟩ :: _) _ _; first | refine ao_alloc (id := 25) rfl rfl rfl rfl rfl rfl rfl ?_) | (show O _ _ _ _ (⟨_, .store _ _ _, _, _, _, _⟩ :: _) _ _; refine kJ rfl rfl rfl rfl rfl rfl rfl rfl rfl rfl rfl ?_) | apply kK) | apply kL | ((first | apply kM | apply kN); (iterate 3 (· exact rfl)); (· first | exact ya)) | refine kO rfl rfl rfl rfl rfl ?_ | refine kP rfl rfl rfl ?_ | ((first | refine kQ rfl rfl ?_ ?_ | refine kR rfl rfl rfl rfl rfl ?_ ?_ | refine kS rfl rfl rfl ?_ ?_) <;> intro hc <;> (try simp only [KL, cond_true, cond_false, beq_iff_eq, bne_iff_ne, ne_eq, reduceCtorEq] at hc) <;> (try (have hT : True := hc; clear hT hc)) <;> (try (exfalso; omega))) | apply kT | apply kU | apply kV | apply kW | refine kX rfl ?_ | apply kY | apply kZ)
      all_goals first | (exfalso; omega) | exact retq rfl ⟨memH ss sL, leh, by rw [← y1, ← y2, ← y3]; rfl, by rw [← y4, ← y5]⟩
  · rw [heq, Nat.sub_self, runF] at y1 y2 y3 y4 y5
    simp only at y1 y2 y3 y4 y5
    obtain ⟨pc, rg, tn⟩ := g
    repeat' (first | (show W _ _ _ _ _ _; first | apply kA | refine kB rfl ?_ | refine kC rfl rfl ?_ | refine kD rfl rfl ?_ | apply kE | apply kF | apply kG | apply kH | refine kI (by kernel_rfl) (by kernel_rfl) ?_) | (show O _ _ _ _ _ _ _; first | (show O _ _ _ _ (⟨_, .store _ _ _, _, _, _, _⟩ :: _) _ _; refine kJ rfl rfl rfl rfl rfl rfl rfl rfl rfl rfl rfl ?_) | apply kK) | apply kL | ((first | apply kM | apply kN); (iterate 3 (· exact rfl)); (· first | exact ya)) | refine kO rfl rfl rfl rfl rfl ?_ | refine kP rfl rfl rfl ?_ | ((first | refine kQ rfl rfl ?_ ?_ | refine kR rfl rfl rfl rfl rfl ?_ ?_ | refine kS rfl rfl rfl ?_ ?_) <;> intro hc <;> (try simp only [KL, cond_true, cond_false, beq_iff_eq, bne_iff_ne, ne_eq, reduceCtorEq] at hc) <;> (try (have hT : True := hc; clear hT hc)) <;> (try (exfalso; omega))) | apply kT | apply kU | apply kV | apply kW | refine kX rfl ?_ | apply kY | apply kZ)
    all_goals first | (exfalso; omega) | exact retq rfl ⟨memH st1 L1, leh, by rw [← y1, ← y2, ← y3]; exact congrArg AV.tup (by rw [heq]; simp only [eFr]; congr 3; omega), by rw [← y4, ← y5]⟩
theorem start13_fn (p : List Instr) (hp : p.length ≤ 1000000) : Fn Try.prog 45 [.lst 5 (p.map eInstr)] (.agg (eFr ⟨0, fun _ => 0, List.replicate p.length 0⟩)) := by
  refine fnb Try.func45 (entered_of (by kernel_rfl)) rfl rfl rfl ?_
  repeat' (first | (show W _ _ _ _ _ _; first | apply kA | refine kB rfl ?_ | refine kC rfl rfl ?_ | refine kD rfl rfl ?_ | apply kE | apply kF | apply kG | apply kH | refine kI (by kernel_rfl) (by kernel_rfl) ?_) | (show O _ _ _ _ _ _ _; first | (show O _ _ _ _ (⟨_, .alloc _, _, _, _, _⟩ :: _) _ _; first | refine ao_alloc (id := 21) rfl rfl rfl rfl rfl rfl rfl ?_) | (show O _ _ _ _ (⟨_, .store _ _ _, _, _, _, _⟩ :: _) _ _; refine kJ rfl rfl rfl rfl rfl rfl rfl rfl rfl rfl rfl ?_) | apply kK) | apply kL | ((first | apply kM | apply kN); (iterate 3 (· exact rfl)); (· first | exact ya)) | refine kO rfl rfl rfl rfl rfl ?_ | refine kP rfl rfl rfl ?_ | ((first | refine kQ rfl rfl ?_ ?_ | refine kR rfl rfl rfl rfl rfl ?_ ?_ | refine kS rfl rfl rfl ?_ ?_) <;> intro hc <;> (try simp only [KL, cond_true, cond_false, beq_iff_eq, bne_iff_ne, ne_eq, reduceCtorEq] at hc) <;> (try (have hT : True := hc; clear hT hc)) <;> (try (exfalso; omega))) | apply kT | apply kU | apply kV | apply kW | refine kX rfl ?_ | apply kY | apply kZ)
  (refine ao_mk (f := eI) (d := (0 : Int)) (id := 15) (by_ := 8) (sz := 1) rfl rfl rfl rfl rfl rfl rfl rfl rfl rfl ?_ ?_ rfl rfl rfl rfl ?_; (· omega); (· omega))
  repeat' (first | (show W _ _ _ _ _ _; first | apply kA | refine kB rfl ?_ | refine kC rfl rfl ?_ | refine kD rfl rfl ?_ | apply kE | apply kF | apply kG | apply kH | refine kI (by kernel_rfl) (by kernel_rfl) ?_) | (show O _ _ _ _ _ _ _; first | (show O _ _ _ _ (⟨_, .store _ _ _, _, _, _, _⟩ :: _) _ _; refine kJ rfl rfl rfl rfl rfl rfl rfl rfl rfl rfl rfl ?_) | apply kK) | apply kL | ((first | apply kM | apply kN); (iterate 3 (· exact rfl)); (· first | exact ya)) | refine kO rfl rfl rfl rfl rfl ?_ | refine kP rfl rfl rfl ?_ | ((first | refine kQ rfl rfl ?_ ?_ | refine kR rfl rfl rfl rfl rfl ?_ ?_ | refine kS rfl rfl rfl ?_ ?_) <;> intro hc <;> (try simp only [KL, cond_true, cond_false, beq_iff_eq, bne_iff_ne, ne_eq, reduceCtorEq] at hc) <;> (try (have hT : True := hc; clear hT hc)) <;> (try (exfalso; omega))) | apply kT | apply kU | apply kV | apply kW | refine kX rfl ?_ | apply kY | apply kZ)
  refine retT (fun _ => turn_frzJ (b := 21) 9 rfl rfl rfl rfl) ?_
  exact retq rfl rfl
end Go.Proofs.Ytffciebjpiljgaa
namespace Go.Proofs.Ytffciebjpiljgaa
set_option linter.unusedSimpArgs false
set_option linter.unusedVariables false
set_option maxRecDepth 100000
set_option linter.unusedSimpArgs false
set_option linter.unusedVariables false
set_option maxRecDepth 100000
open Go.RowKit
abbrev dumM : Heap := [(5, .row 3 1 (([] : List Int).map eI)), (6, .row 47 1 (([] : List Int).map eU))]
theorem mnew_fn (k : Nat) (hk : k ≤ 4096) : FnH Try.prog 64 [.int .i64 k] dumM (fun r h' => r = .tup [.ptr 5 0, .int .i64 0] ∧ h' = [(5, .blk 124 [.own 6, .int .i64 0]), (6, .row 47 1 ((List.replicate k (0 : Int)).map eU))]) := by
  refine FnH.drop' (fnhb Try.func64 (entered_of (by kernel_rfl)) rfl rfl ?_)
  refine wle (s' := [(0, .int .i64 k)]) (h' := []) les leh ?_
  repeat' (first | (show W _ _ _ _ _ _; first | apply kA | refine kB rfl ?_ | refine kC rfl rfl ?_ | refine kD rfl rfl ?_ | apply kE | apply kF | apply kG | apply kH | refine kI (by kernel_rfl) (by kernel_rfl) ?_) | (show O _ _ _ _ _ _ _; first | (show O _ _ _ _ (⟨_, .store _ _ _, _, _, _, _⟩ :: _) _ _; refine kJ rfl rfl rfl rfl rfl rfl rfl rfl rfl rfl rfl ?_) | apply kK) | apply kL | ((first | apply kM | apply kN); (iterate 3 (· exact rfl)); (· first | exact ya)) | refine kO rfl rfl rfl rfl rfl ?_ | refine kP rfl rfl rfl ?_ | ((first | refine kQ rfl rfl ?_ ?_ | refine kR rfl rfl rfl rfl rfl ?_ ?_ | refine kS rfl rfl rfl ?_ ?_) <;> intro hc <;> (try simp only [KL, cond_true, cond_false, beq_iff_eq, bne_iff_ne, ne_eq, reduceCtorEq] at hc) <;> (try (have hT : True := hc; clear hT hc)) <;> (try (exfalso; omega))) | apply kT | apply kU | apply kV | apply kW | refine kX rfl ?_ | apply kY | apply kZ)
  all_goals first | (exfalso; omega) | skip
  (refine ao_mk (f := eU) (d := (0 : Int)) (id := 6) (by_ := 4) (sz := 1) rfl rfl rfl rfl rfl rfl rfl rfl rfl rfl ?_ ?_ rfl rfl rfl rfl ?_; (· omega); (· omega))
  repeat' (first | (show W _ _ _ _ _ _; first | apply kA | refine kB rfl ?_ | refine kC rfl rfl ?_ | refine kD rfl rfl ?_ | apply kE | apply kF | apply kG | apply kH | refine kI (by kernel_rfl) (by kernel_rfl) ?_) | (show O _ _ _ _ _ _ _; first | (show O _ _ _ _ (⟨_, .box _ _, _, _, _, _⟩ :: _) _ _; first | refine ao_box (id := 5) rfl rfl rfl rfl rfl rfl rfl rfl ?_) | (show O _ _ _ _ (⟨_, .store _ _ _, _, _, _, _⟩ :: _) _ _; refine kJ rfl rfl rfl rfl rfl rfl rfl rfl rfl rfl rfl ?_) | apply kK) | apply kL | ((first | apply kM | apply kN); (iterate 3 (· exact rfl)); (· first | exact yab)) | refine kO rfl rfl rfl rfl rfl ?_ | refine kP rfl rfl rfl ?_ | ((first | refine kQ rfl rfl ?_ ?_ | refine kR rfl rfl rfl rfl rfl ?_ ?_ | refine kS rfl rfl rfl ?_ ?_) <;> intro hc <;> (try simp only [KL, cond_true, cond_false, beq_iff_eq, bne_iff_ne, ne_eq, reduceCtorEq] at hc) <;> (try (have hT : True := hc; clear hT hc)) <;> (try (exfalso; omega))) | apply kT | apply kU | apply kV | apply kW | refine kX rfl ?_ | apply kY | apply kZ)
  exact retq rfl ⟨[(5, .blk 124 [.own 6, .int .i64 0]), (6, .row 47 1 ((List.replicate k (0 : Int)).map eU))], leh, rfl, rfl⟩
end Go.Proofs.Ytffciebjpiljgaa
