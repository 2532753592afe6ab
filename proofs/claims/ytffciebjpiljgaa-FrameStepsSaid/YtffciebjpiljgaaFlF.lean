/- What is right of a program that may be: where one may come, and what is reached. No condition. -/
import Derived.Test.YtffciebjpiljgaaFlA
import Derived.Test.YtffciebjpiljgaaSort2
import Derived.Test.YtffciebjpiljgaaAvTl
namespace Go.Proofs.Ytffciebjpiljgaa
set_option linter.unusedSimpArgs false
set_option linter.unusedVariables false
set_option maxRecDepth 100000
set_option linter.unusedSimpArgs false
set_option linter.unusedVariables false
structure FineP (p : List Instr) : Prop where
  pos : 0 < p.length
  most : p.length ≤ 64
  right : ∀ i, i < p.length → rightI (p.getD i default) = true
  leads : ∀ i, i < p.length → leadsB p i = true
  loop : ∀ k, k < (loopsL p).length → loopQ (loopsL p) k = false
  jump : ∀ i, i < p.length → jumpB p (loopsL p) i = false
  last : (p.getD (p.length - 1) default).op = 21
theorem fine_inv {p : List Instr} (h : fineB p = true) : FineP p := by
  rw [fineB, decide_eq_true_eq] at h
  by_cases h0 : p.length = 0 ∨ 64 < p.length
  · rw [check_arg h0] at h; simp at h
  cases h1 : fstN (formQ p) p.length with
  | some k => rw [check_form h0 h1] at h; simp at h
  | none =>
  cases h2 : fstN (flowQ p) p.length with
  | some k => rw [check_flow h0 h1 h2] at h; simp at h
  | none =>
  cases h3 : fstN (loopQ (loopsL p)) (loopsL p).length with
  | some k => rw [check_loop h0 h1 h2 h3] at h; simp at h
  | none =>
  cases h4 : fstN (jumpB p (loopsL p)) p.length with
  | some k => rw [check_jump h0 h1 h2 h3 h4] at h; simp at h
  | none =>
  rw [check_end h0 h1 h2 h3 h4] at h
  refine ⟨by omega, by omega, fun i hi => by simpa [formQ] using fst_none h1 i hi, fun i hi => by simpa [flowQ] using fst_none h2 i hi, fst_none h3, fst_none h4, ?_⟩
  split at h
  · assumption
  · simp at h
/-- May one come from i to j? -/
def mayB (p : List Instr) (i j : Nat) : Bool := decide ((p.getD i default).op ≠ 21 ∧ ((14 ≤ (p.getD i default).op ∧ (p.getD i default).op ≤ 16 ∧ (j : Int) = (p.getD i default).n) ∨ ((p.getD i default).op ≠ 14 ∧ j = i + 1)))
section
variable {p : List Instr}
theorem leads_iff (h : FineP p) {i : Nat} (hi : i < p.length) : leadsI (p.getD i default) = decide (14 ≤ (p.getD i default).op ∧ (p.getD i default).op ≤ 16) := by
  rw [leadsI, h.right i hi, Bool.true_and]
theorem leads_to (h : FineP p) (hn : ∀ i, 0 ≤ (p.getD i default).n) {i : Nat} (hi : i < p.length) (h1 : 14 ≤ (p.getD i default).op) (h2 : (p.getD i default).op ≤ 16) :
    (p.getD i default).n < p.length ∧ (p.getD i default).n ≠ i ∧ ((p.getD i default).op = 16 ∧ (p.getD i default).n < i ∨ (p.getD i default).op ≠ 16 ∧ i < (p.getD i default).n) := by
  have h3 := h.leads i hi
  rw [leadsB, leadsX, leads_iff h hi, decide_eq_true ⟨h1, h2⟩, if_pos rfl] at h3
  split at h3
  · have := of_decide_eq_true h3; omega
  · have := of_decide_eq_true h3; omega
theorem inner_lt (h : FineP p) {i : Nat} (hi : i < p.length) (h1 : (p.getD i default).op ≠ 21) : i + 1 < p.length := by
  rcases Nat.lt_or_ge (i + 1) p.length with h2 | h2
  · exact h2
  · exfalso
    have h3 := h.last
    rw [show p.length - 1 = i by omega] at h3
    exact h1 h3
/-- What next tells is where one may come. -/
theorem next_iff (h : FineP p) (hn : ∀ i, 0 ≤ (p.getD i default).n) {i : Nat} (hi : i < p.length) {x : Int} : x ∈ nextL p i ↔ ∃ j : Nat, x = j ∧ j < p.length ∧ mayB p i j = true := by
  have hl := leads_iff h hi
  have hnn := hn i
  rw [nextL]
  by_cases h1 : (p.getD i default).op = 21
  · rw [if_pos h1]; simp only [mayB, h1]; simp
  have hlt := inner_lt h hi h1
  rw [if_neg h1]
  by_cases h2 : (p.getD i default).op = 14
  · have h3 := leads_to h hn hi (by omega) (by omega)
    rw [if_pos h2, tgt_yes (by rw [hl]; exact decide_eq_true (by omega)), List.mem_singleton]
    simp only [mayB, decide_eq_true_eq]
    constructor
    · rintro rfl
      exact ⟨(p.getD i default).n.toNat, by omega, by omega, by omega⟩
    · rintro ⟨j, rfl, hj, _, h4 | h4⟩
      · exact h4.2.2
      · exact absurd h2 h4.1
  rw [if_neg h2]
  by_cases h3 : 14 ≤ (p.getD i default).op ∧ (p.getD i default).op ≤ 16
  · have h4 := leads_to h hn hi h3.1 h3.2
    rw [tgt_yes (by rw [hl]; exact decide_eq_true h3), hl, decide_eq_true h3]
    simp only [mayB, decide_eq_true_eq]
    split
    · rename_i h5
      rw [List.mem_singleton]
      constructor
      · rintro rfl
        exact ⟨i + 1, by omega, hlt, h1, .inr ⟨h2, rfl⟩⟩
      · rintro ⟨j, rfl, hj, _, h6 | h6⟩
        · rcases h5 with h5 | h5
          · cases h5
          · omega
        · omega
    · rw [List.mem_cons, List.mem_singleton]
      constructor
      · intro hx
        by_cases hx2 : x = (i : Int) + 1
        · exact ⟨i + 1, by omega, hlt, h1, .inr ⟨h2, rfl⟩⟩
        · exact ⟨(p.getD i default).n.toNat, by omega, by omega, h1, .inl ⟨h3.1, h3.2, by omega⟩⟩
      · rintro ⟨j, rfl, hj, _, h6 | h6⟩ <;> omega
  · rw [hl, decide_eq_false h3, if_pos (.inl rfl), List.mem_singleton]
    simp only [mayB, decide_eq_true_eq]
    constructor
    · rintro rfl
      exact ⟨i + 1, by omega, hlt, h1, .inr ⟨h2, rfl⟩⟩
    · rintro ⟨j, rfl, hj, _, h6 | h6⟩
      · exact absurd ⟨h6.1, h6.2.1⟩ h3
      · omega
theorem next_len (p : List Instr) (i : Nat) : (nextL p i).length ≤ 2 := by
  rw [nextL]; split
  · simp
  · split
    · simp
    · split <;> simp
theorem next_lt (p : List Instr) (i : Nat) : (nextL p i).Pairwise (· < ·) := by
  rw [nextL]; split
  · simp
  · split
    · simp
    · split
      · simp
      · rename_i h; rw [List.pairwise_cons]
        refine ⟨fun x hx => ?_, by simp⟩
        rw [List.mem_singleton] at hx
        have : ¬ tgtI (p.getD i default) = (i : Int) + 1 := fun e => h (.inr e)
        omega
/-- What is reached. -/
inductive ReachP (p : List Instr) : Nat → Prop
  | zero : ReachP p 0
  | step (i j : Nat) (h : ReachP p i) (hj : j < p.length) (hm : mayB p i j = true) : ReachP p j
theorem reach_lt (hp : 0 < p.length) {j : Nat} (h : ReachP p j) : j < p.length := by
  cases h with
  | zero => exact hp
  | step i j h hj hm => exact hj
open Classical in
noncomputable def reachL (p : List Instr) : List Bool := (List.range p.length).map fun j => decide (ReachP p j)
theorem reachL_len (p : List Instr) : (reachL p).length = p.length := by simp [reachL]
open Classical in
theorem reachL_at {j : Nat} (hj : j < p.length) : (reachL p).getD j default = decide (ReachP p j) := by simp [reachL, hj]
open Classical in
/-- What has the first place, and is closed, and is reached, is all that is reached. -/
theorem reach_eq {out : List Bool} (hl : out.length = p.length) (h0 : out.getD 0 default = true) (hs : ∀ j, j < p.length → out.getD j default = true → ReachP p j) (hc : ∀ i j, i < p.length → j < p.length → out.getD i default = true → mayB p i j = true → out.getD j default = true) : out = reachL p := by
  refine List.ext_getElem (by rw [hl, reachL_len]) fun j h1 h2 => ?_
  have hj : j < p.length := by rw [← hl]; exact h1
  have e1 : out.getD j default = out[j] := by simp [h1]
  have e2 : (reachL p).getD j default = (reachL p)[j] := by simp [h2]
  rw [← e1, ← e2, reachL_at hj, Bool.eq_iff_iff, decide_eq_true_eq]
  refine ⟨hs j hj, fun hr => ?_⟩
  have hp : 0 < p.length := by omega
  clear e1 e2 h1 h2 hj
  induction hr with
  | zero => exact h0
  | step i j h hj hm ih => exact hc i j (reach_lt hp h) hj ih hm
end
/-! ## The queue -/
structure BfsI (p : List Instr) (out : List Bool) (todo : List Int) : Prop where
  len : out.length = p.length
  snd : ∀ j, j < p.length → out.getD j default = true → ReachP p j
  que : ∀ x ∈ todo, ∃ j : Nat, x = j ∧ j < p.length ∧ ReachP p j
  zero : out.getD 0 default = true ∨ (0 : Int) ∈ todo
  cl : ∀ i j, i < p.length → j < p.length → out.getD i default = true → mayB p i j = true → out.getD j default = true ∨ (j : Int) ∈ todo
theorem bfs_0 {p : List Instr} (hp : 0 < p.length) : BfsI p (List.replicate p.length false) [0] := by
  have e : ∀ j, (List.replicate p.length false).getD j default = false := fun j => by
    simp only [List.getD_eq_getElem?_getD, List.getElem?_replicate]; split <;> rfl
  exact ⟨by simp, fun j hj h => absurd h (by rw [e]; simp), fun x hx => ⟨0, by simpa using hx, hp, .zero⟩, .inr (by simp), fun i j hi hj h => absurd h (by rw [e]; simp)⟩
theorem bfs_skip {p : List Instr} {out : List Bool} {k : Nat} {todo : List Int} (h : BfsI p out ((k : Int) :: todo)) (hk : out.getD k default = true) : BfsI p out todo := by
  refine ⟨h.len, h.snd, fun x hx => h.que x (List.mem_cons_of_mem _ hx), ?_, fun i j hi hj ho hm => ?_⟩
  · rcases h.zero with h1 | h1
    · exact .inl h1
    · rcases List.mem_cons.1 h1 with h2 | h2
      · have : k = 0 := by omega
        subst this; exact .inl hk
      · exact .inr h2
  · rcases h.cl i j hi hj ho hm with h1 | h1
    · exact .inl h1
    · rcases List.mem_cons.1 h1 with h2 | h2
      · have : k = j := by omega
        subst this; exact .inl hk
      · exact .inr h2
theorem getD_set {α : Type} [Inhabited α] {l : List α} {k j : Nat} {v : α} (hk : k < l.length) : (l.set k v).getD j default = if k = j then v else l.getD j default := by
  simp only [List.getD_eq_getElem?_getD, List.getElem?_set]
  split
  · rename_i e; subst e; simp [hk]
  · rfl
theorem bfs_more {p : List Instr} (hf : FineP p) (hn : ∀ i, 0 ≤ (p.getD i default).n) {out : List Bool} {k : Nat} {todo : List Int} (h : BfsI p out ((k : Int) :: todo)) (hkl : k < p.length) : BfsI p (out.set k true) (todo ++ nextL p k) := by
  obtain ⟨k', e, _, hr⟩ := h.que (k : Int) List.mem_cons_self
  have : k' = k := by omega
  subst this
  have hs : ∀ j, (out.set k' true).getD j default = if k' = j then true else out.getD j default := fun j => getD_set (by rw [h.len]; exact hkl)
  refine ⟨by simpa using h.len, fun j hj ho => ?_, fun x hx => ?_, ?_, fun i j hi hj ho hm => ?_⟩
  · rw [hs] at ho
    split at ho
    · rename_i e; subst e; exact hr
    · exact h.snd j hj ho
  · rcases List.mem_append.1 hx with hx | hx
    · exact h.que x (List.mem_cons_of_mem _ hx)
    · obtain ⟨j, rfl, hj, hm⟩ := (next_iff hf hn hkl).1 hx
      exact ⟨j, rfl, hj, .step k' j hr hj hm⟩
  · rw [hs]
    rcases h.zero with h1 | h1
    · split
      · exact .inl rfl
      · exact .inl h1
    · rcases List.mem_cons.1 h1 with h2 | h2
      · have : k' = 0 := by omega
        rw [if_pos this]; exact .inl rfl
      · exact .inr (List.mem_append_left _ h2)
  · rw [hs] at ho ⊢
    by_cases e : k' = i
    · subst e
      exact .inr (List.mem_append_right _ ((next_iff hf hn hkl).2 ⟨j, rfl, hj, hm⟩))
    · rw [if_neg e] at ho
      split
      · exact .inl rfl
      · rename_i e2
        rcases h.cl i j hi hj ho hm with h1 | h1
        · exact .inl h1
        · rcases List.mem_cons.1 h1 with h2 | h2
          · exact absurd (by omega) e2
          · exact .inr (List.mem_append_left _ h2)
theorem bfs_done {p : List Instr} {out : List Bool} (h : BfsI p out []) : out = reachL p :=
  reach_eq h.len (by rcases h.zero with h1 | h1; exact h1; cases h1) h.snd fun i j hi hj ho hm => by
    rcases h.cl i j hi hj ho hm with h1 | h1
    · exact h1
    · cases h1
/-- How many are not marked. -/
def openN (out : List Bool) : Nat := out.countP (fun b => !b)
theorem open_set {out : List Bool} {k : Nat} (hk : k < out.length) (h : out.getD k default = false) : openN (out.set k true) + 1 = openN out := by
  obtain ⟨a, x, b, rfl, ha⟩ := parted hk
  have e : x = false := by rw [← h]; exact (get_at rfl ha.symm).symm
  subst e
  rw [← ha, app_set, openN, openN, List.countP_append, List.countP_append, List.countP_cons, List.countP_cons]
  simp; omega
end Go.Proofs.Ytffciebjpiljgaa
namespace Go.Proofs.Ytffciebjpiljgaa
set_option linter.unusedSimpArgs false
set_option linter.unusedVariables false
set_option maxRecDepth 100000
set_option linter.unusedSimpArgs false
set_option linter.unusedVariables false
set_option maxRecDepth 100000
open Go.RowKit
def eBo (b : Bool) : List AV := [.bool b]
def gI (x : Int) : AV := .int .i64 x
noncomputable def reachF (p : List Instr) : List Bool := if fineB p = true then reachL p else []
theorem rfine_fn (p : List Instr) (hn : p.length ≤ 1000000) : Fn Try.prog 20 [.lst 5 (p.map eInstr)] (.bool (fineB p)) := by
  have c1 := rcheck_fn p hn
  rw [fineB]
  generalize checkF p = r at *
  obtain ⟨r1, r2⟩ := r
  refine fnb Try.func20 (entered_of (by kernel_rfl)) rfl rfl rfl ?_
  repeat' (first | (show W _ _ _ _ _ _; first | apply kA | refine kB rfl ?_ | refine kC rfl rfl ?_ | refine kD rfl rfl ?_ | apply kE | apply kF | apply kG | apply kH | refine kI (by kernel_rfl) (by kernel_rfl) ?_) | (show O _ _ _ _ _ _ _; first | (show O _ _ _ _ (⟨_, .store _ _ _, _, _, _, _⟩ :: _) _ _; refine kJ rfl rfl rfl rfl rfl rfl rfl rfl rfl rfl rfl ?_) | apply kK) | apply kL | ((first | apply kM | apply kN); (iterate 3 (· exact rfl)); (· first | (show Y _ ⟨_, .call ⟨.value _, _, _⟩, _, _, _, _⟩ _ _ _; first | exact q_c (c1) rfl) | exact ya)) | refine kO rfl rfl rfl rfl rfl ?_ | refine kP rfl rfl rfl ?_ | ((first | refine kQ rfl rfl ?_ ?_ | refine kR rfl rfl rfl rfl rfl ?_ ?_ | refine kS rfl rfl rfl ?_ ?_) <;> intro hc <;> (try simp only [KL, cond_true, cond_false, beq_iff_eq, bne_iff_ne, ne_eq, reduceCtorEq] at hc) <;> (try (have hT : True := hc; clear hT hc)) <;> (try (exfalso; omega))) | apply kT | apply kU | apply kV | apply kW | refine kX rfl ?_ | apply kY | apply kZ)
  exact retq rfl rfl
theorem may_fn (p : List Instr) (i j : Nat) (hi : i < p.length) (hj : j < p.length) (hlp : p.length ≤ 1000000) : Fn Try.prog 115 [.lst 5 (p.map eInstr), .int .i64 i, .int .i64 j] (.bool (mayB p i j)) := by
  refine fnb Try.func115 (entered_of (by kernel_rfl)) rfl rfl rfl ?_
  refine wlist 0 rfl (fun hall => ?_)
  have hn := instr_n hall i
  repeat' (first | (show W _ _ _ _ _ _; first | apply kA | refine kB rfl ?_ | refine kC rfl rfl ?_ | refine kD rfl rfl ?_ | apply kE | apply kF | apply kG | apply kH | refine kI (by kernel_rfl) (by kernel_rfl) ?_) | (show O _ _ _ _ _ _ _; first | (show O _ _ _ _ (⟨_, .alloc _, _, _, _, _⟩ :: _) _ _; first | refine ao_alloc (id := 12) rfl rfl rfl rfl rfl rfl rfl ?_) | (show O _ _ _ _ (⟨_, .store _ _ _, _, _, _, _⟩ :: _) _ _; refine kJ rfl rfl rfl rfl rfl rfl rfl rfl rfl rfl rfl ?_) | apply kK) | apply kL | ((first | apply kM | apply kN); (iterate 3 (· exact rfl)); (· first | (show Y _ ⟨_, .call ⟨.value _, _, _⟩, _, _, _, _⟩ _ _ _; first | exact q_c (leads08_fn _) rfl) | exact ya)) | refine kO rfl rfl rfl rfl rfl ?_ | refine kP rfl rfl rfl ?_ | ((first | refine kQ rfl rfl ?_ ?_ | refine kR rfl rfl rfl rfl rfl ?_ ?_ | refine kS rfl rfl rfl ?_ ?_) <;> intro hc <;> (try simp only [KL, cond_true, cond_false, beq_iff_eq, bne_iff_ne, ne_eq, reduceCtorEq] at hc) <;> (try (have hT : True := hc; clear hT hc)) <;> (try (exfalso; omega))) | apply kT | apply kU | apply kV | apply kW | refine kX rfl ?_ | apply kY | apply kZ)
  all_goals exact retq rfl (congrArg AV.bool (by rw [Bool.eq_iff_iff]; (try simp only [mayB, cond_true, cond_false, decide_eq_true_eq, Bool.not_eq_true', decide_eq_false_iff_not, Bool.and_eq_true, Bool.or_eq_true, true_iff, false_iff, iff_true, iff_false, Bool.false_eq_true, Bool.not_true, Bool.not_false, reduceCtorEq]); (first | done | omega | (constructor <;> intros <;> omega))))
/-- The document's next places of the first n. -/
def mayTo (p : List Instr) (i n : Nat) : List Int := ((List.range n).filter fun j => mayB p i j).map fun j : Nat => (j : Int)
theorem mayTo_len (p : List Instr) (i n : Nat) : (mayTo p i n).length ≤ n := by
  unfold mayTo; rw [List.length_map]; exact Nat.le_trans (List.length_filter_le _ _) (by simp)
theorem mayTo_yes {p : List Instr} {i n : Nat} (h : mayB p i n = true) : mayTo p i (n + 1) = mayTo p i n ++ [(n : Int)] := by simp [mayTo, List.range_succ, h]
theorem mayTo_no {p : List Instr} {i n : Nat} (h : mayB p i n = false) : mayTo p i (n + 1) = mayTo p i n := by simp [mayTo, List.range_succ, h]
theorem sorted_eq : ∀ {a b : List Int}, a.Pairwise (· < ·) → b.Pairwise (· < ·) → (∀ x, x ∈ a ↔ x ∈ b) → a = b
  | [], [], _, _, _ => rfl
  | [], y :: b, _, _, h => absurd ((h y).2 List.mem_cons_self) (by simp)
  | x :: a, [], _, _, h => absurd ((h x).1 List.mem_cons_self) (by simp)
  | x :: a, y :: b, ha, hb, h => by
    rw [List.pairwise_cons] at ha hb
    have e : x = y := by
      rcases List.mem_cons.1 ((h x).1 List.mem_cons_self) with h1 | h1
      · exact h1
      · rcases List.mem_cons.1 ((h y).2 List.mem_cons_self) with h2 | h2
        · exact h2.symm
        · have := hb.1 x h1; have := ha.1 y h2; omega
    subst e
    congr 1
    refine sorted_eq ha.2 hb.2 fun z => ⟨fun hz => ?_, fun hz => ?_⟩
    · rcases List.mem_cons.1 ((h z).1 (List.mem_cons_of_mem _ hz)) with h1 | h1
      · have := ha.1 z hz; omega
      · exact h1
    · rcases List.mem_cons.1 ((h z).2 (List.mem_cons_of_mem _ hz)) with h1 | h1
      · have := hb.1 z hz; omega
      · exact h1
theorem may_next {p : List Instr} (hf : FineP p) (hn : ∀ i, 0 ≤ (p.getD i default).n) {i : Nat} (hi : i < p.length) : mayTo p i p.length = nextL p i := by
  refine sorted_eq ?_ (next_lt p i) fun x => ?_
  · rw [mayTo, List.pairwise_map]
    exact (List.Pairwise.filter _ List.pairwise_lt_range).imp fun h => by omega
  · rw [next_iff hf hn hi, mayTo, List.mem_map]
    constructor
    · rintro ⟨j, hj, rfl⟩
      rw [List.mem_filter, List.mem_range] at hj
      exact ⟨j, rfl, hj.1, hj.2⟩
    · rintro ⟨j, rfl, hj, hm⟩
      exact ⟨j, by rw [List.mem_filter, List.mem_range]; exact ⟨hj, hm⟩, rfl⟩
theorem rnext_fn (p : List Instr) (i : Nat) (hi : i < p.length) (hlp : p.length ≤ 1000000) : Fn Try.prog 82 [.lst 5 (p.map eInstr), .int .i64 i] (.lst 1 ((mayTo p i p.length).map eI)) := by
  refine fnb Try.func82 (entered_of (by kernel_rfl)) rfl rfl rfl ?_
  repeat' (first | (show W _ _ _ _ _ _; first | apply kA | refine kB rfl ?_ | refine kC rfl rfl ?_ | refine kD rfl rfl ?_ | apply kE | apply kF | apply kG | apply kH | refine kI (by kernel_rfl) (by kernel_rfl) ?_) | (show O _ _ _ _ _ _ _; first | (show O _ _ _ _ (⟨_, .store _ _ _, _, _, _, _⟩ :: _) _ _; refine kJ rfl rfl rfl rfl rfl rfl rfl rfl rfl rfl rfl ?_) | apply kK) | apply kL | ((first | apply kM | apply kN); (iterate 3 (· exact rfl)); (· first | exact ya)) | refine kO rfl rfl rfl rfl rfl ?_ | refine kP rfl rfl rfl ?_ | ((first | refine kQ rfl rfl ?_ ?_ | refine kR rfl rfl rfl rfl rfl ?_ ?_ | refine kS rfl rfl rfl ?_ ?_) <;> intro hc <;> (try simp only [KL, cond_true, cond_false, beq_iff_eq, bne_iff_ne, ne_eq, reduceCtorEq] at hc) <;> (try (have hT : True := hc; clear hT hc)) <;> (try (exfalso; omega))) | apply kT | apply kU | apply kV | apply kW | refine kX rfl ?_ | apply kY | apply kZ)
  refine wturn (turn_own eI (t := 5) rfl 10 3 1 (by omega) rfl) ?_
  refine wloop (fun k : Nat => ([(0, .lst 5 (p.map eInstr)), (1, .int .i64 i), (5, .own 10), (8, .int .i64 p.length), (9, .int .i64 k)], [(10, .row 3 1 ((mayTo p i k).map eI))])) (fun k => k ≤ p.length) (fun k => p.length - k) 0 (Nat.zero_le _) les leh (fun k hk => ?_)
  have hl := mayTo_len p i k
  rcases Nat.lt_or_eq_of_le hk with hkl | hkl
  · have c1 := may_fn p i k hi hkl hlp
    cases hb : mayB p i k <;> rw [hb] at c1
    · have e := mayTo_no hb
      repeat' (first | (show W _ _ _ _ _ _; first | apply kA | refine kB rfl ?_ | refine kC rfl rfl ?_ | refine kD rfl rfl ?_ | apply kE | apply kF | apply kG | apply kH | refine kI (by kernel_rfl) (by kernel_rfl) ?_) | (show O _ _ _ _ _ _ _; first | (show O _ _ _ _ (⟨_, .store _ _ _, _, _, _, _⟩ :: _) _ _; refine kJ rfl rfl rfl rfl rfl rfl rfl rfl rfl rfl rfl ?_) | apply kK) | apply kL | ((first | apply kM | apply kN); (iterate 3 (· exact rfl)); (· first | (show Y _ ⟨_, .call ⟨.value _, _, _⟩, _, _, _, _⟩ _ _ _; first | exact q_c (c1) rfl) | exact ya)) | refine kO rfl rfl rfl rfl rfl ?_ | refine kP rfl rfl rfl ?_ | ((first | refine kQ rfl rfl ?_ ?_ | refine kR rfl rfl rfl rfl rfl ?_ ?_ | refine kS rfl rfl rfl ?_ ?_) <;> intro hc <;> (try simp only [KL, cond_true, cond_false, beq_iff_eq, bne_iff_ne, ne_eq, reduceCtorEq] at hc) <;> (try (have hT : True := hc; clear hT hc)) <;> (try (exfalso; omega))) | apply kT | apply kU | apply kV | apply kW | refine kX rfl ?_ | apply kY | apply kZ)
      all_goals first | (exfalso; omega) | skip
      exact ⟨k + 1, by omega, by omega, les, by simp only [e]; exact leh⟩
    · have e := mayTo_yes hb
      repeat' (first | (show W _ _ _ _ _ _; first | apply kA | refine kB rfl ?_ | refine kC rfl rfl ?_ | refine kD rfl rfl ?_ | apply kE | apply kF | apply kG | apply kH | refine kI (by kernel_rfl) (by kernel_rfl) ?_) | (show O _ _ _ _ _ _ _; first | (show O _ _ _ _ (⟨_, .store _ _ _, _, _, _, _⟩ :: _) _ _; refine kJ rfl rfl rfl rfl rfl rfl rfl rfl rfl rfl rfl ?_) | apply kK) | apply kL | ((first | apply kM | apply kN); (iterate 3 (· exact rfl)); (· first | (show Y _ ⟨_, .call ⟨.value _, _, _⟩, _, _, _, _⟩ _ _ _; first | exact q_c (c1) rfl) | exact ya)) | refine kO rfl rfl rfl rfl rfl ?_ | refine kP rfl rfl rfl ?_ | ((first | refine kQ rfl rfl ?_ ?_ | refine kR rfl rfl rfl rfl rfl ?_ ?_ | refine kS rfl rfl rfl ?_ ?_) <;> intro hc <;> (try simp only [KL, cond_true, cond_false, beq_iff_eq, bne_iff_ne, ne_eq, reduceCtorEq] at hc) <;> (try (have hT : True := hc; clear hT hc)) <;> (try (exfalso; omega))) | apply kT | apply kU | apply kV | apply kW | refine kX rfl ?_ | apply kY | apply kZ)
      all_goals first | (exfalso; omega) | skip
      (refine ao_ap (id := 10) (ys := [(k : Int)]) (by_ := 8) rfl rfl rfl rfl rfl rfl rfl rfl rfl rfl (fun _ _ => rfl) ?_ ?_ rfl rfl rfl rfl rfl ?_; (· (first | omega | ((try simp only [List.length_cons, List.length_nil, List.length_append, List.length_map]) <;> omega))); (· (first | omega | ((try simp only [List.length_cons, List.length_nil, List.length_append, List.length_map]) <;> omega))))
      repeat' (first | (show W _ _ _ _ _ _; first | apply kA | refine kB rfl ?_ | refine kC rfl rfl ?_ | refine kD rfl rfl ?_ | apply kE | apply kF | apply kG | apply kH | refine kI (by kernel_rfl) (by kernel_rfl) ?_) | (show O _ _ _ _ _ _ _; first | (show O _ _ _ _ (⟨_, .store _ _ _, _, _, _, _⟩ :: _) _ _; refine kJ rfl rfl rfl rfl rfl rfl rfl rfl rfl rfl rfl ?_) | apply kK) | apply kL | ((first | apply kM | apply kN); (iterate 3 (· exact rfl)); (· first | exact ya)) | refine kO rfl rfl rfl rfl rfl ?_ | refine kP rfl rfl rfl ?_ | ((first | refine kQ rfl rfl ?_ ?_ | refine kR rfl rfl rfl rfl rfl ?_ ?_ | refine kS rfl rfl rfl ?_ ?_) <;> intro hc <;> (try simp only [KL, cond_true, cond_false, beq_iff_eq, bne_iff_ne, ne_eq, reduceCtorEq] at hc) <;> (try (have hT : True := hc; clear hT hc)) <;> (try (exfalso; omega))) | apply kT | apply kU | apply kV | apply kW | refine kX rfl ?_ | apply kY | apply kZ)
      exact ⟨k + 1, by omega, by omega, les, by simp only [e]; exact leh⟩
  · subst hkl
    repeat' (first | (show W _ _ _ _ _ _; first | apply kA | refine kB rfl ?_ | refine kC rfl rfl ?_ | refine kD rfl rfl ?_ | apply kE | apply kF | apply kG | apply kH | refine kI (by kernel_rfl) (by kernel_rfl) ?_) | (show O _ _ _ _ _ _ _; first | (show O _ _ _ _ (⟨_, .store _ _ _, _, _, _, _⟩ :: _) _ _; refine kJ rfl rfl rfl rfl rfl rfl rfl rfl rfl rfl rfl ?_) | apply kK) | apply kL | ((first | apply kM | apply kN); (iterate 3 (· exact rfl)); (· first | exact ya)) | refine kO rfl rfl rfl rfl rfl ?_ | refine kP rfl rfl rfl ?_ | ((first | refine kQ rfl rfl ?_ ?_ | refine kR rfl rfl rfl rfl rfl ?_ ?_ | refine kS rfl rfl rfl ?_ ?_) <;> intro hc <;> (try simp only [KL, cond_true, cond_false, beq_iff_eq, bne_iff_ne, ne_eq, reduceCtorEq] at hc) <;> (try (have hT : True := hc; clear hT hc)) <;> (try (exfalso; omega))) | apply kT | apply kU | apply kV | apply kW | refine kX rfl ?_ | apply kY | apply kZ)
    all_goals first | (exfalso; omega) | skip
    refine retT (fun _ => turn_freeze (t := 4) rfl rfl rfl) ?_
    exact retq rfl rfl
end Go.Proofs.Ytffciebjpiljgaa
namespace Go.Proofs.Ytffciebjpiljgaa
set_option linter.unusedSimpArgs false
set_option linter.unusedVariables false
set_option maxRecDepth 100000
set_option linter.unusedSimpArgs false
set_option linter.unusedVariables false
set_option maxRecDepth 100000
open Go.RowKit
def cntT (l : List Bool) : Nat := l.countP fun b => b
theorem cnt_lt : ∀ {a b : List Bool}, a.length = b.length → (∀ t, a.getD t default = true → b.getD t default = true) → a = b ∨ cntT a < cntT b
  | [], [], _, _ => .inl rfl
  | [], y :: b, h, _ => by simp at h
  | x :: a, [], h, _ => by simp at h
  | x :: a, y :: b, h, hs => by
    have h1 := cnt_lt (a := a) (b := b) (by simpa using h) fun t ht => by have := hs (t + 1); simpa using this (by simpa using ht)
    have h2 := hs 0
    simp only [List.getD_cons_zero] at h2
    have e : ∀ (z : Bool) (l : List Bool), cntT (z :: l) = cntT l + (if z then 1 else 0) := fun z l => by simp [cntT, List.countP_cons]
    rcases h1 with rfl | h1
    · cases x <;> cases y
      · exact .inl rfl
      · refine .inr ?_; rw [e, e]; simp
      · simp at h2
      · exact .inl rfl
    · refine .inr ?_
      rw [e, e]
      cases x <;> cases y
      · simpa using h1
      · simp; omega
      · simp at h2
      · simpa using h1
def rstep (p : List Instr) (out : List Bool) (i j : Nat) : List Bool := out.set j (out.getD j default || (out.getD i default && mayB p i j))
structure RoundI (p : List Instr) (M out : List Bool) (i j : Nat) : Prop where
  len : out.length = p.length
  sup : ∀ t, t < p.length → M.getD t default = true → out.getD t default = true
  snd : ∀ t, t < p.length → out.getD t default = true → ReachP p t
  done : ∀ f t, f < p.length → t < p.length → (f < i ∨ f = i ∧ t < j) → M.getD f default = true → mayB p f t = true → out.getD t default = true
theorem RoundI.step {p : List Instr} {M out : List Bool} {i j : Nat} (h : RoundI p M out i j) (hi : i < p.length) (hj : j < p.length) : RoundI p M (rstep p out i j) i (j + 1) := by
  have hs : ∀ t, (rstep p out i j).getD t default = if j = t then (out.getD j default || (out.getD i default && mayB p i j)) else out.getD t default := fun t => getD_set (by rw [h.len]; exact hj)
  have up : ∀ t, out.getD t default = true → (rstep p out i j).getD t default = true := fun t ht => by
    rw [hs]; split
    · rename_i e; subst e; rw [ht]; rfl
    · exact ht
  refine ⟨by simpa [rstep] using h.len, fun t ht hm => up t (h.sup t ht hm), fun t ht ho => ?_, fun f t hf ht hft hm hmay => ?_⟩
  · rw [hs] at ho
    split at ho
    · rename_i e; subst e
      rcases (Bool.or_eq_true _ _).mp ho with h1 | h1
      · exact h.snd _ ht h1
      · have h2 := (Bool.and_eq_true _ _).mp h1
        exact .step i _ (h.snd i hi h2.1) hj h2.2
    · exact h.snd t ht ho
  · by_cases e : f = i ∧ t = j
    · obtain ⟨rfl, rfl⟩ := e
      rw [hs, if_pos rfl, h.sup f hf hm, hmay]; simp
    · exact up t (h.done f t hf ht (by omega) hm hmay)
theorem RoundI.row {p : List Instr} {M out : List Bool} {i : Nat} (h : RoundI p M out i p.length) : RoundI p M out (i + 1) 0 :=
  ⟨h.len, h.sup, h.snd, fun f t hf ht hft hm hmay => h.done f t hf ht (by omega) hm hmay⟩
structure OutI (p : List Instr) (out : List Bool) (k : Nat) : Prop where
  len : out.length = p.length
  snd : ∀ t, t < p.length → out.getD t default = true → ReachP p t
  zero : out.getD 0 default = true
  cl : (∀ i j, i < p.length → j < p.length → out.getD i default = true → mayB p i j = true → out.getD j default = true) ∨ k + 1 ≤ cntT out
theorem OutI.start {p : List Instr} {M : List Bool} {k : Nat} (h : OutI p M k) : RoundI p M M 0 0 := ⟨h.len, fun _ _ h => h, h.snd, fun f t hf ht hft => by omega⟩
open Classical in
theorem OutI.next {p : List Instr} {M out : List Bool} {k : Nat} (hM : OutI p M k) (h : RoundI p M out p.length 0) (hp : 0 < p.length) : OutI p out (k + 1) := by
  refine ⟨h.len, h.snd, h.sup 0 hp hM.zero, ?_⟩
  have hd : ∀ i j, i < p.length → j < p.length → M.getD i default = true → mayB p i j = true → out.getD j default = true := fun i j hi hj hm hmay => h.done i j hi hj (.inl hi) hm hmay
  have hlt : ∀ t, ¬ t < p.length → M.getD t default = true → False := fun t ht hm => by
    simp [show M.length ≤ t by rw [hM.len]; omega] at hm
  rcases cnt_lt (a := M) (b := out) (hM.len.trans h.len.symm) (fun t ht => by
    by_cases htl : t < p.length
    · exact h.sup t htl ht
    · exact (hlt t htl ht).elim) with e | e
  · subst e; exact .inl hd
  · rcases hM.cl with h1 | h1
    · refine .inl fun i j hi hj ho hmay => ?_
      have e2 := reach_eq hM.len hM.zero hM.snd h1
      have h3 : ReachP p j := .step i j (h.snd i hi ho) hj hmay
      refine h.sup j hj ?_
      rw [e2, reachL_at hj]
      exact decide_eq_true h3
    · exact .inr (by omega)
theorem OutI.done {p : List Instr} {out : List Bool} (h : OutI p out p.length) : out = reachL p := by
  refine reach_eq h.len h.zero h.snd ?_
  rcases h.cl with h1 | h1
  · exact h1
  · have : cntT out ≤ out.length := List.countP_le_length
    rw [h.len] at this; omega
theorem out_0 {p : List Instr} (hp : 0 < p.length) : OutI p ((List.replicate p.length false).set 0 true) 0 := by
  have e : ∀ j, ((List.replicate p.length false).set 0 true).getD j default = if 0 = j then true else false := fun j => by
    rw [getD_set (by simpa using hp)]
    congr 1
    simp only [List.getD_eq_getElem?_getD, List.getElem?_replicate]; split <;> rfl
  refine ⟨by simp, fun t ht h => ?_, by rw [e]; rfl, .inr ?_⟩
  · rw [e] at h
    split at h
    · rename_i e; subst e; exact .zero
    · cases h
  · obtain ⟨n, hn⟩ : ∃ n, p.length = n + 1 := ⟨p.length - 1, by omega⟩
    rw [hn, List.replicate_succ, List.set_cons_zero]
    simp [cntT, List.countP_cons]
end Go.Proofs.Ytffciebjpiljgaa
namespace Go.Proofs.Ytffciebjpiljgaa
set_option linter.unusedSimpArgs false
set_option linter.unusedVariables false
set_option maxRecDepth 100000
set_option linter.unusedSimpArgs false
set_option linter.unusedVariables false
set_option maxRecDepth 100000
open Go.RowKit
section
variable {p : List Instr}
theorem loops_mem {s : Span} (h : s ∈ loopsL p) : ∃ i : Nat, i < p.length ∧ (p.getD i default).op = 16 ∧ s.frm = (p.getD i default).n ∧ s.to = i := by
  rw [loopsL, loopsTo, List.mem_map] at h
  obtain ⟨i, hi, rfl⟩ := h
  rw [List.mem_filter, List.mem_range] at hi
  exact ⟨i, hi.1, of_decide_eq_true hi.2, rfl, rfl⟩
theorem loops_at {k : Nat} (hk : k < (loopsL p).length) : ∃ i : Nat, i < p.length ∧ (p.getD i default).op = 16 ∧ ((loopsL p).getD k default).frm = (p.getD i default).n ∧ ((loopsL p).getD k default).to = i := loops_mem (getD_mem hk)
theorem loops_inc : (loopsL p).Pairwise fun a b => a.to < b.to := by
  rw [loopsL, loopsTo, List.pairwise_map]
  exact (List.Pairwise.filter _ List.pairwise_lt_range).imp fun h => Int.ofNat_lt.2 h
theorem loops_lt {j k : Nat} (hjk : j < k) (hk : k < (loopsL p).length) : ((loopsL p).getD j default).to < ((loopsL p).getD k default).to := by
  have := List.pairwise_iff_getElem.1 (loops_inc (p := p)) j k (by omega) hk hjk
  simpa [hk, show j < (loopsL p).length by omega] using this
/-- Of two loops around a place the one that ends first is no longer. -/
theorem loops_short (hf : FineP p) {j k : Nat} (hjk : j < k) (hk : k < (loopsL p).length) {pc : Int} (h1 : hasB ((loopsL p).getD j default) pc = true) (h2 : hasB ((loopsL p).getD k default) pc = true) :
    ((loopsL p).getD j default).to - ((loopsL p).getD j default).frm ≤ ((loopsL p).getD k default).to - ((loopsL p).getD k default).frm := by
  have h3 := hf.loop k hk
  have h4 := loops_lt hjk hk
  have hj : j < (loopsL p).length := by omega
  have h5 : overB ((loopsL p).getD k default) ((loopsL p).getD j default) = false := by
    rw [loopQ, List.any_eq_false] at h3
    have hm : (loopsL p).getD j default ∈ (loopsL p).take k := by
      have e : (loopsL p).getD j default = ((loopsL p).take k)[j]'(by rw [List.length_take]; omega) := by simp [hj]
      rw [e]; exact List.getElem_mem _
    simpa using h3 _ hm
  rw [overB, decide_eq_false_iff_not] at h5
  rw [hasB, decide_eq_true_eq] at h1 h2
  omega
end
theorem fst_succ {q : Nat → Bool} {k : Nat} : fstN q (k + 1) = match fstN q k with | some b => some b | none => if q k = true then some k else none := by
  rw [fstN, fstN, List.range_succ, List.find?_append]
  cases (List.range k).find? q with
  | some b => rfl
  | none => simp only [Option.none_or, List.find?_cons, List.find?_nil]; cases q k <;> rfl
theorem filter_fst {α : Type} [Inhabited α] {l : List α} {q : α → Bool} : ∀ b, fstN (fun i => q (l.getD i default)) l.length = some b → (l.filter q).getD 0 default = l.getD b default ∧ 0 < (l.filter q).length := by
  intro b hb
  obtain ⟨h1, h2, h3⟩ := fst_spec hb
  obtain ⟨a, x, c, rfl, ha⟩ := parted h1
  have e : (a ++ x :: c).getD b default = x := get_at rfl ha.symm
  rw [e] at h2 ⊢
  have hn : a.filter q = [] := List.filter_eq_nil_iff.2 fun y hy => by
    obtain ⟨j, hj, rfl⟩ := List.getElem_of_mem hy
    have := h3 j (by omega)
    simp only [List.getD_eq_getElem?_getD, List.getElem?_append_left hj, List.getElem?_eq_getElem hj, Option.getD_some] at this
    simp [this]
  rw [List.filter_append, hn, List.filter_cons, if_pos h2]
  simp
theorem filter_fst_none {α : Type} [Inhabited α] {l : List α} {q : α → Bool} (h : fstN (fun i => q (l.getD i default)) l.length = none) : l.filter q = [] := by
  have h3 := fst_none h
  refine List.filter_eq_nil_iff.2 fun y hy => ?_
  obtain ⟨j, hj, rfl⟩ := List.getElem_of_mem hy
  have := h3 j hj
  simpa [hj] using this
theorem filter_cnt {α : Type} [Inhabited α] {l : List α} {q : α → Bool} : (l.filter q).length = cntN (fun i => q (l.getD i default)) l.length := by
  rw [← List.countP_eq_length_filter, cntN]
  have e : l = (List.range l.length).map fun i => l.getD i default := by
    refine List.ext_getElem (by simp) fun i h1 h2 => ?_
    simp [h1]
  conv => lhs; rw [e]
  rw [List.countP_map]; rfl
end Go.Proofs.Ytffciebjpiljgaa
namespace Go.Proofs.Ytffciebjpiljgaa
set_option linter.unusedSimpArgs false
set_option linter.unusedVariables false
set_option maxRecDepth 100000
set_option linter.unusedSimpArgs false
set_option linter.unusedVariables false
set_option maxRecDepth 100000
open Go.RowKit
section
variable {p : List Instr}
theorem ends_ne (hf : FineP p) (hn : ∀ i, 0 ≤ (p.getD i default).n) {i j : Nat} (hi : i < p.length) (hm : mayB p i j = true) : j ≠ i ∧ (j < i → (p.getD i default).op = 16) := by
  rw [mayB, decide_eq_true_eq] at hm
  rcases hm.2 with ⟨h1, h2, h3⟩ | ⟨h1, h2⟩
  · have h4 := leads_to hf hn hi h1 h2
    exact ⟨by omega, fun h => by omega⟩
  · exact ⟨by omega, fun h => by omega⟩
theorem getD_of {α : Type} [Inhabited α] {l : List α} {s : α} (h : s ∈ l) : ∃ k, k < l.length ∧ l.getD k default = s := by
  obtain ⟨k, hk, rfl⟩ := List.getElem_of_mem h
  exact ⟨k, hk, by simp [hk]⟩
/-- Two loops that end in order do not overlap. -/
theorem no_over (hf : FineP p) {j k : Nat} (hjk : j < k) (hk : k < (loopsL p).length) : ¬ (((loopsL p).getD j default).frm < ((loopsL p).getD k default).frm ∧ ((loopsL p).getD k default).frm ≤ ((loopsL p).getD j default).to) := by
  have h3 := hf.loop k hk
  have hj : j < (loopsL p).length := by omega
  rw [loopQ, List.any_eq_false] at h3
  have hm : (loopsL p).getD j default ∈ (loopsL p).take k := by
    have e : (loopsL p).getD j default = ((loopsL p).take k)[j]'(by rw [List.length_take]; omega) := by simp [hj]
    rw [e]; exact List.getElem_mem _
  have := h3 _ hm
  rw [overB, decide_eq_true_eq] at this
  exact this
theorem ends_loop (hf : FineP p) (hn : ∀ i, 0 ≤ (p.getD i default).n) {i j : Nat} (hi : i < p.length) (hm : mayB p i j = true) {k : Nat} (hk : k < (loopsL p).length) :
    (hasB ((loopsL p).getD k default) j = true → hasB ((loopsL p).getD k default) i = false → (j : Int) = ((loopsL p).getD k default).frm) ∧
    (hasB ((loopsL p).getD k default) i = true → hasB ((loopsL p).getD k default) j = false → (i : Int) = ((loopsL p).getD k default).to) := by
  rw [mayB, decide_eq_true_eq] at hm
  have e : ∀ x : Int, (hasB ((loopsL p).getD k default) x = true ↔ ((loopsL p).getD k default).frm ≤ x ∧ x ≤ ((loopsL p).getD k default).to) ∧ (hasB ((loopsL p).getD k default) x = false ↔ ¬ (((loopsL p).getD k default).frm ≤ x ∧ x ≤ ((loopsL p).getD k default).to)) := fun x => by
    rw [hasB]; exact ⟨decide_eq_true_iff, decide_eq_false_iff_not⟩
  rcases hm.2 with ⟨h1, h2, h3⟩ | ⟨h1, h2⟩
  · have h4 := leads_to hf hn hi h1 h2
    by_cases h5 : (p.getD i default).op = 16
    · have hmem : (⟨(p.getD i default).n, i⟩ : Span) ∈ loopsL p := by
        rw [loopsL, loopsTo, List.mem_map]
        exact ⟨i, List.mem_filter.2 ⟨List.mem_range.2 hi, decide_eq_true h5⟩, rfl⟩
      obtain ⟨b, hb, hbe⟩ := getD_of hmem
      have hbf : ((loopsL p).getD b default).frm = (p.getD i default).n := by rw [hbe]
      have hbt : ((loopsL p).getD b default).to = i := by rw [hbe]
      rw [(e _).1, (e _).2, (e _).1, (e _).2]
      refine ⟨fun g1 g2 => ?_, fun g1 g2 => ?_⟩
      · have hkb : k < b := by
          rcases Nat.lt_trichotomy k b with q | q | q
          · exact q
          · subst q; omega
          · have := loops_lt q hk; omega
        have := no_over hf hkb hb
        omega
      · rcases Nat.lt_trichotomy k b with q | q | q
        · have := loops_lt q hb; omega
        · subst q; omega
        · have := no_over hf q hk; omega
    · have h6 := hf.jump i hi
      have h7 := leads_iff hf hi
      rw [decide_eq_true ⟨h1, h2⟩] at h7
      rw [jumpB, h7, Bool.true_and] at h6
      have h8 : crossB (loopsL p) i (p.getD i default).n = false := by
        have : ((p.getD i default).op != 16) = true := by simpa using h5
        rw [this, Bool.true_and] at h6; exact h6
      rw [crossB, List.any_eq_false] at h8
      have h9 := h8 _ (getD_mem hk)
      rw [← h3] at h9
      have h10 : hasB ((loopsL p).getD k default) i = hasB ((loopsL p).getD k default) j := by simpa using h9
      rw [h10]
      exact ⟨fun g1 g2 => absurd (g1.symm.trans g2) (by simp), fun g1 g2 => absurd (g1.symm.trans g2) (by simp)⟩
  · rw [(e _).1, (e _).2, (e _).1, (e _).2]
    exact ⟨fun g1 g2 => by omega, fun g1 g2 => by omega⟩
theorem next_nil (p : List Instr) (i : Nat) : (nextL p i).length = 0 ↔ (p.getD i default).op = 21 := by
  rw [nextL]
  split
  · rename_i h; exact ⟨fun _ => h, fun _ => rfl⟩
  · rename_i h
    split
    · simp only [List.length_singleton]; exact ⟨fun e => by omega, fun e => absurd e h⟩
    · split
      · simp only [List.length_singleton]; exact ⟨fun e => by omega, fun e => absurd e h⟩
      · simp only [List.length_cons, List.length_nil]; exact ⟨fun e => by omega, fun e => absurd e h⟩
end
open Classical in
theorem reach_0 {p : List Instr} (hp : 0 < p.length) : (reachL p).getD 0 default = true := by rw [reachL_at hp]; exact decide_eq_true .zero
open Classical in
theorem reach_step {p : List Instr} {i j : Nat} (hi : i < p.length) (hj : j < p.length) (hm : mayB p i j = true) (h : (reachL p).getD i default = true) : (reachL p).getD j default = true := by
  rw [reachL_at hi] at h
  rw [reachL_at hj]
  exact decide_eq_true (.step i j (of_decide_eq_true h) hj hm)
end Go.Proofs.Ytffciebjpiljgaa
