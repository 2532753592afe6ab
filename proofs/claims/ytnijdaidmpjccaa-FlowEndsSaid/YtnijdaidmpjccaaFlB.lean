/- What is right of a program that may be: where one may come, and what is reached. No condition. -/
import Derived.Test.YtnijdaidmpjccaaFlA
import Derived.Test.YtnijdaidmpjccaaSort2
namespace Go.Proofs.Ytnijdaidmpjccaa
set_option linter.unusedSimpArgs false
set_option linter.unusedVariables false
set_option maxRecDepth 100000
set_option linter.unusedSimpArgs false
set_option linter.unusedVariables false
structure FineP (p : List Instr) : Prop where
  pos : 0 < p.length
  most : p.length ≤ 64
  right : ∀ i, i < p.length → rightI (p.getD i default) = true
  leads : ∀ i, i < p.length → leadsB p i = true
  loop : ∀ k, k < (loopsL p).length → loopQ (loopsL p) k = false
  jump : ∀ i, i < p.length → jumpB p (loopsL p) i = false
  last : (p.getD (p.length - 1) default).op = 21
theorem fine_inv {p : List Instr} (h : fineB p = true) : FineP p := by
  rw [fineB, decide_eq_true_eq] at h
  by_cases h0 : p.length = 0 ∨ 64 < p.length
  · rw [check_arg h0] at h; simp at h
  cases h1 : fstN (formQ p) p.length with
  | some k => rw [check_form h0 h1] at h; simp at h
  | none =>
  cases h2 : fstN (flowQ p) p.length with
  | some k => rw [check_flow h0 h1 h2] at h; simp at h
  | none =>
  cases h3 : fstN (loopQ (loopsL p)) (loopsL p).length with
  | some k => rw [check_loop h0 h1 h2 h3] at h; simp at h
  | none =>
  cases h4 : fstN (jumpB p (loopsL p)) p.length with
  | some k => rw [check_jump h0 h1 h2 h3 h4] at h; simp at h
  | none =>
  rw [check_end h0 h1 h2 h3 h4] at h
  refine ⟨by omega, by omega, fun i hi => by simpa [formQ] using fst_none h1 i hi, fun i hi => by simpa [flowQ] using fst_none h2 i hi, fst_none h3, fst_none h4, ?_⟩
  split at h
  · assumption
  · simp at h
/-- May one come from i to j? -/
def mayB (p : List Instr) (i j : Nat) : Bool := decide ((p.getD i default).op ≠ 21 ∧ ((14 ≤ (p.getD i default).op ∧ (p.getD i default).op ≤ 16 ∧ (j : Int) = (p.getD i default).n) ∨ ((p.getD i default).op ≠ 14 ∧ j = i + 1)))
section
variable {p : List Instr}
theorem leads_iff (h : FineP p) {i : Nat} (hi : i < p.length) : leadsI (p.getD i default) = decide (14 ≤ (p.getD i default).op ∧ (p.getD i default).op ≤ 16) := by
  rw [leadsI, h.right i hi, Bool.true_and]
theorem leads_to (h : FineP p) (hn : ∀ i, 0 ≤ (p.getD i default).n) {i : Nat} (hi : i < p.length) (h1 : 14 ≤ (p.getD i default).op) (h2 : (p.getD i default).op ≤ 16) :
    (p.getD i default).n < p.length ∧ (p.getD i default).n ≠ i ∧ ((p.getD i default).op = 16 ∧ (p.getD i default).n < i ∨ (p.getD i default).op ≠ 16 ∧ i < (p.getD i default).n) := by
  have h3 := h.leads i hi
  rw [leadsB, leadsX, leads_iff h hi, decide_eq_true ⟨h1, h2⟩, if_pos rfl] at h3
  split at h3
  · have := of_decide_eq_true h3; omega
  · have := of_decide_eq_true h3; omega
theorem inner_lt (h : FineP p) {i : Nat} (hi : i < p.length) (h1 : (p.getD i default).op ≠ 21) : i + 1 < p.length := by
  rcases Nat.lt_or_ge (i + 1) p.length with h2 | h2
  · exact h2
  · exfalso
    have h3 := h.last
    rw [show p.length - 1 = i by omega] at h3
    exact h1 h3
/-- What next tells is where one may come. -/
theorem next_iff (h : FineP p) (hn : ∀ i, 0 ≤ (p.getD i default).n) {i : Nat} (hi : i < p.length) {x : Int} : x ∈ nextL p i ↔ ∃ j : Nat, x = j ∧ j < p.length ∧ mayB p i j = true := by
  have hl := leads_iff h hi
  have hnn := hn i
  rw [nextL]
  by_cases h1 : (p.getD i default).op = 21
  · rw [if_pos h1]; simp only [mayB, h1]; simp
  have hlt := inner_lt h hi h1
  rw [if_neg h1]
  by_cases h2 : (p.getD i default).op = 14
  · have h3 := leads_to h hn hi (by omega) (by omega)
    rw [if_pos h2, tgt_yes (by rw [hl]; exact decide_eq_true (by omega)), List.mem_singleton]
    simp only [mayB, decide_eq_true_eq]
    constructor
    · rintro rfl
      exact ⟨(p.getD i default).n.toNat, by omega, by omega, by omega⟩
    · rintro ⟨j, rfl, hj, _, h4 | h4⟩
      · exact h4.2.2
      · exact absurd h2 h4.1
  rw [if_neg h2]
  by_cases h3 : 14 ≤ (p.getD i default).op ∧ (p.getD i default).op ≤ 16
  · have h4 := leads_to h hn hi h3.1 h3.2
    rw [tgt_yes (by rw [hl]; exact decide_eq_true h3), hl, decide_eq_true h3]
    simp only [mayB, decide_eq_true_eq]
    split
    · rename_i h5
      rw [List.mem_singleton]
      constructor
      · rintro rfl
        exact ⟨i + 1, by omega, hlt, h1, .inr ⟨h2, rfl⟩⟩
      · rintro ⟨j, rfl, hj, _, h6 | h6⟩
        · rcases h5 with h5 | h5
          · cases h5
          · omega
        · omega
    · rw [List.mem_cons, List.mem_singleton]
      constructor
      · intro hx
        by_cases hx2 : x = (i : Int) + 1
        · exact ⟨i + 1, by omega, hlt, h1, .inr ⟨h2, rfl⟩⟩
        · exact ⟨(p.getD i default).n.toNat, by omega, by omega, h1, .inl ⟨h3.1, h3.2, by omega⟩⟩
      · rintro ⟨j, rfl, hj, _, h6 | h6⟩ <;> omega
  · rw [hl, decide_eq_false h3, if_pos (.inl rfl), List.mem_singleton]
    simp only [mayB, decide_eq_true_eq]
    constructor
    · rintro rfl
      exact ⟨i + 1, by omega, hlt, h1, .inr ⟨h2, rfl⟩⟩
    · rintro ⟨j, rfl, hj, _, h6 | h6⟩
      · exact absurd ⟨h6.1, h6.2.1⟩ h3
      · omega
theorem next_len (p : List Instr) (i : Nat) : (nextL p i).length ≤ 2 := by
  rw [nextL]; split
  · simp
  · split
    · simp
    · split <;> simp
theorem next_lt (p : List Instr) (i : Nat) : (nextL p i).Pairwise (· < ·) := by
  rw [nextL]; split
  · simp
  · split
    · simp
    · split
      · simp
      · rename_i h; rw [List.pairwise_cons]
        refine ⟨fun x hx => ?_, by simp⟩
        rw [List.mem_singleton] at hx
        have : ¬ tgtI (p.getD i default) = (i : Int) + 1 := fun e => h (.inr e)
        omega
/-- What is reached. -/
inductive ReachP (p : List Instr) : Nat → Prop
  | zero : ReachP p 0
  | step (i j : Nat) (h : ReachP p i) (hj : j < p.length) (hm : mayB p i j = true) : ReachP p j
theorem reach_lt (hp : 0 < p.length) {j : Nat} (h : ReachP p j) : j < p.length := by
  cases h with
  | zero => exact hp
  | step i j h hj hm => exact hj
open Classical in
noncomputable def reachL (p : List Instr) : List Bool := (List.range p.length).map fun j => decide (ReachP p j)
theorem reachL_len (p : List Instr) : (reachL p).length = p.length := by simp [reachL]
open Classical in
theorem reachL_at {j : Nat} (hj : j < p.length) : (reachL p).getD j default = decide (ReachP p j) := by simp [reachL, hj]
open Classical in
/-- What has the first place, and is closed, and is reached, is all that is reached. -/
theorem reach_eq {out : List Bool} (hl : out.length = p.length) (h0 : out.getD 0 default = true) (hs : ∀ j, j < p.length → out.getD j default = true → ReachP p j) (hc : ∀ i j, i < p.length → j < p.length → out.getD i default = true → mayB p i j = true → out.getD j default = true) : out = reachL p := by
  refine List.ext_getElem (by rw [hl, reachL_len]) fun j h1 h2 => ?_
  have hj : j < p.length := by rw [← hl]; exact h1
  have e1 : out.getD j default = out[j] := by simp [h1]
  have e2 : (reachL p).getD j default = (reachL p)[j] := by simp [h2]
  rw [← e1, ← e2, reachL_at hj, Bool.eq_iff_iff, decide_eq_true_eq]
  refine ⟨hs j hj, fun hr => ?_⟩
  have hp : 0 < p.length := by omega
  clear e1 e2 h1 h2 hj
  induction hr with
  | zero => exact h0
  | step i j h hj hm ih => exact hc i j (reach_lt hp h) hj ih hm
end
/-! ## The queue -/
structure BfsI (p : List Instr) (out : List Bool) (todo : List Int) : Prop where
  len : out.length = p.length
  snd : ∀ j, j < p.length → out.getD j default = true → ReachP p j
  que : ∀ x ∈ todo, ∃ j : Nat, x = j ∧ j < p.length ∧ ReachP p j
  zero : out.getD 0 default = true ∨ (0 : Int) ∈ todo
  cl : ∀ i j, i < p.length → j < p.length → out.getD i default = true → mayB p i j = true → out.getD j default = true ∨ (j : Int) ∈ todo
theorem bfs_0 {p : List Instr} (hp : 0 < p.length) : BfsI p (List.replicate p.length false) [0] := by
  have e : ∀ j, (List.replicate p.length false).getD j default = false := fun j => by
    simp only [List.getD_eq_getElem?_getD, List.getElem?_replicate]; split <;> rfl
  exact ⟨by simp, fun j hj h => absurd h (by rw [e]; simp), fun x hx => ⟨0, by simpa using hx, hp, .zero⟩, .inr (by simp), fun i j hi hj h => absurd h (by rw [e]; simp)⟩
theorem bfs_skip {p : List Instr} {out : List Bool} {k : Nat} {todo : List Int} (h : BfsI p out ((k : Int) :: todo)) (hk : out.getD k default = true) : BfsI p out todo := by
  refine ⟨h.len, h.snd, fun x hx => h.que x (List.mem_cons_of_mem _ hx), ?_, fun i j hi hj ho hm => ?_⟩
  · rcases h.zero with h1 | h1
    · exact .inl h1
    · rcases List.mem_cons.1 h1 with h2 | h2
      · have : k = 0 := by omega
        subst this; exact .inl hk
      · exact .inr h2
  · rcases h.cl i j hi hj ho hm with h1 | h1
    · exact .inl h1
    · rcases List.mem_cons.1 h1 with h2 | h2
      · have : k = j := by omega
        subst this; exact .inl hk
      · exact .inr h2
theorem getD_set {α : Type} [Inhabited α] {l : List α} {k j : Nat} {v : α} (hk : k < l.length) : (l.set k v).getD j default = if k = j then v else l.getD j default := by
  simp only [List.getD_eq_getElem?_getD, List.getElem?_set]
  split
  · rename_i e; subst e; simp [hk]
  · rfl
theorem bfs_more {p : List Instr} (hf : FineP p) (hn : ∀ i, 0 ≤ (p.getD i default).n) {out : List Bool} {k : Nat} {todo : List Int} (h : BfsI p out ((k : Int) :: todo)) (hkl : k < p.length) : BfsI p (out.set k true) (todo ++ nextL p k) := by
  obtain ⟨k', e, _, hr⟩ := h.que (k : Int) List.mem_cons_self
  have : k' = k := by omega
  subst this
  have hs : ∀ j, (out.set k' true).getD j default = if k' = j then true else out.getD j default := fun j => getD_set (by rw [h.len]; exact hkl)
  refine ⟨by simpa using h.len, fun j hj ho => ?_, fun x hx => ?_, ?_, fun i j hi hj ho hm => ?_⟩
  · rw [hs] at ho
    split at ho
    · rename_i e; subst e; exact hr
    · exact h.snd j hj ho
  · rcases List.mem_append.1 hx with hx | hx
    · exact h.que x (List.mem_cons_of_mem _ hx)
    · obtain ⟨j, rfl, hj, hm⟩ := (next_iff hf hn hkl).1 hx
      exact ⟨j, rfl, hj, .step k' j hr hj hm⟩
  · rw [hs]
    rcases h.zero with h1 | h1
    · split
      · exact .inl rfl
      · exact .inl h1
    · rcases List.mem_cons.1 h1 with h2 | h2
      · have : k' = 0 := by omega
        rw [if_pos this]; exact .inl rfl
      · exact .inr (List.mem_append_left _ h2)
  · rw [hs] at ho ⊢
    by_cases e : k' = i
    · subst e
      exact .inr (List.mem_append_right _ ((next_iff hf hn hkl).2 ⟨j, rfl, hj, hm⟩))
    · rw [if_neg e] at ho
      split
      · exact .inl rfl
      · rename_i e2
        rcases h.cl i j hi hj ho hm with h1 | h1
        · exact .inl h1
        · rcases List.mem_cons.1 h1 with h2 | h2
          · exact absurd (by omega) e2
          · exact .inr (List.mem_append_left _ h2)
theorem bfs_done {p : List Instr} {out : List Bool} (h : BfsI p out []) : out = reachL p :=
  reach_eq h.len (by rcases h.zero with h1 | h1; exact h1; cases h1) h.snd fun i j hi hj ho hm => by
    rcases h.cl i j hi hj ho hm with h1 | h1
    · exact h1
    · cases h1
/-- How many are not marked. -/
def openN (out : List Bool) : Nat := out.countP (fun b => !b)
theorem open_set {out : List Bool} {k : Nat} (hk : k < out.length) (h : out.getD k default = false) : openN (out.set k true) + 1 = openN out := by
  obtain ⟨a, x, b, rfl, ha⟩ := parted hk
  have e : x = false := by rw [← h]; exact (get_at rfl ha.symm).symm
  subst e
  rw [← ha, app_set, openN, openN, List.countP_append, List.countP_append, List.countP_cons, List.countP_cons]
  simp; omega
end Go.Proofs.Ytnijdaidmpjccaa
