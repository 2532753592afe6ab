/- Dues as a heap, in plain: what rises and what sinks. No condition. -/
import Derived.Test.YtfjoaeghnfkdlaaRa2
import Derived.Test.YtfjoaeghnfkdlaaAvDrN
namespace Go.Proofs.Ytfjoaeghnfkdlaa
set_option linter.unusedSimpArgs false
set_option linter.unusedVariables false
set_option maxRecDepth 100000
set_option linter.unusedSimpArgs false
set_option linter.unusedVariables false
open Go.RowKit
--BEGIN
def dG (l : List Due) (i : Nat) : Due := l.getD i default
def gtD (a b : Due) : Prop := b.at_ < a.at_ ∨ b.at_ = a.at_ ∧ b.task < a.task
theorem ltD_iff {a b : Due} : ltD a b = true ↔ gtD b a := by simp [ltD, gtD]
theorem ltD_not {a b : Due} : ltD a b = false ↔ ¬ gtD b a := by simp [ltD, gtD]
/-- A heap: nobody stands ahead of whom it hangs on. -/
def HpA (l : List Due) : Prop := ∀ j, 0 < j → j < l.length → ¬ gtD (dG l ((j - 1) / 2)) (dG l j)
def HpU (l : List Due) (i : Nat) : Prop := (∀ j, 0 < j → j < l.length → j ≠ i → ¬ gtD (dG l ((j - 1) / 2)) (dG l j)) ∧ ∀ j, 0 < j → j < l.length → (j - 1) / 2 = i → 0 < i → ¬ gtD (dG l ((i - 1) / 2)) (dG l j)
def HpD (l : List Due) (i : Nat) : Prop := (∀ j, 0 < j → j < l.length → (j - 1) / 2 ≠ i → ¬ gtD (dG l ((j - 1) / 2)) (dG l j)) ∧ ∀ j, 0 < j → j < l.length → (j - 1) / 2 = i → 0 < i → ¬ gtD (dG l ((i - 1) / 2)) (dG l j)
def swD (l : List Due) (i p : Nat) : List Due := (l.set i (dG l p)).set p (dG l i)
theorem swD_len (l : List Due) (i p : Nat) : (swD l i p).length = l.length := by simp [swD]
theorem swD_at (l : List Due) (i p : Nat) (hi : i < l.length) (hp : p < l.length) (j : Nat) (hj : j < l.length) : dG (swD l i p) j = if j = p then dG l i else if j = i then dG l p else dG l j := by
  unfold dG swD
  rw [List.getD_eq_getElem?_getD, List.getElem?_set]
  by_cases h1 : p = j
  · subst h1
    rw [if_pos rfl, if_pos rfl, List.length_set, if_pos hp]; rfl
  · rw [if_neg h1, if_neg (fun e => h1 e.symm), List.getElem?_set]
    by_cases h2 : i = j
    · subst h2
      rw [if_pos rfl, if_pos rfl, if_pos hi]; rfl
    · rw [if_neg h2, if_neg (fun e => h2 e.symm)]
      rw [← List.getD_eq_getElem?_getD]
theorem sw_perm {l : List Due} {p i : Nat} (hpi : p < i) (hi : i < l.length) : (swD l i p).Perm l := by
  obtain ⟨a, x, t, rfl, ha⟩ := parted (l := l) (k := p) (by omega)
  simp only [List.length_append, List.length_cons] at hi
  obtain ⟨b, y, r, rfl, hb⟩ := parted (l := t) (k := i - p - 1) (by omega)
  have e : a ++ x :: (b ++ y :: r) = a ++ x :: b ++ y :: r := by simp
  rw [e]
  have hj : i = a.length + 1 + b.length := by omega
  have e1 : dG (a ++ x :: b ++ y :: r) p = x := by
    rw [dG, ← e]; exact get_at rfl ha.symm
  have e2 : dG (a ++ x :: b ++ y :: r) i = y := by rw [dG, hj]; exact two_get a b r x y
  rw [swD, e1, e2, hj, ← ha, swap_ji a b r x y]
  have h1 : (a ++ y :: b ++ x :: r) = a ++ (y :: (b ++ x :: r)) := by simp
  have h2 : (a ++ x :: b ++ y :: r) = a ++ (x :: (b ++ y :: r)) := by simp
  rw [h1, h2]
  refine List.Perm.append_left a ?_
  have h3 : (y :: (b ++ x :: r)).Perm (y :: x :: (b ++ r)) := (List.perm_middle).cons y
  have h4 : (x :: (b ++ y :: r)).Perm (x :: y :: (b ++ r)) := (List.perm_middle).cons x
  exact h3.trans ((List.Perm.swap x y _).trans h4.symm)
theorem up_step {l : List Due} {i : Nat} (h : HpU l i) (h0 : 0 < i) (hi : i < l.length) (hlt : gtD (dG l ((i - 1) / 2)) (dG l i)) : HpU (swD l i ((i - 1) / 2)) ((i - 1) / 2) := by
  obtain ⟨p, hp⟩ : ∃ p, p = (i - 1) / 2 := ⟨_, rfl⟩
  rw [← hp] at hlt ⊢
  have hpl : p < l.length := by omega
  have hpi : p < i := by omega
  have at_ := swD_at l i p hi hpl
  refine ⟨fun j j0 jl jne => ?_, fun j j0 jl jp p0 => ?_⟩
  · rw [swD_len] at jl
    rw [at_ j jl, at_ ((j - 1) / 2) (by omega), if_neg jne]
    by_cases h1 : j = i
    · subst h1
      rw [if_pos rfl, ← hp, if_pos rfl]
      unfold gtD at *; omega
    · rw [if_neg h1]
      by_cases h2 : (j - 1) / 2 = p
      · rw [if_pos h2]
        have h3 := h.1 j j0 jl h1
        rw [h2] at h3
        unfold gtD at *; omega
      · rw [if_neg h2]
        by_cases h4 : (j - 1) / 2 = i
        · rw [if_pos h4]
          have h3 := h.2 j j0 jl h4 h0
          rw [← hp] at h3; exact h3
        · rw [if_neg h4]; exact h.1 j j0 jl h1
  · rw [swD_len] at jl
    rw [at_ j jl, at_ ((p - 1) / 2) (by omega), if_neg (by omega), if_neg (by omega), if_neg (by omega)]
    have h5 := h.1 p p0 hpl (by omega)
    by_cases h1 : j = i
    · rw [if_pos h1]; exact h5
    · rw [if_neg h1]
      have h3 := h.1 j j0 jl h1
      rw [jp] at h3
      unfold gtD at *; omega
theorem up_top {l : List Due} (h : HpU l 0) : HpA l := fun j j0 jl => h.1 j j0 jl (by omega)
theorem up_end {l : List Due} {i : Nat} (h : HpU l i) (hlt : ¬ gtD (dG l ((i - 1) / 2)) (dG l i)) : HpA l := fun j j0 jl => by
  by_cases h1 : j = i
  · subst h1; exact hlt
  · exact h.1 j j0 jl h1
theorem up_new {l : List Due} (h : HpA l) (d : Due) : HpU (l ++ [d]) l.length := by
  have e : ∀ j, j < l.length → dG (l ++ [d]) j = dG l j := fun j hj => by rw [dG, dG, List.getD_eq_getElem?_getD, List.getElem?_append_left hj, ← List.getD_eq_getElem?_getD]
  refine ⟨fun j j0 jl jne => ?_, fun j j0 jl jp h0 => ?_⟩
  · simp at jl
    rw [e j (by omega), e _ (by omega)]
    exact h j j0 (by omega)
  · simp at jl; omega
theorem down_step {l : List Due} {i k : Nat} (h : HpD l i) (hk0 : 0 < k) (hk : k < l.length) (hki : (k - 1) / 2 = i) (hlt : gtD (dG l i) (dG l k)) (hsm : ∀ j, 0 < j → j < l.length → (j - 1) / 2 = i → ¬ gtD (dG l k) (dG l j)) : HpD (swD l i k) k := by
  have hi : i < l.length := by omega
  have at_ := swD_at l i k hi hk
  refine ⟨fun j j0 jl jne => ?_, fun j j0 jl jp k0 => ?_⟩
  · rw [swD_len] at jl
    rw [at_ j jl, at_ ((j - 1) / 2) (by omega), if_neg (show ¬ (j - 1) / 2 = k from jne)]
    by_cases h1 : j = k
    · subst h1
      rw [if_pos rfl, if_pos hki]
      unfold gtD at *; omega
    · rw [if_neg h1]
      by_cases h2 : j = i
      · subst h2
        rw [if_pos rfl, if_neg (by omega)]
        have := h.2 k hk0 hk hki j0
        exact this
      · rw [if_neg h2]
        by_cases h3 : (j - 1) / 2 = i
        · rw [if_pos h3]; exact hsm j j0 jl h3
        · rw [if_neg h3]; exact h.1 j j0 jl h3
  · rw [swD_len] at jl
    rw [at_ j jl, hki, at_ i hi, if_neg (show ¬ i = k by omega), if_pos rfl, if_neg (show ¬ j = k by omega), if_neg (show ¬ j = i by omega)]
    have := h.1 j j0 jl (by omega)
    rw [jp] at this; exact this
theorem down_end {l : List Due} {i : Nat} (h : HpD l i) (hlt : ∀ j, 0 < j → j < l.length → (j - 1) / 2 = i → ¬ gtD (dG l i) (dG l j)) : HpA l := fun j j0 jl => by
  by_cases h1 : (j - 1) / 2 = i
  · rw [h1]; exact hlt j j0 jl h1
  · exact h.1 j j0 jl h1
theorem root_least {l : List Due} (h : HpA l) : ∀ j, j < l.length → leD (dG l 0) (dG l j) := by
  intro j
  induction j using Nat.strongRecOn with
  | ind j ih =>
    intro hj
    by_cases h0 : j = 0
    · subst h0; unfold leD; omega
    · have h1 := ih ((j - 1) / 2) (by omega) (by omega)
      have h2 := h j (by omega) hj
      unfold leD gtD at *; omega
/-- What is left when the first has gone and the last has taken its place. -/
def popD (l : List Due) : List Due := (l.set 0 (dG l (l.length - 1))).take (l.length - 1)
theorem popD_len (l : List Due) : (popD l).length = l.length - 1 := by simp [popD]
theorem popD_perm {l : List Due} (h : 0 < l.length) : l.Perm (dG l 0 :: popD l) := by
  cases l with
  | nil => simp at h
  | cons x r =>
    rcases List.eq_nil_or_concat r with rfl | ⟨s, y, rfl⟩
    · simp [popD, dG]
    · have e1 : dG (x :: (s ++ [y])) ((x :: (s ++ [y])).length - 1) = y := by simp [dG]
      have e2 : popD (x :: (s ++ [y])) = y :: s := by
        unfold popD
        rw [e1]
        simp
      rw [List.concat_eq_append] at *
      rw [e2]
      show (x :: (s ++ [y])).Perm (x :: y :: s)
      exact (List.perm_append_comm (l₁ := s) (l₂ := [y])).cons x
theorem popD_heap {l : List Due} (h : HpA l) : HpD (popD l) 0 := by
  have e : ∀ j, 0 < j → j < (popD l).length → dG (popD l) j = dG l j := fun j j0 jl => by
    rw [popD_len] at jl
    unfold dG popD
    rw [List.getD_eq_getElem?_getD, List.getElem?_take, if_pos jl, List.getElem?_set, if_neg (by omega), ← List.getD_eq_getElem?_getD]
  refine ⟨fun j j0 jl jp => ?_, fun j j0 jl jp h0 => by omega⟩
  rw [e j j0 jl, e _ (by omega) (by omega)]
  rw [popD_len] at jl
  exact h j j0 (by omega)
/-- What comes out first is the first in order. -/
theorem first_of {l S : List Due} {x : Due} {r : List Due} (h : HpA l) (hp : l.Perm S) (hS : S = x :: r) (hs : S.Pairwise leD) : 0 < l.length ∧ dG l 0 = x := by
  subst hS
  have hlen := hp.length_eq
  simp only [List.length_cons] at hlen
  have h0 : 0 < l.length := by omega
  refine ⟨h0, ?_⟩
  have hm0 : dG l 0 ∈ l := by simp [dG, h0]
  have hx : x ∈ l := hp.mem_iff.2 List.mem_cons_self
  obtain ⟨j, hj, hjx⟩ := List.getElem_of_mem hx
  have h1 := root_least h j hj
  have e : dG l j = x := by simp [dG, hj, hjx]
  rw [e] at h1
  rw [List.pairwise_cons] at hs
  rcases List.mem_cons.1 (hp.mem_iff.1 hm0) with h2 | h2
  · exact h2
  · exact leD_anti h1 (hs.1 _ h2)
--END
end Go.Proofs.Ytfjoaeghnfkdlaa
namespace Go.Proofs.Ytfjoaeghnfkdlaa
set_option linter.unusedSimpArgs false
set_option linter.unusedVariables false
set_option maxRecDepth 100000
set_option linter.unusedSimpArgs false
set_option linter.unusedVariables false
set_option maxRecDepth 100000
open Go.RowKit
/-- Blocks that nobody needs any more are left out at the end. -/
theorem FnH.drop {P : Program} {f : FuncId} {args : List AV} {hin : Heap} {R : AV → Heap → Prop} (hf : FnH P f args hin (fun r h' => ∃ h2, LeH h' h2 ∧ R r h2)) : FnH P f args hin R :=
  ⟨hf.1, fun may pin σ ι w vs hr hv => (hf.2 may pin σ ι w vs hr hv).mono fun e w' ⟨u, r, h', σ', ι', h1, ⟨h2, hl, hR⟩, h3, h4⟩ => ⟨u, r, h2, σ', ι', h1, hR, h3, h4.le hl⟩⟩
/-- An agenda, with its dues in a row of that number. -/
abbrev agH (r : Nat) (room : Int) (xs : List Due) : Heap := [(r, .row 41 2 (xs.map eDue)), (0, .blk 99 [.int .i64 room, .own r])]
theorem ahead05_fn (a b : Due) : Fn Try.prog 73 [.agg (eDue a), .agg (eDue b)] (.bool (ltD a b)) := by
  refine fnb Try.func73 (entered_of (by kernel_rfl)) rfl rfl rfl ?_
  repeat' (first | (show W _ _ _ _ _ _; first | apply kA | refine kB rfl ?_ | refine kC rfl rfl ?_ | refine kD rfl rfl ?_ | apply kE | apply kF | apply kG | apply kH | refine kI (by kernel_rfl) (by kernel_rfl) ?_) | (show O _ _ _ _ _ _ _; first | (show O _ _ _ _ (⟨_, .store _ _ _, _, _, _, _⟩ :: _) _ _; refine kJ rfl rfl rfl rfl rfl rfl rfl rfl rfl rfl rfl ?_) | apply kK) | apply kL | ((first | apply kM | apply kN); (iterate 3 (· exact rfl)); (· first | exact ya)) | refine kO rfl rfl rfl rfl rfl ?_ | refine kP rfl rfl rfl ?_ | ((first | refine kQ rfl rfl ?_ ?_ | refine kR rfl rfl rfl rfl rfl ?_ ?_ | refine kS rfl rfl rfl ?_ ?_) <;> intro hc <;> (try simp only [KL, cond_true, cond_false, beq_iff_eq, bne_iff_ne, ne_eq, reduceCtorEq] at hc) <;> (try (have hT : True := hc; clear hT hc)) <;> (try (exfalso; omega))) | apply kT | apply kU | apply kV | apply kW | refine kX rfl ?_ | apply kY | apply kZ)
  all_goals exact retq rfl (congrArg AV.bool (by rw [Bool.eq_iff_iff]; (try simp only [ltD, cond_true, cond_false, decide_eq_true_eq, Bool.not_eq_true', decide_eq_false_iff_not, Bool.and_eq_true, Bool.or_eq_true, true_iff, false_iff, iff_true, iff_false, Bool.false_eq_true, Bool.not_true, Bool.not_false, reduceCtorEq]); (first | done | omega | (constructor <;> intros <;> omega))))
theorem len05_nil : Fn Try.prog 26 [.nilp] (.int .i64 0) := by
  refine fnb Try.func26 (entered_of (by kernel_rfl)) rfl rfl rfl ?_
  repeat' (first | (show W _ _ _ _ _ _; first | apply kA | refine kB rfl ?_ | refine kC rfl rfl ?_ | refine kD rfl rfl ?_ | apply kE | apply kF | apply kG | apply kH | refine kI (by kernel_rfl) (by kernel_rfl) ?_) | (show O _ _ _ _ _ _ _; first | (show O _ _ _ _ (⟨_, .store _ _ _, _, _, _, _⟩ :: _) _ _; refine kJ rfl rfl rfl rfl rfl rfl rfl rfl rfl rfl rfl ?_) | apply kK) | apply kL | ((first | apply kM | apply kN); (iterate 3 (· exact rfl)); (· first | exact ya)) | refine kO rfl rfl rfl rfl rfl ?_ | refine kP rfl rfl rfl ?_ | ((first | refine kQ rfl rfl ?_ ?_ | refine kR rfl rfl rfl rfl rfl ?_ ?_ | refine kS rfl rfl rfl ?_ ?_) <;> intro hc <;> (try simp only [KL, cond_true, cond_false, beq_iff_eq, bne_iff_ne, ne_eq, reduceCtorEq] at hc) <;> (try (have hT : True := hc; clear hT hc)) <;> (try (exfalso; omega))) | apply kT | apply kU | apply kV | apply kW | refine kX rfl ?_ | apply kY | apply kZ)
  exact retq rfl rfl
theorem len05_fn (room : Int) (xs : List Due) : FnH Try.prog 26 [.ptr 0 0] (agH 4 room xs) (fun r h' => r = .int .i64 xs.length ∧ h' = agH 4 room xs) := by
  refine fnhb Try.func26 (entered_of (by kernel_rfl)) rfl rfl ?_
  repeat' (first | (show W _ _ _ _ _ _; first | apply kA | refine kB rfl ?_ | refine kC rfl rfl ?_ | refine kD rfl rfl ?_ | apply kE | apply kF | apply kG | apply kH | refine kI (by kernel_rfl) (by kernel_rfl) ?_) | (show O _ _ _ _ _ _ _; first | (show O _ _ _ _ (⟨_, .store _ _ _, _, _, _, _⟩ :: _) _ _; refine kJ rfl rfl rfl rfl rfl rfl rfl rfl rfl rfl rfl ?_) | apply kK) | apply kL | ((first | apply kM | apply kN); (iterate 3 (· exact rfl)); (· first | exact ya)) | refine kO rfl rfl rfl rfl rfl ?_ | refine kP rfl rfl rfl ?_ | ((first | refine kQ rfl rfl ?_ ?_ | refine kR rfl rfl rfl rfl rfl ?_ ?_ | refine kS rfl rfl rfl ?_ ?_) <;> intro hc <;> (try simp only [KL, cond_true, cond_false, beq_iff_eq, bne_iff_ne, ne_eq, reduceCtorEq] at hc) <;> (try (have hT : True := hc; clear hT hc)) <;> (try (exfalso; omega))) | apply kT | apply kU | apply kV | apply kW | refine kX rfl ?_ | apply kY | apply kZ)
  exact retq rfl ⟨rfl, rfl⟩
theorem peek05_nil : Fn Try.prog 30 [.nilp] (.tup [.agg (eDue ⟨0, 0⟩), .bool false]) := by
  refine fnb Try.func30 (entered_of (by kernel_rfl)) rfl rfl rfl ?_
  repeat' (first | (show W _ _ _ _ _ _; first | apply kA | refine kB rfl ?_ | refine kC rfl rfl ?_ | refine kD rfl rfl ?_ | apply kE | apply kF | apply kG | apply kH | refine kI (by kernel_rfl) (by kernel_rfl) ?_) | (show O _ _ _ _ _ _ _; first | (show O _ _ _ _ (⟨_, .alloc _, _, _, _, _⟩ :: _) _ _; first | refine ao_alloc (id := 10) rfl rfl rfl rfl rfl rfl rfl ?_) | (show O _ _ _ _ (⟨_, .store _ _ _, _, _, _, _⟩ :: _) _ _; refine kJ rfl rfl rfl rfl rfl rfl rfl rfl rfl rfl rfl ?_) | apply kK) | apply kL | ((first | apply kM | apply kN); (iterate 3 (· exact rfl)); (· first | (show Y _ ⟨_, .call ⟨.value _, _, _⟩, _, _, _, _⟩ _ _ _; first | exact q_c (len05_nil) rfl) | exact ya)) | refine kO rfl rfl rfl rfl rfl ?_ | refine kP rfl rfl rfl ?_ | ((first | refine kQ rfl rfl ?_ ?_ | refine kR rfl rfl rfl rfl rfl ?_ ?_ | refine kS rfl rfl rfl ?_ ?_) <;> intro hc <;> (try simp only [KL, cond_true, cond_false, beq_iff_eq, bne_iff_ne, ne_eq, reduceCtorEq] at hc) <;> (try (have hT : True := hc; clear hT hc)) <;> (try (exfalso; omega))) | apply kT | apply kU | apply kV | apply kW | refine kX rfl ?_ | apply kY | apply kZ)
  exact retq rfl rfl
theorem peek05_fn (room : Int) (xs : List Due) : FnH Try.prog 30 [.ptr 0 0] (agH 4 room xs) (fun r h' => r = .tup [.agg (eDue (dG xs 0)), .bool (decide (0 < xs.length))] ∧ h' = agH 4 room xs) := by
  refine (fnhb Try.func30 (entered_of (by kernel_rfl)) rfl rfl ?_).drop
  repeat' (first | (show W _ _ _ _ _ _; first | apply kA | refine kB rfl ?_ | refine kC rfl rfl ?_ | refine kD rfl rfl ?_ | apply kE | apply kF | apply kG | apply kH | refine kI (by kernel_rfl) (by kernel_rfl) ?_) | (show O _ _ _ _ _ _ _; first | (show O _ _ _ _ (⟨_, .alloc _, _, _, _, _⟩ :: _) _ _; first | refine ao_alloc (id := 10) rfl rfl rfl rfl rfl rfl rfl ?_) | (show O _ _ _ _ (⟨_, .store _ _ _, _, _, _, _⟩ :: _) _ _; refine kJ rfl rfl rfl rfl rfl rfl rfl rfl rfl rfl rfl ?_) | apply kK) | apply kL | ((first | apply kM | apply kN); (iterate 3 (· exact rfl)); (· first | exact ya)) | refine kO rfl rfl rfl rfl rfl ?_ | refine kP rfl rfl rfl ?_ | ((first | refine kQ rfl rfl ?_ ?_ | refine kR rfl rfl rfl rfl rfl ?_ ?_ | refine kS rfl rfl rfl ?_ ?_) <;> intro hc <;> (try simp only [KL, cond_true, cond_false, beq_iff_eq, bne_iff_ne, ne_eq, reduceCtorEq] at hc) <;> (try (have hT : True := hc; clear hT hc)) <;> (try (exfalso; omega))) | apply kT | apply kU | apply kV | apply kW | refine kX rfl ?_ | apply kY | apply kZ)
  refine zcall (fun i => i) (len05_fn room xs) rfl rfl leh rfl rfl rfl rfl rfl rfl (fun r h' hR => ?_)
  obtain ⟨rfl, rfl⟩ := hR
  refine ⟨rfl, rfl, ?_⟩
  by_cases h0 : xs.length = 0
  · have e : xs = [] := List.eq_nil_of_length_eq_zero h0
    subst e
    repeat' (first | (show W _ _ _ _ _ _; first | apply kA | refine kB rfl ?_ | refine kC rfl rfl ?_ | refine kD rfl rfl ?_ | apply kE | apply kF | apply kG | apply kH | refine kI (by kernel_rfl) (by kernel_rfl) ?_) | (show O _ _ _ _ _ _ _; first | (show O _ _ _ _ (⟨_, .store _ _ _, _, _, _, _⟩ :: _) _ _; refine kJ rfl rfl rfl rfl rfl rfl rfl rfl rfl rfl rfl ?_) | apply kK) | apply kL | ((first | apply kM | apply kN); (iterate 3 (· exact rfl)); (· first | exact ya)) | refine kO rfl rfl rfl rfl rfl ?_ | refine kP rfl rfl rfl ?_ | ((first | refine kQ rfl rfl ?_ ?_ | refine kR rfl rfl rfl rfl rfl ?_ ?_ | refine kS rfl rfl rfl ?_ ?_) <;> intro hc <;> (try simp only [KL, cond_true, cond_false, beq_iff_eq, bne_iff_ne, ne_eq, reduceCtorEq] at hc) <;> (try (have hT : True := hc; clear hT hc)) <;> (try (exfalso; omega))) | apply kT | apply kU | apply kV | apply kW | refine kX rfl ?_ | apply kY | apply kZ)
    all_goals exact retq rfl ⟨agH 4 room [], leh, rfl, rfl⟩
  · repeat' (first | (show W _ _ _ _ _ _; first | apply kA | refine kB rfl ?_ | refine kC rfl rfl ?_ | refine kD rfl rfl ?_ | apply kE | apply kF | apply kG | apply kH | refine kI (by kernel_rfl) (by kernel_rfl) ?_) | (show O _ _ _ _ _ _ _; first | (show O _ _ _ _ (⟨_, .store _ _ _, _, _, _, _⟩ :: _) _ _; refine kJ rfl rfl rfl rfl rfl rfl rfl rfl rfl rfl rfl ?_) | apply kK) | apply kL | ((first | apply kM | apply kN); (iterate 3 (· exact rfl)); (· first | (show Y _ ⟨_, .indexAddr _ _ _, _, _, _, _⟩ _ _ _; first | exact q_ioE (0) rfl rfl rfl rfl rfl rfl (by omega) (by omega)) | exact ya)) | refine kO rfl rfl rfl rfl rfl ?_ | refine kP rfl rfl rfl ?_ | ((first | refine kQ rfl rfl ?_ ?_ | refine kR rfl rfl rfl rfl rfl ?_ ?_ | refine kS rfl rfl rfl ?_ ?_) <;> intro hc <;> (try simp only [KL, cond_true, cond_false, beq_iff_eq, bne_iff_ne, ne_eq, reduceCtorEq] at hc) <;> (try (have hT : True := hc; clear hT hc)) <;> (try (exfalso; omega))) | apply kT | apply kU | apply kV | apply kW | refine kX rfl ?_ | apply kY | apply kZ)
    all_goals first | (exfalso; omega) | skip
    all_goals exact retq rfl ⟨agH 4 room xs, leh, by rw [decide_eq_true (show 0 < xs.length by omega)]; rfl, rfl⟩
theorem up05_fn (room : Int) (xs : List Due) (i : Nat) (hi : i < xs.length) (hl : xs.length ≤ 100000) (hu : HpU xs i) : FnH Try.prog 49 [.ptr 0 0, .int .i64 i] (agH 4 room xs) (fun r h' => r = .tup [] ∧ ∃ ys, ys.Perm xs ∧ HpA ys ∧ h' = agH 4 room ys) := by
  refine fnhb Try.func49 (entered_of (by kernel_rfl)) rfl rfl ?_
  repeat' (first | (show W _ _ _ _ _ _; first | apply kA | refine kB rfl ?_ | refine kC rfl rfl ?_ | refine kD rfl rfl ?_ | apply kE | apply kF | apply kG | apply kH | refine kI (by kernel_rfl) (by kernel_rfl) ?_) | (show O _ _ _ _ _ _ _; first | (show O _ _ _ _ (⟨_, .store _ _ _, _, _, _, _⟩ :: _) _ _; refine kJ rfl rfl rfl rfl rfl rfl rfl rfl rfl rfl rfl ?_) | apply kK) | apply kL | ((first | apply kM | apply kN); (iterate 3 (· exact rfl)); (· first | exact ya)) | refine kO rfl rfl rfl rfl rfl ?_ | refine kP rfl rfl rfl ?_ | ((first | refine kQ rfl rfl ?_ ?_ | refine kR rfl rfl rfl rfl rfl ?_ ?_ | refine kS rfl rfl rfl ?_ ?_) <;> intro hc <;> (try simp only [KL, cond_true, cond_false, beq_iff_eq, bne_iff_ne, ne_eq, reduceCtorEq] at hc) <;> (try (have hT : True := hc; clear hT hc)) <;> (try (exfalso; omega))) | apply kT | apply kU | apply kV | apply kW | refine kX rfl ?_ | apply kY | apply kZ)
  refine wloop (fun z : Nat × List Due => ([(0, .ptr 0 0), (1, .int .i64 z.1)], agH 4 room z.2)) (fun z => z.1 < z.2.length ∧ z.2.Perm xs ∧ HpU z.2 z.1) (fun z => z.1) (i, xs) ⟨hi, List.Perm.refl _, hu⟩ les leh (fun z hz => ?_)
  obtain ⟨i, ys⟩ := z
  obtain ⟨h1, h2, h3⟩ := hz
  simp only at h1 h2 h3 ⊢
  have hyl := h2.length_eq
  rcases Nat.eq_zero_or_pos i with h0 | h0
  · subst h0
    repeat' (first | (show W _ _ _ _ _ _; first | apply kA | refine kB rfl ?_ | refine kC rfl rfl ?_ | refine kD rfl rfl ?_ | apply kE | apply kF | apply kG | apply kH | refine kI (by kernel_rfl) (by kernel_rfl) ?_) | (show O _ _ _ _ _ _ _; first | (show O _ _ _ _ (⟨_, .store _ _ _, _, _, _, _⟩ :: _) _ _; refine kJ rfl rfl rfl rfl rfl rfl rfl rfl rfl rfl rfl ?_) | apply kK) | apply kL | ((first | apply kM | apply kN); (iterate 3 (· exact rfl)); (· first | exact ya)) | refine kO rfl rfl rfl rfl rfl ?_ | refine kP rfl rfl rfl ?_ | ((first | refine kQ rfl rfl ?_ ?_ | refine kR rfl rfl rfl rfl rfl ?_ ?_ | refine kS rfl rfl rfl ?_ ?_) <;> intro hc <;> (try simp only [KL, cond_true, cond_false, beq_iff_eq, bne_iff_ne, ne_eq, reduceCtorEq] at hc) <;> (try (have hT : True := hc; clear hT hc)) <;> (try (exfalso; omega))) | apply kT | apply kU | apply kV | apply kW | refine kX rfl ?_ | apply kY | apply kZ)
    all_goals first | (exfalso; omega) | skip
    exact retn rfl ⟨rfl, ys, h2, up_top h3, rfl⟩
  · have c1 := ahead05_fn (dG ys i) (dG ys ((i - 1) / 2))
    cases hb : ltD (dG ys i) (dG ys ((i - 1) / 2)) <;> rw [hb] at c1
    · rw [ltD_not] at hb
      repeat' (first | (show W _ _ _ _ _ _; first | apply kA | refine kB rfl ?_ | refine kC rfl rfl ?_ | refine kD rfl rfl ?_ | apply kE | apply kF | apply kG | apply kH | refine kI (by kernel_rfl) (by kernel_rfl) ?_) | (show O _ _ _ _ _ _ _; first | (show O _ _ _ _ (⟨_, .store _ _ _, _, _, _, _⟩ :: _) _ _; refine kJ rfl rfl rfl rfl rfl rfl rfl rfl rfl rfl rfl ?_) | apply kK) | apply kL | ((first | apply kM | apply kN); (iterate 3 (· exact rfl)); (· first | (show Y _ ⟨_, .indexAddr _ _ _, _, _, _, _⟩ _ _ _; first | exact q_ioE (i) rfl rfl rfl rfl rfl rfl (by omega) (by omega) | exact q_ioE ((i - 1) / 2) rfl rfl rfl rfl rfl rfl (by omega) (by omega)) | (show Y _ ⟨_, .call ⟨.value _, _, _⟩, _, _, _, _⟩ _ _ _; first | exact q_c (c1) rfl) | exact ya)) | refine kO rfl rfl rfl rfl rfl ?_ | refine kP rfl rfl rfl ?_ | ((first | refine kQ rfl rfl ?_ ?_ | refine kR rfl rfl rfl rfl rfl ?_ ?_ | refine kS rfl rfl rfl ?_ ?_) <;> intro hc <;> (try simp only [KL, cond_true, cond_false, beq_iff_eq, bne_iff_ne, ne_eq, reduceCtorEq] at hc) <;> (try (have hT : True := hc; clear hT hc)) <;> (try (exfalso; omega))) | apply kT | apply kU | apply kV | apply kW | refine kX rfl ?_ | apply kY | apply kZ)
      all_goals first | (exfalso; omega) | skip
      exact retn rfl ⟨rfl, ys, h2, up_end h3 hb, rfl⟩
    · rw [ltD_iff] at hb
      repeat' (first | (show W _ _ _ _ _ _; first | refine wdrawS rfl (by kernel_rfl) (by kernel_rfl) (by kernel_rfl) ?_ | apply kA | refine kB rfl ?_ | refine kC rfl rfl ?_ | refine kD rfl rfl ?_ | apply kE | apply kF | apply kG | apply kH | refine kI (by kernel_rfl) (by kernel_rfl) ?_) | (show O _ _ _ _ _ _ _; first | (show O _ _ _ _ (⟨_, .store _ _ _, _, _, _, _⟩ :: _) _ _; refine kJ rfl rfl rfl rfl rfl rfl rfl rfl rfl rfl rfl ?_) | apply kK) | apply kL | ((first | apply kM | apply kN); (iterate 3 (· exact rfl)); (· first | (show Y _ ⟨_, .indexAddr _ _ _, _, _, _, _⟩ _ _ _; first | exact q_ioE (i) rfl rfl rfl rfl rfl rfl (by omega) (by omega) | exact q_ioE ((i - 1) / 2) rfl rfl rfl rfl rfl rfl (by omega) (by omega)) | (show Y _ ⟨_, .call ⟨.value _, _, _⟩, _, _, _, _⟩ _ _ _; first | exact q_c (c1) rfl) | exact ya)) | (show F _ _ _ _ _ _ _ _ _ _ _; first | refine fnil ?_ | (apply f_ld; (· exact rfl); (· exact rfl); (· first | exact yp)) | refine f_se (x' := dG ys ((i - 1) / 2)) rfl rfl rfl rfl rfl rfl rfl rfl rfl (by (first | rfl | omega | (simp only [List.length_set]; omega) | simp only [List.length_set])) (by (first | rfl | omega | (simp only [List.length_set]; omega) | simp only [List.length_set])) ?_ | refine f_se (x' := dG ys i) rfl rfl rfl rfl rfl rfl rfl rfl rfl (by (first | rfl | omega | (simp only [List.length_set]; omega) | simp only [List.length_set])) (by (first | rfl | omega | (simp only [List.length_set]; omega) | simp only [List.length_set])) ?_ | (apply f_k; (· exact rfl); (· intro y' hy'; first | (show Y _ ⟨_, .indexAddr _ _ _, _, _, _, _⟩ _ _ _; first | exact q_ioE (i) rfl rfl rfl rfl rfl rfl (by omega) (by omega) | exact q_ioE ((i - 1) / 2) rfl rfl rfl rfl rfl rfl (by omega) (by omega)) | (show Y _ ⟨_, .call ⟨.value _, _, _⟩, _, _, _, _⟩ _ _ _; first | exact q_c (c1) rfl) | exact ya))) | refine kO rfl rfl rfl rfl rfl ?_ | refine kP rfl rfl rfl ?_ | ((first | refine kQ rfl rfl ?_ ?_ | refine kR rfl rfl rfl rfl rfl ?_ ?_ | refine kS rfl rfl rfl ?_ ?_) <;> intro hc <;> (try simp only [KL, cond_true, cond_false, beq_iff_eq, bne_iff_ne, ne_eq, reduceCtorEq] at hc) <;> (try (have hT : True := hc; clear hT hc)) <;> (try (exfalso; omega))) | apply kT | apply kU | apply kV | apply kW | refine kX rfl ?_ | apply kY | apply kZ)
      all_goals first | (exfalso; omega) | skip
      have hs := up_step h3 h0 h1 hb
      have hp := sw_perm (l := ys) (p := (i - 1) / 2) (i := i) (by omega) h1
      exact ⟨((i - 1) / 2, swD ys i ((i - 1) / 2)), ⟨by simp only [swD_len]; omega, hp.trans h2, hs⟩, by simp only; omega, les, leh⟩
theorem swD_comm (l : List Due) (i p : Nat) (hi : i < l.length) (hp : p < l.length) (hne : i ≠ p) : swD l i p = swD l p i := by
  apply List.ext_getElem
  · rw [swD_len, swD_len]
  · intro j h1 h2
    rw [swD_len] at h1
    have e1 := swD_at l i p hi hp j h1
    have e2 := swD_at l p i hp hi j h1
    have g1 : dG (swD l i p) j = (swD l i p)[j]'(by rw [swD_len]; exact h1) := by rw [dG, List.getD_eq_getElem?_getD, List.getElem?_eq_getElem (by rw [swD_len]; exact h1)]; rfl
    have g2 : dG (swD l p i) j = (swD l p i)[j]'(by rw [swD_len]; exact h1) := by rw [dG, List.getD_eq_getElem?_getD, List.getElem?_eq_getElem (by rw [swD_len]; exact h1)]; rfl
    rw [← g1, ← g2, e1, e2]
    by_cases h3 : j = p
    · rw [if_pos h3, if_neg (by omega), if_pos h3]
    · rw [if_neg h3, if_neg h3]
set_option maxHeartbeats 4000000 in
theorem down05_fn (room : Int) (xs : List Due) (hl : xs.length ≤ 100000) (i0 : Nat) (hu : HpD xs i0) (hi0 : i0 ≤ xs.length) : FnH Try.prog 51 [.ptr 0 0, .int .i64 i0] (agH 4 room xs) (fun r h' => r = .tup [] ∧ ∃ ys, ys.Perm xs ∧ HpA ys ∧ h' = agH 4 room ys) := by
  refine fnhb Try.func51 (entered_of (by kernel_rfl)) rfl rfl ?_
  repeat' (first | (show W _ _ _ _ _ _; first | apply kA | refine kB rfl ?_ | refine kC rfl rfl ?_ | refine kD rfl rfl ?_ | apply kE | apply kF | apply kG | apply kH | refine kI (by kernel_rfl) (by kernel_rfl) ?_) | (show O _ _ _ _ _ _ _; first | (show O _ _ _ _ (⟨_, .store _ _ _, _, _, _, _⟩ :: _) _ _; refine kJ rfl rfl rfl rfl rfl rfl rfl rfl rfl rfl rfl ?_) | apply kK) | apply kL | ((first | apply kM | apply kN); (iterate 3 (· exact rfl)); (· first | exact ya)) | refine kO rfl rfl rfl rfl rfl ?_ | refine kP rfl rfl rfl ?_ | ((first | refine kQ rfl rfl ?_ ?_ | refine kR rfl rfl rfl rfl rfl ?_ ?_ | refine kS rfl rfl rfl ?_ ?_) <;> intro hc <;> (try simp only [KL, cond_true, cond_false, beq_iff_eq, bne_iff_ne, ne_eq, reduceCtorEq] at hc) <;> (try (have hT : True := hc; clear hT hc)) <;> (try (exfalso; omega))) | apply kT | apply kU | apply kV | apply kW | refine kX rfl ?_ | apply kY | apply kZ)
  refine wloop (fun z : Nat × List Due => ([(0, .ptr 0 0), (1, .int .i64 z.1)], agH 4 room z.2)) (fun z => z.1 ≤ z.2.length ∧ z.2.Perm xs ∧ HpD z.2 z.1) (fun z => z.2.length - z.1) (i0, xs) ⟨hi0, List.Perm.refl _, hu⟩ les leh (fun z hz => ?_)
  obtain ⟨i, ys⟩ := z
  obtain ⟨h1, h2, h3⟩ := hz
  simp only at h1 h2 h3 ⊢
  have hyl := h2.length_eq
  by_cases hk : 2 * i + 1 < ys.length
  case neg =>
    repeat' (first | (show W _ _ _ _ _ _; first | apply kA | refine kB rfl ?_ | refine kC rfl rfl ?_ | refine kD rfl rfl ?_ | apply kE | apply kF | apply kG | apply kH | refine kI (by kernel_rfl) (by kernel_rfl) ?_) | (show O _ _ _ _ _ _ _; first | (show O _ _ _ _ (⟨_, .store _ _ _, _, _, _, _⟩ :: _) _ _; refine kJ rfl rfl rfl rfl rfl rfl rfl rfl rfl rfl rfl ?_) | apply kK) | apply kL | ((first | apply kM | apply kN); (iterate 3 (· exact rfl)); (· first | exact ya)) | refine kO rfl rfl rfl rfl rfl ?_ | refine kP rfl rfl rfl ?_ | ((first | refine kQ rfl rfl ?_ ?_ | refine kR rfl rfl rfl rfl rfl ?_ ?_ | refine kS rfl rfl rfl ?_ ?_) <;> intro hc <;> (try simp only [KL, cond_true, cond_false, beq_iff_eq, bne_iff_ne, ne_eq, reduceCtorEq] at hc) <;> (try (have hT : True := hc; clear hT hc)) <;> (try (exfalso; omega))) | apply kT | apply kU | apply kV | apply kW | refine kX rfl ?_ | apply kY | apply kZ)
    all_goals first | (exfalso; omega) | skip
    exact retq rfl ⟨rfl, ys, h2, down_end h3 (fun j j0 jl jp => by omega), rfl⟩
  have h1 : i < ys.length := by omega
  by_cases hk2 : 2 * i + 2 < ys.length
  case neg =>
    have hsm : ∀ j, 0 < j → j < ys.length → (j - 1) / 2 = i → ¬ gtD (dG ys (2 * i + 1)) (dG ys j) := fun j j0 jl jp => by
      rw [show j = 2 * i + 1 by omega]; unfold gtD; omega
    have c2 := ahead05_fn (dG ys (2 * i + 1)) (dG ys i)
    have hki : (2 * i + 1 - 1) / 2 = i := by omega
    cases hb2 : ltD (dG ys (2 * i + 1)) (dG ys i) <;> rw [hb2] at c2
    · rw [ltD_not] at hb2
      repeat' (first | (show W _ _ _ _ _ _; first | apply kA | refine kB rfl ?_ | refine kC rfl rfl ?_ | refine kD rfl rfl ?_ | apply kE | apply kF | apply kG | apply kH | refine kI (by kernel_rfl) (by kernel_rfl) ?_) | (show O _ _ _ _ _ _ _; first | (show O _ _ _ _ (⟨_, .store _ _ _, _, _, _, _⟩ :: _) _ _; refine kJ rfl rfl rfl rfl rfl rfl rfl rfl rfl rfl rfl ?_) | apply kK) | apply kL | ((first | apply kM | apply kN); (iterate 3 (· exact rfl)); (· first | (show Y _ ⟨_, .indexAddr _ _ _, _, _, _, _⟩ _ _ _; first | exact q_ioE (2 * i + 1) rfl rfl rfl rfl rfl rfl (by omega) (by omega) | exact q_ioE (2 * i + 2) rfl rfl rfl rfl rfl rfl (by omega) (by omega) | exact q_ioE (i) rfl rfl rfl rfl rfl rfl (by omega) (by omega)) | (show Y _ ⟨_, .call ⟨.value _, _, _⟩, _, _, _, _⟩ _ _ _; first | exact q_c (c2) rfl) | exact ya)) | refine kO rfl rfl rfl rfl rfl ?_ | refine kP rfl rfl rfl ?_ | ((first | refine kQ rfl rfl ?_ ?_ | refine kR rfl rfl rfl rfl rfl ?_ ?_ | refine kS rfl rfl rfl ?_ ?_) <;> intro hc <;> (try simp only [KL, cond_true, cond_false, beq_iff_eq, bne_iff_ne, ne_eq, reduceCtorEq] at hc) <;> (try (have hT : True := hc; clear hT hc)) <;> (try (exfalso; omega))) | apply kT | apply kU | apply kV | apply kW | refine kX rfl ?_ | apply kY | apply kZ)
      all_goals first | (exfalso; omega) | skip
      all_goals exact retq rfl ⟨rfl, ys, h2, down_end h3 (fun j j0 jl jp => by
        have := hsm j j0 jl jp
        unfold gtD at *; omega), rfl⟩
    · rw [ltD_iff] at hb2
      repeat' (first | (show W _ _ _ _ _ _; first | refine wdrawS rfl (by kernel_rfl) (by kernel_rfl) (by kernel_rfl) ?_ | apply kA | refine kB rfl ?_ | refine kC rfl rfl ?_ | refine kD rfl rfl ?_ | apply kE | apply kF | apply kG | apply kH | refine kI (by kernel_rfl) (by kernel_rfl) ?_) | (show O _ _ _ _ _ _ _; first | (show O _ _ _ _ (⟨_, .store _ _ _, _, _, _, _⟩ :: _) _ _; refine kJ rfl rfl rfl rfl rfl rfl rfl rfl rfl rfl rfl ?_) | apply kK) | apply kL | ((first | apply kM | apply kN); (iterate 3 (· exact rfl)); (· first | (show Y _ ⟨_, .indexAddr _ _ _, _, _, _, _⟩ _ _ _; first | exact q_ioE (2 * i + 1) rfl rfl rfl rfl rfl rfl (by omega) (by omega) | exact q_ioE (2 * i + 2) rfl rfl rfl rfl rfl rfl (by omega) (by omega) | exact q_ioE (i) rfl rfl rfl rfl rfl rfl (by omega) (by omega)) | (show Y _ ⟨_, .call ⟨.value _, _, _⟩, _, _, _, _⟩ _ _ _; first | exact q_c (c2) rfl) | exact ya)) | (show F _ _ _ _ _ _ _ _ _ _ _; first | refine fnil ?_ | (apply f_ld; (· exact rfl); (· exact rfl); (· first | exact yp)) | refine f_se (x' := dG ys (2 * i + 1)) rfl rfl rfl rfl rfl rfl rfl rfl rfl (by (first | rfl | omega | (simp only [List.length_set]; omega) | simp only [List.length_set])) (by (first | rfl | omega | (simp only [List.length_set]; omega) | simp only [List.length_set])) ?_ | refine f_se (x' := dG ys i) rfl rfl rfl rfl rfl rfl rfl rfl rfl (by (first | rfl | omega | (simp only [List.length_set]; omega) | simp only [List.length_set])) (by (first | rfl | omega | (simp only [List.length_set]; omega) | simp only [List.length_set])) ?_ | (apply f_k; (· exact rfl); (· intro y' hy'; first | (show Y _ ⟨_, .indexAddr _ _ _, _, _, _, _⟩ _ _ _; first | exact q_ioE (2 * i + 1) rfl rfl rfl rfl rfl rfl (by omega) (by omega) | exact q_ioE (2 * i + 2) rfl rfl rfl rfl rfl rfl (by omega) (by omega) | exact q_ioE (i) rfl rfl rfl rfl rfl rfl (by omega) (by omega)) | (show Y _ ⟨_, .call ⟨.value _, _, _⟩, _, _, _, _⟩ _ _ _; first | exact q_c (c2) rfl) | exact ya))) | refine kO rfl rfl rfl rfl rfl ?_ | refine kP rfl rfl rfl ?_ | ((first | refine kQ rfl rfl ?_ ?_ | refine kR rfl rfl rfl rfl rfl ?_ ?_ | refine kS rfl rfl rfl ?_ ?_) <;> intro hc <;> (try simp only [KL, cond_true, cond_false, beq_iff_eq, bne_iff_ne, ne_eq, reduceCtorEq] at hc) <;> (try (have hT : True := hc; clear hT hc)) <;> (try (exfalso; omega))) | apply kT | apply kU | apply kV | apply kW | refine kX rfl ?_ | apply kY | apply kZ)
      all_goals first | (exfalso; omega) | skip
      have hs := down_step h3 (show 0 < 2 * i + 1 by omega) hk hki hb2 hsm
      have hp := sw_perm (l := ys) (p := i) (i := 2 * i + 1) (by omega) hk
      rw [swD_comm ys _ _ hk h1 (by omega)] at hp
      exact ⟨(2 * i + 1, swD ys i (2 * i + 1)), ⟨by simp only [swD_len]; omega, hp.trans h2, hs⟩, by simp only [swD_len]; omega, les, leh⟩
  have c1 := ahead05_fn (dG ys (2 * i + 2)) (dG ys (2 * i + 1))
  cases hb : ltD (dG ys (2 * i + 2)) (dG ys (2 * i + 1)) <;> rw [hb] at c1
  · rw [ltD_not] at hb
    have hsm : ∀ j, 0 < j → j < ys.length → (j - 1) / 2 = i → ¬ gtD (dG ys (2 * i + 1)) (dG ys j) := fun j j0 jl jp => by
      rcases (show j = 2 * i + 1 ∨ j = 2 * i + 2 by omega) with e | e <;> rw [e]
      · unfold gtD; omega
      · exact hb
    have c2 := ahead05_fn (dG ys (2 * i + 1)) (dG ys i)
    have hki : (2 * i + 1 - 1) / 2 = i := by omega
    cases hb2 : ltD (dG ys (2 * i + 1)) (dG ys i) <;> rw [hb2] at c2
    · rw [ltD_not] at hb2
      repeat' (first | (show W _ _ _ _ _ _; first | apply kA | refine kB rfl ?_ | refine kC rfl rfl ?_ | refine kD rfl rfl ?_ | apply kE | apply kF | apply kG | apply kH | refine kI (by kernel_rfl) (by kernel_rfl) ?_) | (show O _ _ _ _ _ _ _; first | (show O _ _ _ _ (⟨_, .store _ _ _, _, _, _, _⟩ :: _) _ _; refine kJ rfl rfl rfl rfl rfl rfl rfl rfl rfl rfl rfl ?_) | apply kK) | apply kL | ((first | apply kM | apply kN); (iterate 3 (· exact rfl)); (· first | (show Y _ ⟨_, .indexAddr _ _ _, _, _, _, _⟩ _ _ _; first | exact q_ioE (2 * i + 1) rfl rfl rfl rfl rfl rfl (by omega) (by omega) | exact q_ioE (2 * i + 2) rfl rfl rfl rfl rfl rfl (by omega) (by omega) | exact q_ioE (i) rfl rfl rfl rfl rfl rfl (by omega) (by omega)) | (show Y _ ⟨_, .call ⟨.value _, _, _⟩, _, _, _, _⟩ _ _ _; first | exact q_c (c1) rfl | exact q_c (c2) rfl) | exact ya)) | refine kO rfl rfl rfl rfl rfl ?_ | refine kP rfl rfl rfl ?_ | ((first | refine kQ rfl rfl ?_ ?_ | refine kR rfl rfl rfl rfl rfl ?_ ?_ | refine kS rfl rfl rfl ?_ ?_) <;> intro hc <;> (try simp only [KL, cond_true, cond_false, beq_iff_eq, bne_iff_ne, ne_eq, reduceCtorEq] at hc) <;> (try (have hT : True := hc; clear hT hc)) <;> (try (exfalso; omega))) | apply kT | apply kU | apply kV | apply kW | refine kX rfl ?_ | apply kY | apply kZ)
      all_goals first | (exfalso; omega) | skip
      all_goals exact retq rfl ⟨rfl, ys, h2, down_end h3 (fun j j0 jl jp => by
        have := hsm j j0 jl jp
        unfold gtD at *; omega), rfl⟩
    · rw [ltD_iff] at hb2
      repeat' (first | (show W _ _ _ _ _ _; first | refine wdrawS rfl (by kernel_rfl) (by kernel_rfl) (by kernel_rfl) ?_ | apply kA | refine kB rfl ?_ | refine kC rfl rfl ?_ | refine kD rfl rfl ?_ | apply kE | apply kF | apply kG | apply kH | refine kI (by kernel_rfl) (by kernel_rfl) ?_) | (show O _ _ _ _ _ _ _; first | (show O _ _ _ _ (⟨_, .store _ _ _, _, _, _, _⟩ :: _) _ _; refine kJ rfl rfl rfl rfl rfl rfl rfl rfl rfl rfl rfl ?_) | apply kK) | apply kL | ((first | apply kM | apply kN); (iterate 3 (· exact rfl)); (· first | (show Y _ ⟨_, .indexAddr _ _ _, _, _, _, _⟩ _ _ _; first | exact q_ioE (2 * i + 1) rfl rfl rfl rfl rfl rfl (by omega) (by omega) | exact q_ioE (2 * i + 2) rfl rfl rfl rfl rfl rfl (by omega) (by omega) | exact q_ioE (i) rfl rfl rfl rfl rfl rfl (by omega) (by omega)) | (show Y _ ⟨_, .call ⟨.value _, _, _⟩, _, _, _, _⟩ _ _ _; first | exact q_c (c1) rfl | exact q_c (c2) rfl) | exact ya)) | (show F _ _ _ _ _ _ _ _ _ _ _; first | refine fnil ?_ | (apply f_ld; (· exact rfl); (· exact rfl); (· first | exact yp)) | refine f_se (x' := dG ys (2 * i + 1)) rfl rfl rfl rfl rfl rfl rfl rfl rfl (by (first | rfl | omega | (simp only [List.length_set]; omega) | simp only [List.length_set])) (by (first | rfl | omega | (simp only [List.length_set]; omega) | simp only [List.length_set])) ?_ | refine f_se (x' := dG ys i) rfl rfl rfl rfl rfl rfl rfl rfl rfl (by (first | rfl | omega | (simp only [List.length_set]; omega) | simp only [List.length_set])) (by (first | rfl | omega | (simp only [List.length_set]; omega) | simp only [List.length_set])) ?_ | (apply f_k; (· exact rfl); (· intro y' hy'; first | (show Y _ ⟨_, .indexAddr _ _ _, _, _, _, _⟩ _ _ _; first | exact q_ioE (2 * i + 1) rfl rfl rfl rfl rfl rfl (by omega) (by omega) | exact q_ioE (2 * i + 2) rfl rfl rfl rfl rfl rfl (by omega) (by omega) | exact q_ioE (i) rfl rfl rfl rfl rfl rfl (by omega) (by omega)) | (show Y _ ⟨_, .call ⟨.value _, _, _⟩, _, _, _, _⟩ _ _ _; first | exact q_c (c1) rfl | exact q_c (c2) rfl) | exact ya))) | refine kO rfl rfl rfl rfl rfl ?_ | refine kP rfl rfl rfl ?_ | ((first | refine kQ rfl rfl ?_ ?_ | refine kR rfl rfl rfl rfl rfl ?_ ?_ | refine kS rfl rfl rfl ?_ ?_) <;> intro hc <;> (try simp only [KL, cond_true, cond_false, beq_iff_eq, bne_iff_ne, ne_eq, reduceCtorEq] at hc) <;> (try (have hT : True := hc; clear hT hc)) <;> (try (exfalso; omega))) | apply kT | apply kU | apply kV | apply kW | refine kX rfl ?_ | apply kY | apply kZ)
      all_goals first | (exfalso; omega) | skip
      have hs := down_step h3 (show 0 < 2 * i + 1 by omega) hk hki hb2 hsm
      have hp := sw_perm (l := ys) (p := i) (i := 2 * i + 1) (by omega) hk
      rw [swD_comm ys _ _ hk h1 (by omega)] at hp
      exact ⟨(2 * i + 1, swD ys i (2 * i + 1)), ⟨by simp only [swD_len]; omega, hp.trans h2, hs⟩, by simp only [swD_len]; omega, les, leh⟩
  · rw [ltD_iff] at hb
    have hsm : ∀ j, 0 < j → j < ys.length → (j - 1) / 2 = i → ¬ gtD (dG ys (2 * i + 2)) (dG ys j) := fun j j0 jl jp => by
      rcases (show j = 2 * i + 1 ∨ j = 2 * i + 2 by omega) with e | e <;> rw [e]
      · unfold gtD at *; omega
      · unfold gtD; omega
    have hk := hk2
    have c2 := ahead05_fn (dG ys (2 * i + 2)) (dG ys i)
    have hki : (2 * i + 2 - 1) / 2 = i := by omega
    cases hb2 : ltD (dG ys (2 * i + 2)) (dG ys i) <;> rw [hb2] at c2
    · rw [ltD_not] at hb2
      repeat' (first | (show W _ _ _ _ _ _; first | apply kA | refine kB rfl ?_ | refine kC rfl rfl ?_ | refine kD rfl rfl ?_ | apply kE | apply kF | apply kG | apply kH | refine kI (by kernel_rfl) (by kernel_rfl) ?_) | (show O _ _ _ _ _ _ _; first | (show O _ _ _ _ (⟨_, .store _ _ _, _, _, _, _⟩ :: _) _ _; refine kJ rfl rfl rfl rfl rfl rfl rfl rfl rfl rfl rfl ?_) | apply kK) | apply kL | ((first | apply kM | apply kN); (iterate 3 (· exact rfl)); (· first | (show Y _ ⟨_, .indexAddr _ _ _, _, _, _, _⟩ _ _ _; first | exact q_ioE (2 * i + 1) rfl rfl rfl rfl rfl rfl (by omega) (by omega) | exact q_ioE (2 * i + 2) rfl rfl rfl rfl rfl rfl (by omega) (by omega) | exact q_ioE (i) rfl rfl rfl rfl rfl rfl (by omega) (by omega)) | (show Y _ ⟨_, .call ⟨.value _, _, _⟩, _, _, _, _⟩ _ _ _; first | exact q_c (c1) rfl | exact q_c (c2) rfl) | exact ya)) | refine kO rfl rfl rfl rfl rfl ?_ | refine kP rfl rfl rfl ?_ | ((first | refine kQ rfl rfl ?_ ?_ | refine kR rfl rfl rfl rfl rfl ?_ ?_ | refine kS rfl rfl rfl ?_ ?_) <;> intro hc <;> (try simp only [KL, cond_true, cond_false, beq_iff_eq, bne_iff_ne, ne_eq, reduceCtorEq] at hc) <;> (try (have hT : True := hc; clear hT hc)) <;> (try (exfalso; omega))) | apply kT | apply kU | apply kV | apply kW | refine kX rfl ?_ | apply kY | apply kZ)
      all_goals first | (exfalso; omega) | skip
      all_goals exact retq rfl ⟨rfl, ys, h2, down_end h3 (fun j j0 jl jp => by
        have := hsm j j0 jl jp
        unfold gtD at *; omega), rfl⟩
    · rw [ltD_iff] at hb2
      repeat' (first | (show W _ _ _ _ _ _; first | refine wdrawS rfl (by kernel_rfl) (by kernel_rfl) (by kernel_rfl) ?_ | apply kA | refine kB rfl ?_ | refine kC rfl rfl ?_ | refine kD rfl rfl ?_ | apply kE | apply kF | apply kG | apply kH | refine kI (by kernel_rfl) (by kernel_rfl) ?_) | (show O _ _ _ _ _ _ _; first | (show O _ _ _ _ (⟨_, .store _ _ _, _, _, _, _⟩ :: _) _ _; refine kJ rfl rfl rfl rfl rfl rfl rfl rfl rfl rfl rfl ?_) | apply kK) | apply kL | ((first | apply kM | apply kN); (iterate 3 (· exact rfl)); (· first | (show Y _ ⟨_, .indexAddr _ _ _, _, _, _, _⟩ _ _ _; first | exact q_ioE (2 * i + 1) rfl rfl rfl rfl rfl rfl (by omega) (by omega) | exact q_ioE (2 * i + 2) rfl rfl rfl rfl rfl rfl (by omega) (by omega) | exact q_ioE (i) rfl rfl rfl rfl rfl rfl (by omega) (by omega)) | (show Y _ ⟨_, .call ⟨.value _, _, _⟩, _, _, _, _⟩ _ _ _; first | exact q_c (c1) rfl | exact q_c (c2) rfl) | exact ya)) | (show F _ _ _ _ _ _ _ _ _ _ _; first | refine fnil ?_ | (apply f_ld; (· exact rfl); (· exact rfl); (· first | exact yp)) | refine f_se (x' := dG ys (2 * i + 2)) rfl rfl rfl rfl rfl rfl rfl rfl rfl (by (first | rfl | omega | (simp only [List.length_set]; omega) | simp only [List.length_set])) (by (first | rfl | omega | (simp only [List.length_set]; omega) | simp only [List.length_set])) ?_ | refine f_se (x' := dG ys i) rfl rfl rfl rfl rfl rfl rfl rfl rfl (by (first | rfl | omega | (simp only [List.length_set]; omega) | simp only [List.length_set])) (by (first | rfl | omega | (simp only [List.length_set]; omega) | simp only [List.length_set])) ?_ | (apply f_k; (· exact rfl); (· intro y' hy'; first | (show Y _ ⟨_, .indexAddr _ _ _, _, _, _, _⟩ _ _ _; first | exact q_ioE (2 * i + 1) rfl rfl rfl rfl rfl rfl (by omega) (by omega) | exact q_ioE (2 * i + 2) rfl rfl rfl rfl rfl rfl (by omega) (by omega) | exact q_ioE (i) rfl rfl rfl rfl rfl rfl (by omega) (by omega)) | (show Y _ ⟨_, .call ⟨.value _, _, _⟩, _, _, _, _⟩ _ _ _; first | exact q_c (c1) rfl | exact q_c (c2) rfl) | exact ya))) | refine kO rfl rfl rfl rfl rfl ?_ | refine kP rfl rfl rfl ?_ | ((first | refine kQ rfl rfl ?_ ?_ | refine kR rfl rfl rfl rfl rfl ?_ ?_ | refine kS rfl rfl rfl ?_ ?_) <;> intro hc <;> (try simp only [KL, cond_true, cond_false, beq_iff_eq, bne_iff_ne, ne_eq, reduceCtorEq] at hc) <;> (try (have hT : True := hc; clear hT hc)) <;> (try (exfalso; omega))) | apply kT | apply kU | apply kV | apply kW | refine kX rfl ?_ | apply kY | apply kZ)
      all_goals first | (exfalso; omega) | skip
      have hs := down_step h3 (show 0 < 2 * i + 2 by omega) hk hki hb2 hsm
      have hp := sw_perm (l := ys) (p := i) (i := 2 * i + 2) (by omega) hk
      rw [swD_comm ys _ _ hk h1 (by omega)] at hp
      exact ⟨(2 * i + 2, swD ys i (2 * i + 2)), ⟨by simp only [swD_len]; omega, hp.trans h2, hs⟩, by simp only [swD_len]; omega, les, leh⟩
end Go.Proofs.Ytfjoaeghnfkdlaa
