/- Who goes first, by priorities: the order that a stable sort leaves is the one that ranks tell. No condition. -/
import Derived.Test.YtnijdaidmpjccaaDoorSort2
import Derived.Test.YtnijdaidmpjccaaDoorCmp
namespace Go.Proofs.YtnijdaidmpjccaaDoor
set_option linter.unusedSimpArgs false
set_option linter.unusedVariables false
set_option maxRecDepth 100000
set_option linter.unusedSimpArgs false
set_option linter.unnecessarySimpa false
def pr (prio : List Int) (i : Int) : Int := prio.getD i.toNat default
/-- Does a go ahead of b? -/
def befB (prio : List Int) (a b : Int) : Bool := decide (pr prio b < pr prio a ∨ pr prio a = pr prio b ∧ a < b)
def idx (n : Nat) : List Int := (List.range n).map fun k : Nat => (k : Int)
theorem idx_len (n : Nat) : (idx n).length = n := by simp [idx]
theorem mem_idx {n : Nat} {i : Int} : i ∈ idx n ↔ 0 ≤ i ∧ i < n := by
  simp only [idx, List.mem_map, List.mem_range]
  constructor
  · rintro ⟨k, hk, rfl⟩; omega
  · intro h; exact ⟨i.toNat, by omega, by omega⟩
theorem idx_at {n k : Nat} (h : k < n) : (idx n).getD k default = (k : Int) := by simp [idx, h]
theorem idx_lt (n : Nat) : (idx n).Pairwise (· < ·) := by
  rw [idx, List.pairwise_map]
  exact List.pairwise_lt_range.imp fun h => by omega
/-- How many go ahead of one. -/
def rk (prio : List Int) (n : Nat) (i : Int) : Nat := (idx n).countP fun j => befB prio j i
theorem swoP (prio : List Int) : SWO (fun x y : Int => decide (cmpI (pr prio y) (pr prio x) < 0)) :=
  ⟨fun x => by simp [cmpI_neg], fun x y z h1 h2 => by simp only [decide_eq_true_eq, cmpI_neg] at *; omega, fun x y z h1 h2 => by simp only [decide_eq_false_iff_not, cmpI_neg] at *; omega⟩
/-- An order: everybody is there, and who goes ahead of one stands ahead of it. -/
structure Ord (prio : List Int) (n : Nat) (o : List Int) : Prop where
  perm : o.Perm (idx n)
  srt : o.Pairwise fun a b => befB prio a b = true
theorem ord_of {prio : List Int} {n : Nat} {o : List Int} (h : StS (fun x y : Int => decide (cmpI (pr prio y) (pr prio x) < 0)) (idx n) o) : Ord prio n o := by
  refine ⟨h.1.perm, ?_⟩
  have h1 := h.1.pairs (idx_lt n)
  refine (h1.and h.2).imp fun {a b} ⟨h2, h3⟩ => ?_
  simp only [decide_eq_true_eq, decide_eq_false_iff_not, cmpI_neg, befB] at *
  omega
theorem Ord.len {prio : List Int} {n : Nat} {o : List Int} (h : Ord prio n o) : o.length = n := by rw [h.perm.length_eq, idx_len]
theorem Ord.mem {prio : List Int} {n : Nat} {o : List Int} (h : Ord prio n o) {i : Int} : i ∈ o ↔ 0 ≤ i ∧ i < n := by rw [h.perm.mem_iff, mem_idx]
theorem Ord.at {prio : List Int} {n : Nat} {o : List Int} (h : Ord prio n o) {k : Nat} (hk : k < n) : 0 ≤ o.getD k default ∧ o.getD k default < n := h.mem.1 (getD_mem (by rw [h.len]; exact hk))
theorem Ord.rank {prio : List Int} {n : Nat} {o : List Int} (h : Ord prio n o) {k : Nat} (hk : k < n) : rk prio n (o.getD k default) = k := by
  obtain ⟨a, x, b, rfl, ha⟩ := parted (l := o) (k := k) (by rw [h.len]; exact hk)
  have e : (a ++ x :: b).getD k default = x := get_at rfl ha.symm
  rw [e, rk, ← h.perm.countP_eq, List.countP_append, List.countP_cons]
  have hs := h.srt
  rw [List.pairwise_append, List.pairwise_cons] at hs
  obtain ⟨_, ⟨h2, _⟩, h3⟩ := hs
  have c1 : a.countP (fun j => befB prio j x) = a.length := List.countP_eq_length.2 fun j hj => h3 j hj x List.mem_cons_self
  have c2 : b.countP (fun j => befB prio j x) = 0 := List.countP_eq_zero.2 fun j hj => by
    have := h2 j hj
    simp only [befB, decide_eq_true_eq] at *
    omega
  have c3 : befB prio x x = false := by simp [befB]
  rw [c1, c2, c3, ha]; simp
theorem Ord.back {prio : List Int} {n : Nat} {o : List Int} (h : Ord prio n o) {i : Int} (hi : 0 ≤ i ∧ i < n) : rk prio n i < n ∧ o.getD (rk prio n i) default = i := by
  obtain ⟨k, hk, rfl⟩ := List.getElem_of_mem (h.mem.2 hi)
  have hk' : k < n := by rw [← h.len]; exact hk
  have e : o.getD k default = o[k] := by simp [hk]
  have := h.rank hk'
  rw [e] at this
  rw [this]
  exact ⟨hk', e⟩
/-- Who has which rank. -/
def ordL (prio : List Int) (n : Nat) : List Int := (List.range n).map fun k => ((idx n).find? fun i => rk prio n i == k).getD 0
theorem Ord.eq {prio : List Int} {n : Nat} {o : List Int} (h : Ord prio n o) : o = ordL prio n := by
  refine List.ext_getElem (by rw [h.len]; simp [ordL]) fun k h1 h2 => ?_
  have hk : k < n := by rw [← h.len]; exact h1
  have hr := h.rank hk
  have hm := h.at hk
  have e : o.getD k default = o[k] := by simp [h1]
  rw [e] at hr hm
  simp only [ordL, List.getElem_map, List.getElem_range]
  cases hf : (idx n).find? fun i => rk prio n i == k with
  | none =>
    have := List.find?_eq_none.1 hf _ (mem_idx.2 hm)
    simp [hr] at this
  | some i =>
    have h3 := List.find?_some hf
    have h4 := mem_idx.1 (List.mem_of_find?_eq_some hf)
    have h5 : rk prio n i = k := by simpa using h3
    have h6 := (h.back h4).2
    rw [h5, e] at h6
    rw [Option.getD_some, h6]
def rkL (prio : List Int) (n : Nat) : List Int := (List.range n).map fun k : Nat => (rk prio n (k : Int) : Int)
theorem rkL_len (prio : List Int) (n : Nat) : (rkL prio n).length = n := by simp [rkL]
theorem rkL_at (prio : List Int) {n k : Nat} (h : k < n) : (rkL prio n).getD k default = (rk prio n (k : Int) : Int) := by simp [rkL, h]
/-- What is laid, one after the other, at the places that the order tells, is the ranks. -/
theorem ranks_next {prio : List Int} {n : Nat} {o out : List Int} (h : Ord prio n o) {k : Nat} (hk : k < n) (hl : out.length = n) (hj : ∀ j, j < k → out.getD (o.getD j default).toNat default = (j : Int)) :
    ∀ j, j < k + 1 → (out.set (o.getD k default).toNat (k : Int)).getD (o.getD j default).toNat default = (j : Int) := by
  intro j hjk
  have hm := h.at hk
  by_cases e : j = k
  · subst e
    rw [List.getD_eq_getElem?_getD (l := out.set _ _), List.getElem?_set_self (by omega)]; rfl
  · have hm2 := h.at (k := j) (by omega)
    have hne : (o.getD k default).toNat ≠ (o.getD j default).toNat := fun e2 => by
      have e3 : o.getD k default = o.getD j default := by omega
      have h1 := h.rank hk
      have h2 := h.rank (k := j) (by omega)
      rw [e3, h2] at h1
      omega
    have := hj j (by omega)
    simp only [List.getD_eq_getElem?_getD] at *
    rw [List.getElem?_set_ne hne]
    exact this
theorem ranks_done {prio : List Int} {n : Nat} {o out : List Int} (h : Ord prio n o) (hl : out.length = n) (hj : ∀ j, j < n → out.getD (o.getD j default).toNat default = (j : Int)) : out = rkL prio n := by
  refine List.ext_getElem (by rw [hl, rkL_len]) fun k h1 h2 => ?_
  have hk : k < n := by rw [← hl]; exact h1
  obtain ⟨h3, h4⟩ := h.back (i := (k : Int)) (by omega)
  have h5 := hj _ h3
  rw [h4] at h5
  simp only [Int.toNat_natCast] at h5
  have e : out.getD k default = out[k] := by simp [h1]
  rw [e] at h5
  rw [h5]
  simp [rkL]
theorem ord_ex (prio : List Int) (n : Nat) : ∃ o, Ord prio n o := by
  refine ⟨(idx n).mergeSort (fun a b => !befB prio b a), List.mergeSort_perm _ _, ?_⟩
  have h1 := List.pairwise_mergeSort (le := fun a b => !befB prio b a) (fun a b c h1 h2 => by simp only [befB, Bool.not_eq_true', decide_eq_false_iff_not] at *; omega) (fun a b => by simp only [befB, Bool.or_eq_true, Bool.not_eq_true', decide_eq_false_iff_not] at *; omega) (idx n)
  have h2 : ((idx n).mergeSort (fun a b => !befB prio b a)).Nodup := (List.mergeSort_perm _ _).nodup_iff.2 ((idx_lt n).imp fun h => by omega)
  refine (h1.and h2).imp fun {a b} ⟨h3, h4⟩ => ?_
  simp only [befB, Bool.not_eq_true', decide_eq_false_iff_not, decide_eq_true_eq] at *
  omega
end Go.Proofs.YtnijdaidmpjccaaDoor
