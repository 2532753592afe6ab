/- The verdict on a system: admit.Check and the document's answer. No condition. -/
import Derived.Test.YtkkmageogkkchaaGreatUAX
import Derived.Test.YtkkmageogkkchaaGreatUACr
set_option linter.unusedSimpArgs false
set_option linter.unusedVariables false
set_option maxHeartbeats 1000000
namespace Go.Proofs.YtkkmageogkkchaaGreat
set_option linter.unusedSimpArgs false
set_option linter.unusedVariables false
set_option maxRecDepth 100000
set_option linter.unusedSimpArgs false
set_option linter.unusedVariables false
set_option maxRecDepth 100000
open Go.RowKit
section
variable {n : Md} {s : Slots} {h : Heap}
/-- nil, in a cell of a block, is a list without elements. -/
theorem turn_nilJ (sz : Nat) {b : Nat} {ty : TypeId} {cs : List AV} (j : Nat) (hg : hget h b = some (.blk ty cs)) (hj : cs[j]? = some .nils) : Turns n s h s ((b, .blk ty (cs.set j (.lst sz []))) :: h) := by
  intro E σ ι a w hr ht
  obtain ⟨g, cur, e1, e2, e3⟩ := hr.ch b _ hg
  have hsame : YtkkmageogkkchaaGreat.upd ι b (ι b) = ι := by funext i; unfold YtkkmageogkkchaaGreat.upd; split <;> simp_all
  have hnew := hr.turn (id := b) (u := ι b) (h' := (b, .blk ty (cs.set j (.lst sz []))) :: h) (c' := .blk ty (cs.set j (.lst sz []))) (w' := w)
    (fun i c hi hc => by rw [hget_cons, if_neg (fun e => hi e.symm)] at hc; exact ⟨hc, .inl rfl⟩) (by rw [hget_cons, if_pos rfl])
    (by rw [hsame]; exact ⟨g, cur, e1, e2, by rw [List.length_set]; exact e3.1, fun k x y hx hy => by
      rw [List.getElem?_set] at hx
      by_cases hjk : j = k
      · subst hjk
        have h5 := e3.2 j .nils y hj hy
        have hjl := (List.getElem?_eq_some_iff.1 hj).1
        rw [if_pos rfl, if_pos hjl] at hx
        cases hx
        exact LeV.nils sz _ _ _ h5
      · rw [if_neg hjk] at hx
        exact e3.2 k x y hx hy⟩)
    rfl rfl rfl (Nat.le_refl _) (fun _ _ _ => rfl) (fun g hv => .inl ⟨_, hg, hv⟩) (.inr rfl)
  rw [hsame] at hnew
  exact ⟨σ, ι, hnew, ht⟩
end
/-- The first task, and object, of which reads may never end well. -/
def hopeK (S : System) (i : Nat) : Option Nat := fstN (fun k => hopeB S (i : Int) (k : Int)) S.objects.length
def hopeT (S : System) : Option Nat := fstN (fun i => (hopeK S i).isSome) S.tasks.length
def hopeV (S : System) : Int × Int × Bool := match hopeT S with
  | none => (0, 0, false)
  | some i => (i, ((hopeK S i).getD 0 : Nat), true)
/-- What is wrong of an object for a reader. -/
def spoilO (S : System) (o : Object) (i k r : Int) : Int :=
  if o.kind = 4 then (if o.slots < 2 + writesI S i k r then 11 else 0) else if o.kind = 3 ∨ o.kind = 5 then (if o.cap ≤ failsI S i k r then 12 else 0) else 0
def rvR (S : System) (R : List Int) (o : Object) (k : Nat) : List Int → Int × Int × Int
  | [] => (0, -1, -1)
  | i :: l => if spoilO S o i k (R.getD i.toNat default) = 0 then rvR S R o k l else (spoilO S o i k (R.getD i.toNat default), i, k)
def rvO (S : System) (R : List Int) : Nat → List Object → Int × Int × Int
  | _, [] => (0, -1, -1)
  | k, o :: l => if (rvR S R o k o.readers).1 = 0 then rvO S R (k + 1) l else rvR S R o k o.readers
structure Vd where
  e : Int
  t : Int
  k : Int
  R : List Int
deriving DecidableEq
def verd (S : System) : Vd :=
  if (sysF S).2.2.2 ≠ 0 then ⟨(sysF S).2.2.2, (sysF S).1, (sysF S).2.1, []⟩
  else if (hopeV S).2.2 = true then ⟨12, (hopeV S).1, (hopeV S).2.1, []⟩
  else if (allI S).e ≠ 0 then ⟨(allI S).e, (allI S).at_, -1, []⟩
  else if (rvO S (allI S).R 0 S.objects).1 ≠ 0 then ⟨(rvO S (allI S).R 0 S.objects).1, (rvO S (allI S).R 0 S.objects).2.1, (rvO S (allI S).R 0 S.objects).2.2, []⟩
  else ⟨0, -1, -1, (allI S).R⟩
def eV (v : Vd) : List AV := [.int .i64 v.e, .int .i64 v.t, .int .i64 v.k, .lst 1 (v.R.map eI)]
theorem hopeK_none {S : System} {i : Nat} (h : ∀ j, j < S.objects.length → hopeB S (i : Int) (j : Int) = false) : hopeK S i = none := fstN_none h
theorem hopeK_some {S : System} {i k : Nat} (hk : k < S.objects.length) (hq : hopeB S (i : Int) (k : Int) = true) (hno : ∀ j, j < k → hopeB S (i : Int) (j : Int) = false) : hopeK S i = some k := fstN_some (q := fun k => hopeB S (i : Int) (k : Int)) hk hq hno
theorem hopeV_none {S : System} (h : ∀ i, i < S.tasks.length → hopeK S i = none) : hopeV S = (0, 0, false) := by
  have : hopeT S = none := fstN_none fun i hi => by rw [h i hi]; rfl
  rw [hopeV, this]
theorem hopeV_some {S : System} {i k : Nat} (hi : i < S.tasks.length) (hk : hopeK S i = some k) (hno : ∀ j, j < i → hopeK S j = none) : hopeV S = ((i : Int), (k : Int), true) := by
  have : hopeT S = some i := fstN_some (q := fun i => (hopeK S i).isSome) hi (by rw [hk]; rfl) fun j hj => by rw [hno j hj]; rfl
  rw [hopeV, this]
  simp only [hk, Option.getD_some]
theorem verdict_fn (e i k : Int) : Fn Tryz.prog 86 [.int .i64 e, .int .i64 i, .int .i64 k] (.agg (eV ⟨e, i, k, []⟩)) := by
  refine fnb Tryz.func86 (entered_of (by kernel_rfl)) rfl rfl rfl ?_
  repeat' (first | (show W _ _ _ _ _ _; first | apply kA | refine kB rfl ?_ | refine kC rfl rfl ?_ | refine kD rfl rfl ?_ | apply kE | apply kF | apply kG | apply kH | refine kI (by kernel_rfl) (by kernel_rfl) ?_) | (show O _ _ _ _ _ _ _; first | (show O _ _ _ _ (⟨_, .alloc _, _, _, _, _⟩ :: _) _ _; first | refine ao_alloc (id := 10) rfl rfl rfl rfl rfl rfl rfl ?_) | (show O _ _ _ _ (⟨_, .store _ _ _, _, _, _, _⟩ :: _) _ _; refine kJ rfl rfl rfl rfl rfl rfl rfl rfl rfl rfl rfl ?_) | apply kK) | apply kL | ((first | apply kM | apply kN); (iterate 3 (· exact rfl)); (· first | exact ya)) | refine kO rfl rfl rfl rfl rfl ?_ | refine kP rfl rfl rfl ?_ | ((first | refine kQ rfl rfl ?_ ?_ | refine kR rfl rfl rfl rfl rfl ?_ ?_ | refine kS rfl rfl rfl ?_ ?_) <;> intro hc <;> (try simp only [KL, cond_true, cond_false, beq_iff_eq, bne_iff_ne, ne_eq, reduceCtorEq] at hc) <;> (try (have hT : True := hc; clear hT hc)) <;> (try (exfalso; omega))) | apply kT | apply kU | apply kV | apply kW | refine kX rfl ?_ | apply kY | apply kZ)
  refine retT (fun _ => turn_nilJ 1 (b := 10) 3 rfl rfl) ?_
  exact retq rfl rfl
theorem hopeless_fn (S : System) (h : OkS S) : Fn Tryz.prog 87 [.agg (eSystem S)] (.tup [.int .i64 (hopeV S).1, .int .i64 (hopeV S).2.1, .bool (hopeV S).2.2]) := by
  have h1 := h.tl
  have h2 := h.ol
  refine fnb Tryz.func87 (entered_of (by kernel_rfl)) rfl rfl rfl ?_
  repeat' (first | (show W _ _ _ _ _ _; first | apply kA | refine kB rfl ?_ | refine kC rfl rfl ?_ | refine kD rfl rfl ?_ | apply kE | apply kF | apply kG | apply kH | refine kI (by kernel_rfl) (by kernel_rfl) ?_) | (show O _ _ _ _ _ _ _; first | (show O _ _ _ _ (⟨_, .store _ _ _, _, _, _, _⟩ :: _) _ _; refine kJ rfl rfl rfl rfl rfl rfl rfl rfl rfl rfl rfl ?_) | apply kK) | apply kL | ((first | apply kM | apply kN); (iterate 3 (· exact rfl)); (· first | exact ya)) | refine kO rfl rfl rfl rfl rfl ?_ | refine kP rfl rfl rfl ?_ | ((first | refine kQ rfl rfl ?_ ?_ | refine kR rfl rfl rfl rfl rfl ?_ ?_ | refine kS rfl rfl rfl ?_ ?_) <;> intro hc <;> (try simp only [KL, cond_true, cond_false, beq_iff_eq, bne_iff_ne, ne_eq, reduceCtorEq] at hc) <;> (try (have hT : True := hc; clear hT hc)) <;> (try (exfalso; omega))) | apply kT | apply kU | apply kV | apply kW | refine kX rfl ?_ | apply kY | apply kZ)
  refine wloop (fun i : Nat => ([(1, .ref (eSystem S)), (8, .lst 7 (S.tasks.map eTask)), (9, .int .i64 S.tasks.length), (10, .int .i64 i)], [])) (fun i => i ≤ S.tasks.length ∧ ∀ j, j < i → hopeK S j = none) (fun i => S.tasks.length - i) 0 ⟨Nat.zero_le _, fun j hj => by omega⟩ les leh (fun i hi => ?_)
  obtain ⟨hi, hn⟩ := hi
  rcases Nat.lt_or_eq_of_le hi with hil | hil
  · repeat' (first | (show W _ _ _ _ _ _; first | apply kA | refine kB rfl ?_ | refine kC rfl rfl ?_ | refine kD rfl rfl ?_ | apply kE | apply kF | apply kG | apply kH | refine kI (by kernel_rfl) (by kernel_rfl) ?_) | (show O _ _ _ _ _ _ _; first | (show O _ _ _ _ (⟨_, .store _ _ _, _, _, _, _⟩ :: _) _ _; refine kJ rfl rfl rfl rfl rfl rfl rfl rfl rfl rfl rfl ?_) | apply kK) | apply kL | ((first | apply kM | apply kN); (iterate 3 (· exact rfl)); (· first | exact ya)) | refine kO rfl rfl rfl rfl rfl ?_ | refine kP rfl rfl rfl ?_ | ((first | refine kQ rfl rfl ?_ ?_ | refine kR rfl rfl rfl rfl rfl ?_ ?_ | refine kS rfl rfl rfl ?_ ?_) <;> intro hc <;> (try simp only [KL, cond_true, cond_false, beq_iff_eq, bne_iff_ne, ne_eq, reduceCtorEq] at hc) <;> (try (have hT : True := hc; clear hT hc)) <;> (try (exfalso; omega))) | apply kT | apply kU | apply kV | apply kW | refine kX rfl ?_ | apply kY | apply kZ)
    all_goals first | (exfalso; omega) | skip
    refine wloop (fun k : Nat => ([(1, .ref (eSystem S)), (5, .int .i64 i), (8, .lst 7 (S.tasks.map eTask)), (9, .int .i64 S.tasks.length), (10, .int .i64 i), (14, .lst 8 (S.objects.map eObject)), (15, .int .i64 S.objects.length), (16, .int .i64 k)], [])) (fun k => k ≤ S.objects.length ∧ ∀ j, j < k → hopeB S (i : Int) (j : Int) = false) (fun k => S.objects.length - k) 0 ⟨Nat.zero_le _, fun j hj => by omega⟩ les leh (fun k hk => ?_)
    obtain ⟨hk, hm⟩ := hk
    rcases Nat.lt_or_eq_of_le hk with hkl | hkl
    · have c1 := hope_fn S h i k
      cases hq : hopeB S (i : Int) (k : Int)
      · rw [hq] at c1
        repeat' (first | (show W _ _ _ _ _ _; first | apply kA | refine kB rfl ?_ | refine kC rfl rfl ?_ | refine kD rfl rfl ?_ | apply kE | apply kF | apply kG | apply kH | refine kI (by kernel_rfl) (by kernel_rfl) ?_) | (show O _ _ _ _ _ _ _; first | (show O _ _ _ _ (⟨_, .store _ _ _, _, _, _, _⟩ :: _) _ _; refine kJ rfl rfl rfl rfl rfl rfl rfl rfl rfl rfl rfl ?_) | apply kK) | apply kL | ((first | apply kM | apply kN); (iterate 3 (· exact rfl)); (· first | (show Y _ ⟨_, .call ⟨.value _, _, _⟩, _, _, _, _⟩ _ _ _; first | exact q_c (c1) rfl) | exact ya)) | refine kO rfl rfl rfl rfl rfl ?_ | refine kP rfl rfl rfl ?_ | ((first | refine kQ rfl rfl ?_ ?_ | refine kR rfl rfl rfl rfl rfl ?_ ?_ | refine kS rfl rfl rfl ?_ ?_) <;> intro hc <;> (try simp only [KL, cond_true, cond_false, beq_iff_eq, bne_iff_ne, ne_eq, reduceCtorEq] at hc) <;> (try (have hT : True := hc; clear hT hc)) <;> (try (exfalso; omega))) | apply kT | apply kU | apply kV | apply kW | refine kX rfl ?_ | apply kY | apply kZ)
        all_goals first | (exfalso; omega) | skip
        refine ⟨k + 1, ⟨by omega, fun j hj => ?_⟩, by omega, les, leh⟩
        by_cases e : j = k
        · subst e; exact hq
        · exact hm j (by omega)
      · rw [hq] at c1
        rw [hopeV_some hil (hopeK_some hkl hq hm) hn]
        repeat' (first | (show W _ _ _ _ _ _; first | apply kA | refine kB rfl ?_ | refine kC rfl rfl ?_ | refine kD rfl rfl ?_ | apply kE | apply kF | apply kG | apply kH | refine kI (by kernel_rfl) (by kernel_rfl) ?_) | (show O _ _ _ _ _ _ _; first | (show O _ _ _ _ (⟨_, .store _ _ _, _, _, _, _⟩ :: _) _ _; refine kJ rfl rfl rfl rfl rfl rfl rfl rfl rfl rfl rfl ?_) | apply kK) | apply kL | ((first | apply kM | apply kN); (iterate 3 (· exact rfl)); (· first | (show Y _ ⟨_, .call ⟨.value _, _, _⟩, _, _, _, _⟩ _ _ _; first | exact q_c (c1) rfl) | exact ya)) | refine kO rfl rfl rfl rfl rfl ?_ | refine kP rfl rfl rfl ?_ | ((first | refine kQ rfl rfl ?_ ?_ | refine kR rfl rfl rfl rfl rfl ?_ ?_ | refine kS rfl rfl rfl ?_ ?_) <;> intro hc <;> (try simp only [KL, cond_true, cond_false, beq_iff_eq, bne_iff_ne, ne_eq, reduceCtorEq] at hc) <;> (try (have hT : True := hc; clear hT hc)) <;> (try (exfalso; omega))) | apply kT | apply kU | apply kV | apply kW | refine kX rfl ?_ | apply kY | apply kZ)
        all_goals first | (exfalso; omega) | exact retq rfl rfl
    · subst hkl
      repeat' (first | (show W _ _ _ _ _ _; first | apply kA | refine kB rfl ?_ | refine kC rfl rfl ?_ | refine kD rfl rfl ?_ | apply kE | apply kF | apply kG | apply kH | refine kI (by kernel_rfl) (by kernel_rfl) ?_) | (show O _ _ _ _ _ _ _; first | (show O _ _ _ _ (⟨_, .store _ _ _, _, _, _, _⟩ :: _) _ _; refine kJ rfl rfl rfl rfl rfl rfl rfl rfl rfl rfl rfl ?_) | apply kK) | apply kL | ((first | apply kM | apply kN); (iterate 3 (· exact rfl)); (· first | exact ya)) | refine kO rfl rfl rfl rfl rfl ?_ | refine kP rfl rfl rfl ?_ | ((first | refine kQ rfl rfl ?_ ?_ | refine kR rfl rfl rfl rfl rfl ?_ ?_ | refine kS rfl rfl rfl ?_ ?_) <;> intro hc <;> (try simp only [KL, cond_true, cond_false, beq_iff_eq, bne_iff_ne, ne_eq, reduceCtorEq] at hc) <;> (try (have hT : True := hc; clear hT hc)) <;> (try (exfalso; omega))) | apply kT | apply kU | apply kV | apply kW | refine kX rfl ?_ | apply kY | apply kZ)
      all_goals first | (exfalso; omega) | skip
      refine ⟨i + 1, ⟨by omega, fun j hj => ?_⟩, by omega, les, leh⟩
      by_cases e : j = i
      · subst e; exact hopeK_none hm
      · exact hn j (by omega)
  · subst hil
    rw [hopeV_none hn]
    repeat' (first | (show W _ _ _ _ _ _; first | apply kA | refine kB rfl ?_ | refine kC rfl rfl ?_ | refine kD rfl rfl ?_ | apply kE | apply kF | apply kG | apply kH | refine kI (by kernel_rfl) (by kernel_rfl) ?_) | (show O _ _ _ _ _ _ _; first | (show O _ _ _ _ (⟨_, .store _ _ _, _, _, _, _⟩ :: _) _ _; refine kJ rfl rfl rfl rfl rfl rfl rfl rfl rfl rfl rfl ?_) | apply kK) | apply kL | ((first | apply kM | apply kN); (iterate 3 (· exact rfl)); (· first | exact ya)) | refine kO rfl rfl rfl rfl rfl ?_ | refine kP rfl rfl rfl ?_ | ((first | refine kQ rfl rfl ?_ ?_ | refine kR rfl rfl rfl rfl rfl ?_ ?_ | refine kS rfl rfl rfl ?_ ?_) <;> intro hc <;> (try simp only [KL, cond_true, cond_false, beq_iff_eq, bne_iff_ne, ne_eq, reduceCtorEq] at hc) <;> (try (have hT : True := hc; clear hT hc)) <;> (try (exfalso; omega))) | apply kT | apply kU | apply kV | apply kW | refine kX rfl ?_ | apply kY | apply kZ)
    all_goals first | (exfalso; omega) | exact retq rfl rfl
theorem spoilt_fn (S : System) (h : OkS S) (i r : Int) (k : Nat) (hk : k < S.objects.length) (o : Object) (ho : S.objects.getD k default = o) : Fn Tryz.prog 126 [.agg (eSystem S), .int .i64 i, .int .i64 k, .int .i64 r] (.int .i64 (spoilO S o i k r)) := by
  have h2 := h.ol
  have c1 := writes_fn S h i k r
  have c2 := fails_fn S h i k r
  have hw := writes_B S i k r
  have hfb : 0 ≤ failsI S i k r ∧ failsI S i k r ≤ 1099511627776 := fails_B _ hw
  have hsl := h.sl k
  rw [ho] at hsl
  rw [spoilO]
  generalize writesI S i k r = wr at *
  generalize failsI S i k r = fr at *
  by_cases h4 : o.kind = 4
  · rw [if_pos h4]
    by_cases h5 : o.slots < 2 + wr
    · rw [if_pos h5]
      refine fnb Tryz.func126 (entered_of (by kernel_rfl)) rfl rfl rfl ?_
      repeat' (first | (show W _ _ _ _ _ _; first | apply kA | refine kB rfl ?_ | refine kC rfl rfl ?_ | refine kD rfl rfl ?_ | apply kE | apply kF | apply kG | apply kH | refine kI (by kernel_rfl) (by kernel_rfl) ?_) | (show O _ _ _ _ _ _ _; first | (show O _ _ _ _ (⟨_, .alloc _, _, _, _, _⟩ :: _) _ _; first | refine ao_alloc (id := 10) rfl rfl rfl rfl rfl rfl rfl ?_) | (show O _ _ _ _ (⟨_, .store _ _ _, _, _, _, _⟩ :: _) _ _; refine kJ rfl rfl rfl rfl rfl rfl rfl rfl rfl rfl rfl ?_) | apply kK) | apply kL | ((first | apply kM | apply kN); (iterate 3 (· exact rfl)); (· first | (show Y _ ⟨_, .indexAddr _ _ _, _, _, _, _⟩ _ _ _; first | exact Y.mk (ok_indexE (ho) rfl rfl rfl rfl rfl (by omega))) | (show Y _ ⟨_, .call ⟨.value _, _, _⟩, _, _, _, _⟩ _ _ _; first | exact q_c (c1) rfl) | exact ya)) | refine kO rfl rfl rfl rfl rfl ?_ | refine kP rfl rfl rfl ?_ | ((first | refine kQ rfl rfl ?_ ?_ | refine kR rfl rfl rfl rfl rfl ?_ ?_ | refine kS rfl rfl rfl ?_ ?_) <;> intro hc <;> (try simp only [KL, cond_true, cond_false, beq_iff_eq, bne_iff_ne, ne_eq, reduceCtorEq] at hc) <;> (try (have hT : True := hc; clear hT hc)) <;> (try (exfalso; omega))) | apply kT | apply kU | apply kV | apply kW | refine kX rfl ?_ | apply kY | apply kZ)
      all_goals first | (exfalso; omega) | exact retq rfl rfl
    · rw [if_neg h5]
      refine fnb Tryz.func126 (entered_of (by kernel_rfl)) rfl rfl rfl ?_
      repeat' (first | (show W _ _ _ _ _ _; first | apply kA | refine kB rfl ?_ | refine kC rfl rfl ?_ | refine kD rfl rfl ?_ | apply kE | apply kF | apply kG | apply kH | refine kI (by kernel_rfl) (by kernel_rfl) ?_) | (show O _ _ _ _ _ _ _; first | (show O _ _ _ _ (⟨_, .alloc _, _, _, _, _⟩ :: _) _ _; first | refine ao_alloc (id := 10) rfl rfl rfl rfl rfl rfl rfl ?_) | (show O _ _ _ _ (⟨_, .store _ _ _, _, _, _, _⟩ :: _) _ _; refine kJ rfl rfl rfl rfl rfl rfl rfl rfl rfl rfl rfl ?_) | apply kK) | apply kL | ((first | apply kM | apply kN); (iterate 3 (· exact rfl)); (· first | (show Y _ ⟨_, .indexAddr _ _ _, _, _, _, _⟩ _ _ _; first | exact Y.mk (ok_indexE (ho) rfl rfl rfl rfl rfl (by omega))) | (show Y _ ⟨_, .call ⟨.value _, _, _⟩, _, _, _, _⟩ _ _ _; first | exact q_c (c1) rfl) | exact ya)) | refine kO rfl rfl rfl rfl rfl ?_ | refine kP rfl rfl rfl ?_ | ((first | refine kQ rfl rfl ?_ ?_ | refine kR rfl rfl rfl rfl rfl ?_ ?_ | refine kS rfl rfl rfl ?_ ?_) <;> intro hc <;> (try simp only [KL, cond_true, cond_false, beq_iff_eq, bne_iff_ne, ne_eq, reduceCtorEq] at hc) <;> (try (have hT : True := hc; clear hT hc)) <;> (try (exfalso; omega))) | apply kT | apply kU | apply kV | apply kW | refine kX rfl ?_ | apply kY | apply kZ)
      all_goals first | (exfalso; omega) | exact retq rfl rfl
  rw [if_neg h4]
  by_cases h3 : o.kind = 3 ∨ o.kind = 5
  · rw [if_pos h3]
    by_cases h5 : o.cap ≤ fr
    · rw [if_pos h5]
      refine fnb Tryz.func126 (entered_of (by kernel_rfl)) rfl rfl rfl ?_
      repeat' (first | (show W _ _ _ _ _ _; first | apply kA | refine kB rfl ?_ | refine kC rfl rfl ?_ | refine kD rfl rfl ?_ | apply kE | apply kF | apply kG | apply kH | refine kI (by kernel_rfl) (by kernel_rfl) ?_) | (show O _ _ _ _ _ _ _; first | (show O _ _ _ _ (⟨_, .alloc _, _, _, _, _⟩ :: _) _ _; first | refine ao_alloc (id := 10) rfl rfl rfl rfl rfl rfl rfl ?_) | (show O _ _ _ _ (⟨_, .store _ _ _, _, _, _, _⟩ :: _) _ _; refine kJ rfl rfl rfl rfl rfl rfl rfl rfl rfl rfl rfl ?_) | apply kK) | apply kL | ((first | apply kM | apply kN); (iterate 3 (· exact rfl)); (· first | (show Y _ ⟨_, .indexAddr _ _ _, _, _, _, _⟩ _ _ _; first | exact Y.mk (ok_indexE (ho) rfl rfl rfl rfl rfl (by omega))) | (show Y _ ⟨_, .call ⟨.value _, _, _⟩, _, _, _, _⟩ _ _ _; first | exact q_c (c2) rfl) | exact ya)) | refine kO rfl rfl rfl rfl rfl ?_ | refine kP rfl rfl rfl ?_ | ((first | refine kQ rfl rfl ?_ ?_ | refine kR rfl rfl rfl rfl rfl ?_ ?_ | refine kS rfl rfl rfl ?_ ?_) <;> intro hc <;> (try simp only [KL, cond_true, cond_false, beq_iff_eq, bne_iff_ne, ne_eq, reduceCtorEq] at hc) <;> (try (have hT : True := hc; clear hT hc)) <;> (try (exfalso; omega))) | apply kT | apply kU | apply kV | apply kW | refine kX rfl ?_ | apply kY | apply kZ)
      all_goals first | (exfalso; omega) | exact retq rfl rfl
    · rw [if_neg h5]
      refine fnb Tryz.func126 (entered_of (by kernel_rfl)) rfl rfl rfl ?_
      repeat' (first | (show W _ _ _ _ _ _; first | apply kA | refine kB rfl ?_ | refine kC rfl rfl ?_ | refine kD rfl rfl ?_ | apply kE | apply kF | apply kG | apply kH | refine kI (by kernel_rfl) (by kernel_rfl) ?_) | (show O _ _ _ _ _ _ _; first | (show O _ _ _ _ (⟨_, .alloc _, _, _, _, _⟩ :: _) _ _; first | refine ao_alloc (id := 10) rfl rfl rfl rfl rfl rfl rfl ?_) | (show O _ _ _ _ (⟨_, .store _ _ _, _, _, _, _⟩ :: _) _ _; refine kJ rfl rfl rfl rfl rfl rfl rfl rfl rfl rfl rfl ?_) | apply kK) | apply kL | ((first | apply kM | apply kN); (iterate 3 (· exact rfl)); (· first | (show Y _ ⟨_, .indexAddr _ _ _, _, _, _, _⟩ _ _ _; first | exact Y.mk (ok_indexE (ho) rfl rfl rfl rfl rfl (by omega))) | (show Y _ ⟨_, .call ⟨.value _, _, _⟩, _, _, _, _⟩ _ _ _; first | exact q_c (c2) rfl) | exact ya)) | refine kO rfl rfl rfl rfl rfl ?_ | refine kP rfl rfl rfl ?_ | ((first | refine kQ rfl rfl ?_ ?_ | refine kR rfl rfl rfl rfl rfl ?_ ?_ | refine kS rfl rfl rfl ?_ ?_) <;> intro hc <;> (try simp only [KL, cond_true, cond_false, beq_iff_eq, bne_iff_ne, ne_eq, reduceCtorEq] at hc) <;> (try (have hT : True := hc; clear hT hc)) <;> (try (exfalso; omega))) | apply kT | apply kU | apply kV | apply kW | refine kX rfl ?_ | apply kY | apply kZ)
      all_goals first | (exfalso; omega) | exact retq rfl rfl
  · rw [if_neg h3]
    refine fnb Tryz.func126 (entered_of (by kernel_rfl)) rfl rfl rfl ?_
    repeat' (first | (show W _ _ _ _ _ _; first | apply kA | refine kB rfl ?_ | refine kC rfl rfl ?_ | refine kD rfl rfl ?_ | apply kE | apply kF | apply kG | apply kH | refine kI (by kernel_rfl) (by kernel_rfl) ?_) | (show O _ _ _ _ _ _ _; first | (show O _ _ _ _ (⟨_, .alloc _, _, _, _, _⟩ :: _) _ _; first | refine ao_alloc (id := 10) rfl rfl rfl rfl rfl rfl rfl ?_) | (show O _ _ _ _ (⟨_, .store _ _ _, _, _, _, _⟩ :: _) _ _; refine kJ rfl rfl rfl rfl rfl rfl rfl rfl rfl rfl rfl ?_) | apply kK) | apply kL | ((first | apply kM | apply kN); (iterate 3 (· exact rfl)); (· first | (show Y _ ⟨_, .indexAddr _ _ _, _, _, _, _⟩ _ _ _; first | exact Y.mk (ok_indexE (ho) rfl rfl rfl rfl rfl (by omega))) | exact ya)) | refine kO rfl rfl rfl rfl rfl ?_ | refine kP rfl rfl rfl ?_ | ((first | refine kQ rfl rfl ?_ ?_ | refine kR rfl rfl rfl rfl rfl ?_ ?_ | refine kS rfl rfl rfl ?_ ?_) <;> intro hc <;> (try simp only [KL, cond_true, cond_false, beq_iff_eq, bne_iff_ne, ne_eq, reduceCtorEq] at hc) <;> (try (have hT : True := hc; clear hT hc)) <;> (try (exfalso; omega))) | apply kT | apply kU | apply kV | apply kW | refine kX rfl ?_ | apply kY | apply kZ)
    all_goals first | (exfalso; omega) | exact retq rfl rfl
theorem reads40_fn (S : System) (h : OkS S) (R : List Int) (hR : ∀ k : Nat, k < S.objects.length → ∀ i ∈ (S.objects.getD k default).readers, 0 ≤ i ∧ i < R.length) (hRl : R.length ≤ 1000) :
    Fn Tryz.prog 88 [.agg (eSystem S), .lst 1 (R.map eI)] (.agg (eV (if (rvO S R 0 S.objects).1 ≠ 0 then ⟨(rvO S R 0 S.objects).1, (rvO S R 0 S.objects).2.1, (rvO S R 0 S.objects).2.2, []⟩ else ⟨0, -1, -1, R⟩))) := by
  have h2 := h.ol
  have hrl := h.rl
  refine fnb Tryz.func88 (entered_of (by kernel_rfl)) rfl rfl rfl ?_
  obtain ⟨x, hx0⟩ : ∃ x, rvO S R 0 S.objects = x := ⟨_, rfl⟩
  rw [hx0]
  repeat' (first | (show W _ _ _ _ _ _; first | apply kA | refine kB rfl ?_ | refine kC rfl rfl ?_ | refine kD rfl rfl ?_ | apply kE | apply kF | apply kG | apply kH | refine kI (by kernel_rfl) (by kernel_rfl) ?_) | (show O _ _ _ _ _ _ _; first | (show O _ _ _ _ (⟨_, .alloc _, _, _, _, _⟩ :: _) _ _; first | refine ao_alloc (id := 10) rfl rfl rfl rfl rfl rfl rfl ?_) | (show O _ _ _ _ (⟨_, .store _ _ _, _, _, _, _⟩ :: _) _ _; refine kJ rfl rfl rfl rfl rfl rfl rfl rfl rfl rfl rfl ?_) | apply kK) | apply kL | ((first | apply kM | apply kN); (iterate 3 (· exact rfl)); (· first | exact ya)) | refine kO rfl rfl rfl rfl rfl ?_ | refine kP rfl rfl rfl ?_ | ((first | refine kQ rfl rfl ?_ ?_ | refine kR rfl rfl rfl rfl rfl ?_ ?_ | refine kS rfl rfl rfl ?_ ?_) <;> intro hc <;> (try simp only [KL, cond_true, cond_false, beq_iff_eq, bne_iff_ne, ne_eq, reduceCtorEq] at hc) <;> (try (have hT : True := hc; clear hT hc)) <;> (try (exfalso; omega))) | apply kT | apply kU | apply kV | apply kW | refine kX rfl ?_ | apply kY | apply kZ)
  refine wloop (fun m : Nat => ([(1, .lst 1 (R.map eI)), (2, .ref (eSystem S)), (4, .ptr 10 0), (12, .lst 8 (S.objects.map eObject)), (13, .int .i64 S.objects.length), (14, .int .i64 m)], [(10, .blk 60 [.int .i64 0, .int .i64 0, .int .i64 0, .nils])])) (fun m => m ≤ S.objects.length ∧ rvO S R m (S.objects.drop m) = x) (fun m => S.objects.length - m) 0 ⟨Nat.zero_le _, hx0⟩ les leh (fun m hm => ?_)
  obtain ⟨hm, hx⟩ := hm
  rcases Nat.lt_or_eq_of_le hm with hml | hml
  · have c1 := fun i r o ho => spoilt_fn S h i r m hml o ho
    have hRm := hR m hml
    obtain ⟨o, ho⟩ : ∃ o, S.objects.getD m default = o := ⟨_, rfl⟩
    have e : S.objects[m] = o := by rw [← ho, List.getD_eq_getElem?_getD, List.getElem?_eq_getElem hml, Option.getD_some]
    have h3 := hrl m
    rw [ho] at h3 hRm
    rw [List.drop_eq_getElem_cons hml, e, rvO] at hx
    obtain ⟨b, hb⟩ : ∃ b, rvR S R o m o.readers = b := ⟨_, rfl⟩
    rw [hb] at hx
    obtain ⟨l, hl⟩ : ∃ l, o.readers = l := ⟨_, rfl⟩
    rw [hl] at hb h3 hRm
    repeat' (first | (show W _ _ _ _ _ _; first | apply kA | refine kB rfl ?_ | refine kC rfl rfl ?_ | refine kD rfl rfl ?_ | apply kE | apply kF | apply kG | apply kH | refine kI (by kernel_rfl) (by kernel_rfl) ?_) | (show O _ _ _ _ _ _ _; first | (show O _ _ _ _ (⟨_, .alloc _, _, _, _, _⟩ :: _) _ _; first | refine ao_alloc (id := 11) rfl rfl rfl rfl rfl rfl rfl ?_) | (show O _ _ _ _ (⟨_, .store _ _ _, _, _, _, _⟩ :: _) _ _; refine kJ rfl rfl rfl rfl rfl rfl rfl rfl rfl rfl rfl ?_) | apply kK) | apply kL | ((first | apply kM | apply kN); (iterate 3 (· exact rfl)); (· first | (show Y _ ⟨_, .indexAddr _ _ _, _, _, _, _⟩ _ _ _; first | exact Y.mk (ok_indexE (ho) rfl rfl rfl rfl rfl (by omega))) | exact ya)) | refine kO rfl rfl rfl rfl rfl ?_ | refine kP rfl rfl rfl ?_ | ((first | refine kQ rfl rfl ?_ ?_ | refine kR rfl rfl rfl rfl rfl ?_ ?_ | refine kS rfl rfl rfl ?_ ?_) <;> intro hc <;> (try simp only [KL, cond_true, cond_false, beq_iff_eq, bne_iff_ne, ne_eq, reduceCtorEq] at hc) <;> (try (have hT : True := hc; clear hT hc)) <;> (try (exfalso; omega))) | apply kT | apply kU | apply kV | apply kW | refine kX rfl ?_ | apply kY | apply kZ)
    all_goals first | (exfalso; omega) | skip
    refine wloop (fun j : Nat => ([(1, .lst 1 (R.map eI)), (2, .ref (eSystem S)), (4, .ptr 10 0), (5, .int .i64 m), (12, .lst 8 (S.objects.map eObject)), (13, .int .i64 S.objects.length), (14, .int .i64 m), (20, .lst 1 (l.map eI)), (21, .int .i64 l.length), (22, .int .i64 j)], [(10, .blk 60 [.int .i64 0, .int .i64 0, .int .i64 0, .nils])])) (fun j => j ≤ l.length ∧ rvR S R o m (l.drop j) = b) (fun j => l.length - j) 0 ⟨Nat.zero_le _, hb⟩ (by rw [← hl]; exact les) leh (fun j hj => ?_)
    obtain ⟨hj, hy⟩ := hj
    rcases Nat.lt_or_eq_of_le hj with hjl | hjl
    · obtain ⟨i, hi⟩ : ∃ i, l.getD j default = i := ⟨_, rfl⟩
      have e2 : l[j] = i := by rw [← hi, List.getD_eq_getElem?_getD, List.getElem?_eq_getElem hjl, Option.getD_some]
      have hib := hRm i (hi ▸ getD_mem hjl)
      rw [List.drop_eq_getElem_cons hjl, e2, rvR] at hy
      obtain ⟨q, rfl⟩ : ∃ q : Nat, i = q := ⟨i.toNat, by omega⟩
      rw [Int.toNat_natCast] at hy
      obtain ⟨r, hr⟩ : ∃ r, R.getD q default = r := ⟨_, rfl⟩
      rw [hr] at hy
      have c2 := c1 q r o ho
      have c3 := verdict_fn (spoilO S o q m r) q m
      by_cases hf : spoilO S o q m r = 0
      · rw [if_pos hf] at hy
        rw [hf] at c2
        repeat' (first | (show W _ _ _ _ _ _; first | apply kA | refine kB rfl ?_ | refine kC rfl rfl ?_ | refine kD rfl rfl ?_ | apply kE | apply kF | apply kG | apply kH | refine kI (by kernel_rfl) (by kernel_rfl) ?_) | (show O _ _ _ _ _ _ _; first | (show O _ _ _ _ (⟨_, .store _ _ _, _, _, _, _⟩ :: _) _ _; refine kJ rfl rfl rfl rfl rfl rfl rfl rfl rfl rfl rfl ?_) | apply kK) | apply kL | ((first | apply kM | apply kN); (iterate 3 (· exact rfl)); (· first | (show Y _ ⟨_, .indexAddr _ _ _, _, _, _, _⟩ _ _ _; first | exact Y.mk (ok_indexE (hi) rfl rfl rfl rfl rfl (by omega)) | exact Y.mk (ok_indexE (hr) rfl rfl rfl rfl rfl (by omega))) | (show Y _ ⟨_, .call ⟨.value _, _, _⟩, _, _, _, _⟩ _ _ _; first | exact q_c (c2) rfl) | exact ya)) | refine kO rfl rfl rfl rfl rfl ?_ | refine kP rfl rfl rfl ?_ | ((first | refine kQ rfl rfl ?_ ?_ | refine kR rfl rfl rfl rfl rfl ?_ ?_ | refine kS rfl rfl rfl ?_ ?_) <;> intro hc <;> (try simp only [KL, cond_true, cond_false, beq_iff_eq, bne_iff_ne, ne_eq, reduceCtorEq] at hc) <;> (try (have hT : True := hc; clear hT hc)) <;> (try (exfalso; omega))) | apply kT | apply kU | apply kV | apply kW | refine kX rfl ?_ | apply kY | apply kZ)
        all_goals first | (exfalso; omega) | exact ⟨j + 1, ⟨by omega, hy⟩, by omega, les, leh⟩
      · rw [if_neg hf] at hy
        subst hy
        rw [if_neg hf] at hx
        subst hx
        rw [if_pos hf]
        generalize spoilO S o q m r = sp at *
        repeat' (first | (show W _ _ _ _ _ _; first | apply kA | refine kB rfl ?_ | refine kC rfl rfl ?_ | refine kD rfl rfl ?_ | apply kE | apply kF | apply kG | apply kH | refine kI (by kernel_rfl) (by kernel_rfl) ?_) | (show O _ _ _ _ _ _ _; first | (show O _ _ _ _ (⟨_, .store _ _ _, _, _, _, _⟩ :: _) _ _; refine kJ rfl rfl rfl rfl rfl rfl rfl rfl rfl rfl rfl ?_) | apply kK) | apply kL | ((first | apply kM | apply kN); (iterate 3 (· exact rfl)); (· first | (show Y _ ⟨_, .indexAddr _ _ _, _, _, _, _⟩ _ _ _; first | exact Y.mk (ok_indexE (hi) rfl rfl rfl rfl rfl (by omega)) | exact Y.mk (ok_indexE (hr) rfl rfl rfl rfl rfl (by omega))) | (show Y _ ⟨_, .call ⟨.value _, _, _⟩, _, _, _, _⟩ _ _ _; first | exact q_c (c2) rfl | exact q_c (c3) rfl) | exact ya)) | refine kO rfl rfl rfl rfl rfl ?_ | refine kP rfl rfl rfl ?_ | ((first | refine kQ rfl rfl ?_ ?_ | refine kR rfl rfl rfl rfl rfl ?_ ?_ | refine kS rfl rfl rfl ?_ ?_) <;> intro hc <;> (try simp only [KL, cond_true, cond_false, beq_iff_eq, bne_iff_ne, ne_eq, reduceCtorEq] at hc) <;> (try (have hT : True := hc; clear hT hc)) <;> (try (exfalso; omega))) | apply kT | apply kU | apply kV | apply kW | refine kX rfl ?_ | apply kY | apply kZ)
        all_goals first | (exfalso; omega) | exact retq rfl rfl
    · subst hjl
      rw [List.drop_length, rvR] at hy
      subst hy
      rw [if_pos rfl] at hx
      repeat' (first | (show W _ _ _ _ _ _; first | apply kA | refine kB rfl ?_ | refine kC rfl rfl ?_ | refine kD rfl rfl ?_ | apply kE | apply kF | apply kG | apply kH | refine kI (by kernel_rfl) (by kernel_rfl) ?_) | (show O _ _ _ _ _ _ _; first | (show O _ _ _ _ (⟨_, .store _ _ _, _, _, _, _⟩ :: _) _ _; refine kJ rfl rfl rfl rfl rfl rfl rfl rfl rfl rfl rfl ?_) | apply kK) | apply kL | ((first | apply kM | apply kN); (iterate 3 (· exact rfl)); (· first | exact ya)) | refine kO rfl rfl rfl rfl rfl ?_ | refine kP rfl rfl rfl ?_ | ((first | refine kQ rfl rfl ?_ ?_ | refine kR rfl rfl rfl rfl rfl ?_ ?_ | refine kS rfl rfl rfl ?_ ?_) <;> intro hc <;> (try simp only [KL, cond_true, cond_false, beq_iff_eq, bne_iff_ne, ne_eq, reduceCtorEq] at hc) <;> (try (have hT : True := hc; clear hT hc)) <;> (try (exfalso; omega))) | apply kT | apply kU | apply kV | apply kW | refine kX rfl ?_ | apply kY | apply kZ)
      all_goals first | (exfalso; omega) | exact ⟨m + 1, ⟨by omega, hx⟩, by omega, les, leh⟩
  · subst hml
    rw [List.drop_length, rvO] at hx
    subst hx
    rw [if_neg (by simp)]
    have c3 := verdict_fn 0 (-1) (-1)
    repeat' (first | (show W _ _ _ _ _ _; first | apply kA | refine kB rfl ?_ | refine kC rfl rfl ?_ | refine kD rfl rfl ?_ | apply kE | apply kF | apply kG | apply kH | refine kI (by kernel_rfl) (by kernel_rfl) ?_) | (show O _ _ _ _ _ _ _; first | (show O _ _ _ _ (⟨_, .alloc _, _, _, _, _⟩ :: _) _ _; first | refine ao_alloc (id := 12) rfl rfl rfl rfl rfl rfl rfl ?_) | (show O _ _ _ _ (⟨_, .store _ _ _, _, _, _, _⟩ :: _) _ _; refine kJ rfl rfl rfl rfl rfl rfl rfl rfl rfl rfl rfl ?_) | apply kK) | apply kL | ((first | apply kM | apply kN); (iterate 3 (· exact rfl)); (· first | (show Y _ ⟨_, .call ⟨.value _, _, _⟩, _, _, _, _⟩ _ _ _; first | exact q_c (c3) rfl) | exact ya)) | refine kO rfl rfl rfl rfl rfl ?_ | refine kP rfl rfl rfl ?_ | ((first | refine kQ rfl rfl ?_ ?_ | refine kR rfl rfl rfl rfl rfl ?_ ?_ | refine kS rfl rfl rfl ?_ ?_) <;> intro hc <;> (try simp only [KL, cond_true, cond_false, beq_iff_eq, bne_iff_ne, ne_eq, reduceCtorEq] at hc) <;> (try (have hT : True := hc; clear hT hc)) <;> (try (exfalso; omega))) | apply kT | apply kU | apply kV | apply kW | refine kX rfl ?_ | apply kY | apply kZ)
    all_goals first | (exfalso; omega) | exact retq rfl rfl
theorem apart_all {l : List Int} : ∀ n, apartTo l n = true → ∀ j, j < n → inB l j = true
  | 0, _, j, hj => by omega
  | n + 1, h, j, hj => by
    rw [apartTo, Bool.and_eq_true] at h
    by_cases e : j = n
    · subst e; exact h.2
    · exact apart_all n h.1 j (by omega)
theorem bindO_all (n k : Nat) : ∀ l, (bindO n k l).2.2 = 0 → ∀ i ∈ l, i < n
  | [], _ => fun i hi => by cases hi
  | i :: l, h => by
    rw [bindO] at h
    by_cases hf : (n : Int) ≤ i
    · rw [if_pos hf] at h; simp at h
    · rw [if_neg hf] at h
      intro x hx
      rcases List.mem_cons.1 hx with rfl | hx
      · omega
      · exact bindO_all n k l h x hx
theorem objB_all (n : Nat) : ∀ (k : Nat) (l : List Object), (objB n k l).2.2 = 0 → ∀ o ∈ l, ∀ i ∈ tasksO o, i < n
  | _, [], _ => fun o ho => by cases ho
  | k, o :: l, h => by
    rw [objB] at h
    by_cases hr : (bindO n k (tasksO o)).2.2 = 0
    · rw [if_pos hr] at h
      intro x hx
      rcases List.mem_cons.1 hx with rfl | hx
      · exact bindO_all n k _ hr
      · exact objB_all n _ l h x hx
    · rw [if_neg hr] at h; exact absurd h hr
theorem objF_in {S : System} (h : (objF S).2.2 = 0) : ∀ o ∈ S.objects, ∀ i ∈ tasksO o, 0 ≤ i ∧ i < S.tasks.length := fun o ho i hi => by
  have h1 := objF_all h o ho
  rw [objF] at h
  by_cases h2 : (objR 0 S.objects).2.2 = 0
  · rw [if_pos h2] at h
    refine ⟨?_, objB_all _ _ _ h o ho i hi⟩
    rw [rightA, Bool.and_eq_true] at h1
    obtain ⟨j, hj, rfl⟩ := List.getElem_of_mem hi
    have := apart_all _ h1.2 j hj
    rw [inB, Bool.and_eq_true, decide_eq_true_eq] at this
    have h3 := this.1.1
    simpa [hj] using h3
  · rw [if_neg h2] at h; exact absurd h h2
theorem sys_ok {S : System} (h : (sysF S).2.2.2 = 0) : (1 ≤ S.tasks.length ∧ S.tasks.length ≤ 8 ∧ S.objects.length ≤ 8) ∧ (tasksF 0 S.tasks).2.2 = 0 ∧ (objF S).2.2 = 0 ∧ (codeF S 0 S.tasks).2.2.2 = 0 ∧ layE S = 0 := by
  by_cases h0 : S.tasks.length = 0 ∨ 8 < S.tasks.length ∨ 8 < S.objects.length
  · rw [sysF, if_pos h0] at h; simp at h
  by_cases h1 : (tasksF 0 S.tasks).2.2 = 0
  case neg => rw [sys_task h0 h1] at h; exact absurd h h1
  by_cases h2 : (objF S).2.2 = 0
  case neg => rw [sys_obj h0 h1 h2] at h; exact absurd h h2
  by_cases h3 : (codeF S 0 S.tasks).2.2.2 = 0
  case neg => rw [sys_code h0 h1 h2 h3] at h; exact absurd h h3
  rw [sys_lay h0 h1 h2 h3] at h
  exact ⟨by omega, h1, h2, h3, h⟩
theorem sys_readers {S : System} (h : (sysF S).2.2.2 = 0) {n : Nat} (hn : n = S.tasks.length) : ∀ k : Nat, k < S.objects.length → ∀ i ∈ (S.objects.getD k default).readers, 0 ≤ i ∧ i < n := fun k hk i hi => by
  subst hn
  exact objF_in (sys_ok h).2.2.1 _ (getD_mem hk) i (List.mem_cons_of_mem _ hi)
theorem check40_fn (S : System) (h : OkS S) : Fn Tryz.prog 46 [.agg (eSystem S)] (.agg (eV (verd S))) := by
  have h1 := h.tl
  have c1 := check32_fn S h
  have c2 := hopeless_fn S h
  have c3 := all_fn S h
  have hok := allN_ok S S.tasks.length
  have hrd := fun e => sys_readers (S := S) e (n := (allI S).R.length)
  have c4 := fun e1 e2 => reads40_fn S h (allI S).R (hrd e1 e2)
  refine fnb Tryz.func46 (entered_of (by kernel_rfl)) rfl rfl rfl ?_
  change (allI S).e = 0 → (allI S).R.length = S.tasks.length ∧ (allI S).C.length = S.tasks.length ∧ (allI S).at_ = -1 at hok
  rw [verd]
  generalize sysF S = z at *
  obtain ⟨z1, z2, z3, z4⟩ := z
  generalize hopeV S = w at *
  obtain ⟨w1, w2, w3⟩ := w
  dsimp only at *
  by_cases hz : z4 = 0
  case neg =>
    rw [if_pos hz]
    have c5 := verdict_fn z4 z1 z2
    repeat' (first | (show W _ _ _ _ _ _; first | apply kA | refine kB rfl ?_ | refine kC rfl rfl ?_ | refine kD rfl rfl ?_ | apply kE | apply kF | apply kG | apply kH | refine kI (by kernel_rfl) (by kernel_rfl) ?_) | (show O _ _ _ _ _ _ _; first | (show O _ _ _ _ (⟨_, .alloc _, _, _, _, _⟩ :: _) _ _; first | refine ao_alloc (id := 10) rfl rfl rfl rfl rfl rfl rfl ?_ | refine ao_alloc (id := 11) rfl rfl rfl rfl rfl rfl rfl ?_) | (show O _ _ _ _ (⟨_, .store _ _ _, _, _, _, _⟩ :: _) _ _; refine kJ rfl rfl rfl rfl rfl rfl rfl rfl rfl rfl rfl ?_) | apply kK) | apply kL | ((first | apply kM | apply kN); (iterate 3 (· exact rfl)); (· first | (show Y _ ⟨_, .call ⟨.value _, _, _⟩, _, _, _, _⟩ _ _ _; first | exact q_c (c1) rfl | exact q_c (c5) rfl) | exact ya)) | refine kO rfl rfl rfl rfl rfl ?_ | refine kP rfl rfl rfl ?_ | ((first | refine kQ rfl rfl ?_ ?_ | refine kR rfl rfl rfl rfl rfl ?_ ?_ | refine kS rfl rfl rfl ?_ ?_) <;> intro hc <;> (try simp only [KL, cond_true, cond_false, beq_iff_eq, bne_iff_ne, ne_eq, reduceCtorEq] at hc) <;> (try (have hT : True := hc; clear hT hc)) <;> (try (exfalso; omega))) | apply kT | apply kU | apply kV | apply kW | refine kX rfl ?_ | apply kY | apply kZ)
    all_goals first | (exfalso; omega) | exact retq rfl rfl
  subst hz
  rw [if_neg (by simp)]
  cases w3
  case true =>
    rw [if_pos rfl]
    have c5 := verdict_fn 12 w1 w2
    repeat' (first | (show W _ _ _ _ _ _; first | apply kA | refine kB rfl ?_ | refine kC rfl rfl ?_ | refine kD rfl rfl ?_ | apply kE | apply kF | apply kG | apply kH | refine kI (by kernel_rfl) (by kernel_rfl) ?_) | (show O _ _ _ _ _ _ _; first | (show O _ _ _ _ (⟨_, .alloc _, _, _, _, _⟩ :: _) _ _; first | refine ao_alloc (id := 10) rfl rfl rfl rfl rfl rfl rfl ?_ | refine ao_alloc (id := 11) rfl rfl rfl rfl rfl rfl rfl ?_) | (show O _ _ _ _ (⟨_, .store _ _ _, _, _, _, _⟩ :: _) _ _; refine kJ rfl rfl rfl rfl rfl rfl rfl rfl rfl rfl rfl ?_) | apply kK) | apply kL | ((first | apply kM | apply kN); (iterate 3 (· exact rfl)); (· first | (show Y _ ⟨_, .call ⟨.value _, _, _⟩, _, _, _, _⟩ _ _ _; first | exact q_c (c1) rfl | exact q_c (c2) rfl | exact q_c (c5) rfl) | exact ya)) | refine kO rfl rfl rfl rfl rfl ?_ | refine kP rfl rfl rfl ?_ | ((first | refine kQ rfl rfl ?_ ?_ | refine kR rfl rfl rfl rfl rfl ?_ ?_ | refine kS rfl rfl rfl ?_ ?_) <;> intro hc <;> (try simp only [KL, cond_true, cond_false, beq_iff_eq, bne_iff_ne, ne_eq, reduceCtorEq] at hc) <;> (try (have hT : True := hc; clear hT hc)) <;> (try (exfalso; omega))) | apply kT | apply kU | apply kV | apply kW | refine kX rfl ?_ | apply kY | apply kZ)
    all_goals first | (exfalso; omega) | exact retq rfl rfl
  rw [if_neg (by simp)]
  by_cases ha : (allI S).e = 0
  case neg =>
    rw [if_pos ha]
    have c5 := verdict_fn (allI S).e (allI S).at_ (-1)
    generalize allI S = a at *
    obtain ⟨R, C, at0, e0⟩ := a
    dsimp only at *
    repeat' (first | (show W _ _ _ _ _ _; first | apply kA | refine kB rfl ?_ | refine kC rfl rfl ?_ | refine kD rfl rfl ?_ | apply kE | apply kF | apply kG | apply kH | refine kI (by kernel_rfl) (by kernel_rfl) ?_) | (show O _ _ _ _ _ _ _; first | (show O _ _ _ _ (⟨_, .alloc _, _, _, _, _⟩ :: _) _ _; first | refine ao_alloc (id := 10) rfl rfl rfl rfl rfl rfl rfl ?_ | refine ao_alloc (id := 11) rfl rfl rfl rfl rfl rfl rfl ?_) | (show O _ _ _ _ (⟨_, .store _ _ _, _, _, _, _⟩ :: _) _ _; refine kJ rfl rfl rfl rfl rfl rfl rfl rfl rfl rfl rfl ?_) | apply kK) | apply kL | ((first | apply kM | apply kN); (iterate 3 (· exact rfl)); (· first | (show Y _ ⟨_, .call ⟨.value _, _, _⟩, _, _, _, _⟩ _ _ _; first | exact q_c (c1) rfl | exact q_c (c2) rfl | exact q_c (c3) rfl | exact q_c (c5) rfl) | exact ya)) | refine kO rfl rfl rfl rfl rfl ?_ | refine kP rfl rfl rfl ?_ | ((first | refine kQ rfl rfl ?_ ?_ | refine kR rfl rfl rfl rfl rfl ?_ ?_ | refine kS rfl rfl rfl ?_ ?_) <;> intro hc <;> (try simp only [KL, cond_true, cond_false, beq_iff_eq, bne_iff_ne, ne_eq, reduceCtorEq] at hc) <;> (try (have hT : True := hc; clear hT hc)) <;> (try (exfalso; omega))) | apply kT | apply kU | apply kV | apply kW | refine kX rfl ?_ | apply kY | apply kZ)
    all_goals first | (exfalso; omega) | exact retq rfl rfl
  rw [if_neg (by simpa using ha)]
  obtain ⟨q1, q2, q3⟩ := hok ha
  have c4 := c4 rfl q1 (by omega)
  rw [ha] at c3
  generalize (if (rvO S (allI S).R 0 S.objects).1 ≠ 0 then (⟨(rvO S (allI S).R 0 S.objects).1, (rvO S (allI S).R 0 S.objects).2.1, (rvO S (allI S).R 0 S.objects).2.2, []⟩ : Vd) else ⟨0, -1, -1, (allI S).R⟩) = vd at *
  repeat' (first | (show W _ _ _ _ _ _; first | apply kA | refine kB rfl ?_ | refine kC rfl rfl ?_ | refine kD rfl rfl ?_ | apply kE | apply kF | apply kG | apply kH | refine kI (by kernel_rfl) (by kernel_rfl) ?_) | (show O _ _ _ _ _ _ _; first | (show O _ _ _ _ (⟨_, .alloc _, _, _, _, _⟩ :: _) _ _; first | refine ao_alloc (id := 10) rfl rfl rfl rfl rfl rfl rfl ?_ | refine ao_alloc (id := 11) rfl rfl rfl rfl rfl rfl rfl ?_) | (show O _ _ _ _ (⟨_, .store _ _ _, _, _, _, _⟩ :: _) _ _; refine kJ rfl rfl rfl rfl rfl rfl rfl rfl rfl rfl rfl ?_) | apply kK) | apply kL | ((first | apply kM | apply kN); (iterate 3 (· exact rfl)); (· first | (show Y _ ⟨_, .call ⟨.value _, _, _⟩, _, _, _, _⟩ _ _ _; first | exact q_c (c1) rfl | exact q_c (c2) rfl | exact q_c (c3) rfl | exact q_c (c4) rfl) | exact ya)) | refine kO rfl rfl rfl rfl rfl ?_ | refine kP rfl rfl rfl ?_ | ((first | refine kQ rfl rfl ?_ ?_ | refine kR rfl rfl rfl rfl rfl ?_ ?_ | refine kS rfl rfl rfl ?_ ?_) <;> intro hc <;> (try simp only [KL, cond_true, cond_false, beq_iff_eq, bne_iff_ne, ne_eq, reduceCtorEq] at hc) <;> (try (have hT : True := hc; clear hT hc)) <;> (try (exfalso; omega))) | apply kT | apply kU | apply kV | apply kW | refine kX rfl ?_ | apply kY | apply kZ)
  all_goals first | (exfalso; omega) | exact retq rfl rfl
theorem admits_fn (S : System) (h : OkS S) : Fn Tryz.prog 47 [.agg (eSystem S)] (.bool (decide ((verd S).e = 0))) := by
  have c1 := check40_fn S h
  generalize verd S = v at *
  obtain ⟨e, i, k, R⟩ := v
  dsimp only at *
  refine fnb Tryz.func47 (entered_of (by kernel_rfl)) rfl rfl rfl ?_
  repeat' (first | (show W _ _ _ _ _ _; first | apply kA | refine kB rfl ?_ | refine kC rfl rfl ?_ | refine kD rfl rfl ?_ | apply kE | apply kF | apply kG | apply kH | refine kI (by kernel_rfl) (by kernel_rfl) ?_) | (show O _ _ _ _ _ _ _; first | (show O _ _ _ _ (⟨_, .store _ _ _, _, _, _, _⟩ :: _) _ _; refine kJ rfl rfl rfl rfl rfl rfl rfl rfl rfl rfl rfl ?_) | apply kK) | apply kL | ((first | apply kM | apply kN); (iterate 3 (· exact rfl)); (· first | (show Y _ ⟨_, .call ⟨.value _, _, _⟩, _, _, _, _⟩ _ _ _; first | exact q_c (c1) rfl) | exact ya)) | refine kO rfl rfl rfl rfl rfl ?_ | refine kP rfl rfl rfl ?_ | ((first | refine kQ rfl rfl ?_ ?_ | refine kR rfl rfl rfl rfl rfl ?_ ?_ | refine kS rfl rfl rfl ?_ ?_) <;> intro hc <;> (try simp only [KL, cond_true, cond_false, beq_iff_eq, bne_iff_ne, ne_eq, reduceCtorEq] at hc) <;> (try (have hT : True := hc; clear hT hc)) <;> (try (exfalso; omega))) | apply kT | apply kU | apply kV | apply kW | refine kX rfl ?_ | apply kY | apply kZ)
  all_goals exact retq rfl rfl
end Go.Proofs.YtkkmageogkkchaaGreat
