/- Objects: which may be, how many words they have, how many steps their operations make at most. No condition. -/
import Derived.Test.YtkkmageogkkchaaGreatT6
import Derived.Test.YtkkmageogkkchaaGreatT7
import Derived.Test.YtkkmageogkkchaaGreatT9
import Derived.Test.YtkkmageogkkchaaGreatT8
set_option linter.unusedSimpArgs false
set_option linter.unusedVariables false
set_option maxHeartbeats 1000000
namespace Go.Proofs.YtkkmageogkkchaaGreat
set_option maxRecDepth 100000
set_option maxRecDepth 100000
open Go.RowKit
def nR (o : Object) : Int := o.readers.length
def rightP (o : Object) : Prop := (1 ≤ o.width ∧ o.width ≤ 8 ∧ 1 ≤ (o.readers.length : Int) ∧ (o.readers.length : Int) ≤ 4) ∧
  ((o.kind = 1 ∧ (o.init.length : Int) = o.width ∧ o.slots = 0 ∧ o.cap = 0 ∧ o.start = 0 ∧ (o.readers.length : Int) = 1) ∨
   (o.kind = 2 ∧ (o.init.length : Int) = o.width ∧ o.slots = 0 ∧ o.cap = 0 ∧ o.start = 0) ∨
   (o.kind = 3 ∧ (o.init.length : Int) = o.width ∧ o.slots = 0 ∧ (1 ≤ o.cap ∧ o.cap ≤ 16) ∧ o.start % 2 = 0) ∨
   (o.kind = 4 ∧ (o.init.length : Int) = o.width ∧ 2 ≤ o.slots ∧ o.slots ≤ 16 ∧ (1 ≤ o.cap ∧ o.cap ≤ 16) ∧ o.start < o.slots * 1048576) ∨
   (o.kind = 5 ∧ (o.init.length : Int) = o.width ∧ (o.readers.length : Int) + 2 ≤ o.slots ∧ o.slots ≤ 16 ∧ (1 ≤ o.cap ∧ o.cap ≤ 16) ∧ o.start = 0) ∨
   (o.kind = 6 ∧ (o.init.length : Int) = 0 ∧ 1 ≤ o.slots ∧ o.slots ≤ 16 ∧ o.cap = 0 ∧ o.start < 2 * o.slots ∧ (o.readers.length : Int) = 1))
instance (o : Object) : Decidable (rightP o) := by unfold rightP; infer_instance
def rightO (o : Object) : Bool := decide (rightP o)
def rightK (k : Int) (o : Object) : Bool := decide (o.kind = k ∧ rightP o)
def sizeK (o : Object) : Int := if o.kind = 1 then 4 + 4 * o.width else if o.kind = 2 then 1 + (o.readers.length : Int) + ((o.readers.length : Int) + 2) * o.width else if o.kind = 3 then 1 + o.width else
  if o.kind = 4 then 1 + o.slots * o.width else if o.kind = 5 then 1 + (o.readers.length : Int) + o.slots * o.width else 2 + o.slots * o.width
def sizeO (o : Object) : Int := if rightP o then sizeK o else 0
def wrO (k : Int) : Int := if k = 6 then 3 else 2
def rdO (k : Int) : Int := if k = 6 then 4 else 1
def boundK (o : Object) (w : Bool) : Int :=
  if o.kind = 1 then (if w then o.width + 4 else o.width + 3) else if o.kind = 2 then (if w then o.width + 2 * (o.readers.length : Int) + 2 else o.width + 4) else
  if o.kind = 3 then (if w then o.width + 3 else o.cap * (o.width + 2)) else if o.kind = 4 then (if w then o.width + 2 else o.cap * (o.width + 2)) else
  if o.kind = 5 then (if w then o.width + (o.readers.length : Int) + 2 else 3 * o.cap + o.width + 1) else o.width + 3
def boundO (o : Object) (op : Int) : Int := if rightP o ∧ (op = wrO o.kind ∨ op = rdO o.kind) then boundK o (decide (op = wrO o.kind)) else 0
theorem prodB {a b : Int} (h1 : 0 ≤ a) (h2 : a ≤ 16) (h3 : 1 ≤ b) (h4 : b ≤ 10) : 0 ≤ a * b ∧ a * b ≤ 160 := by
  refine ⟨Int.mul_nonneg h1 (by omega), ?_⟩
  have := Int.mul_le_mul h2 h4 (by omega) (by omega)
  omega
theorem wobj {P : Program} {n : Md} {c : Code} {Q : Exit → Slots → Heap → Prop} {s : Slots} {h : Heap} (t : Nat) {o : Object} (hg : get s t = .agg (eObject o)) (hk : 0 ≤ o.start ∧ o.start ≤ 4294967295 → W P n c Q s h) : W P n c Q s h :=
  wagg t hg fun hm => hk (hm .u32 o.start (by simp [eObject]))
theorem words_fn (o : Object) (k n : Int) : Fn Tryz.prog 149 [.agg (eObject o), .int .i64 k, .int .i64 n] (.bool (decide (o.kind = k ∧ 1 ≤ o.width ∧ o.width ≤ 8 ∧ (o.init.length : Int) = n ∧ 1 ≤ (o.readers.length : Int) ∧ (o.readers.length : Int) ≤ 4))) := by
  refine fnb Tryz.func149 (entered_of (by kernel_rfl)) rfl rfl rfl ?_
  repeat' (first | refine sA ?_ | ((first | apply kM | apply kN); (iterate 3 (· exact rfl)); (· first | exact ya)) | refine sG ?_ | (refine sK ?_ ?_ <;> intro hc <;> (try simp only [KL, sL, reduceCtorEq] at hc) <;> (try (exfalso; omega))))
  all_goals first | (exfalso; omega) | exact retq rfl (congrArg AV.bool (by rw [Bool.eq_iff_iff]; (try simp only [cond_true, cond_false, decide_eq_true_eq, Bool.not_eq_true', decide_eq_false_iff_not, Bool.and_eq_true, Bool.or_eq_true, true_iff, false_iff, iff_true, iff_false, Bool.false_eq_true, Bool.not_true, Bool.not_false, reduceCtorEq]); (first | done | omega | (constructor <;> intros <;> omega))))
theorem caps_fn (o : Object) : Fn Tryz.prog 150 [.agg (eObject o)] (.bool (decide (1 ≤ o.cap ∧ o.cap ≤ 16))) := by
  refine fnb Tryz.func150 (entered_of (by kernel_rfl)) rfl rfl rfl ?_
  repeat' (first | refine sA ?_ | ((first | apply kM | apply kN); (iterate 3 (· exact rfl)); (· first | exact ya)) | refine sG ?_ | (refine sK ?_ ?_ <;> intro hc <;> (try simp only [KL, sL, reduceCtorEq] at hc) <;> (try (exfalso; omega))))
  all_goals first | (exfalso; omega) | exact retq rfl (congrArg AV.bool (by rw [Bool.eq_iff_iff]; (try simp only [cond_true, cond_false, decide_eq_true_eq, Bool.not_eq_true', decide_eq_false_iff_not, Bool.and_eq_true, Bool.or_eq_true, true_iff, false_iff, iff_true, iff_false, Bool.false_eq_true, Bool.not_true, Bool.not_false, reduceCtorEq]); (first | done | omega | (constructor <;> intros <;> omega))))
theorem rmod_fn (o : Object) (h : 0 ≤ o.slots ∧ o.slots ≤ 16) : Fn Tryz.prog 151 [.agg (eObject o)] (.int .u32 (o.slots * 1048576)) := by
  refine fnb Tryz.func151 (entered_of (by kernel_rfl)) rfl rfl rfl ?_
  repeat' (first | refine sA ?_ | ((first | apply kM | apply kN); (iterate 3 (· exact rfl)); (· first | exact ya)) | refine sG ?_ | (refine sK ?_ ?_ <;> intro hc <;> (try simp only [KL, sL, reduceCtorEq] at hc) <;> (try (exfalso; omega))))
  exact retq rfl rfl
theorem fmod_fn (o : Object) (h : 0 ≤ o.slots ∧ o.slots ≤ 16) : Fn Tryz.prog 152 [.agg (eObject o)] (.int .u32 (2 * o.slots)) := by
  refine fnb Tryz.func152 (entered_of (by kernel_rfl)) rfl rfl rfl ?_
  repeat' (first | refine sA ?_ | ((first | apply kM | apply kN); (iterate 3 (· exact rfl)); (· first | exact ya)) | refine sG ?_ | (refine sK ?_ ?_ <;> intro hc <;> (try simp only [KL, sL, reduceCtorEq] at hc) <;> (try (exfalso; omega))))
  exact retq rfl rfl
theorem four_fn (o : Object) : Fn Tryz.prog 111 [.agg (eObject o)] (.bool (rightK 1 o)) := by
  refine fnb Tryz.func111 (entered_of (by kernel_rfl)) rfl rfl rfl ?_
  refine wobj 0 rfl (fun hst => ?_)
  have c1 := words_fn o 1 o.width
  have c2 := caps_fn o
  have c3 := rmod_fn o
  have c4 := fmod_fn o
  repeat' (first | refine sA ?_ | ((first | apply kM | apply kN); (iterate 3 (· exact rfl)); (· first | exact ya | exact q_c (c1) rfl | exact q_c (c2) rfl | exact q_c (c3 (by omega)) rfl | exact q_c (c4 (by omega)) rfl)) | refine sG ?_ | (refine sK ?_ ?_ <;> intro hc <;> (try simp only [KL, sL, reduceCtorEq] at hc) <;> (try (exfalso; omega))))
  all_goals first | (exfalso; omega) | exact retq rfl (congrArg AV.bool (by rw [Bool.eq_iff_iff]; simp only [rightK, cond_true, cond_false, decide_eq_true_eq, Bool.false_eq_true, false_iff, true_iff]; simp only [rightP]; omega))
theorem chen_fn (o : Object) : Fn Tryz.prog 112 [.agg (eObject o)] (.bool (rightK 2 o)) := by
  refine fnb Tryz.func112 (entered_of (by kernel_rfl)) rfl rfl rfl ?_
  refine wobj 0 rfl (fun hst => ?_)
  have c1 := words_fn o 2 o.width
  have c2 := caps_fn o
  have c3 := rmod_fn o
  have c4 := fmod_fn o
  repeat' (first | refine sA ?_ | ((first | apply kM | apply kN); (iterate 3 (· exact rfl)); (· first | exact ya | exact q_c (c1) rfl | exact q_c (c2) rfl | exact q_c (c3 (by omega)) rfl | exact q_c (c4 (by omega)) rfl)) | refine sG ?_ | (refine sK ?_ ?_ <;> intro hc <;> (try simp only [KL, sL, reduceCtorEq] at hc) <;> (try (exfalso; omega))))
  all_goals first | (exfalso; omega) | exact retq rfl (congrArg AV.bool (by rw [Bool.eq_iff_iff]; simp only [rightK, cond_true, cond_false, decide_eq_true_eq, Bool.false_eq_true, false_iff, true_iff]; simp only [rightP]; omega))
theorem seq_fn (o : Object) : Fn Tryz.prog 113 [.agg (eObject o)] (.bool (rightK 3 o)) := by
  refine fnb Tryz.func113 (entered_of (by kernel_rfl)) rfl rfl rfl ?_
  refine wobj 0 rfl (fun hst => ?_)
  have c1 := words_fn o 3 o.width
  have c2 := caps_fn o
  have c3 := rmod_fn o
  have c4 := fmod_fn o
  repeat' (first | refine sA ?_ | ((first | apply kM | apply kN); (iterate 3 (· exact rfl)); (· first | exact ya | exact q_c (c1) rfl | exact q_c (c2) rfl | exact q_c (c3 (by omega)) rfl | exact q_c (c4 (by omega)) rfl)) | refine sG ?_ | (refine sK ?_ ?_ <;> intro hc <;> (try simp only [KL, sL, reduceCtorEq] at hc) <;> (try (exfalso; omega))))
  all_goals first | (exfalso; omega) | exact retq rfl (congrArg AV.bool (by rw [Bool.eq_iff_iff]; simp only [rightK, cond_true, cond_false, decide_eq_true_eq, Bool.false_eq_true, false_iff, true_iff]; simp only [rightP]; omega))
theorem ring_fn (o : Object) : Fn Tryz.prog 114 [.agg (eObject o)] (.bool (rightK 4 o)) := by
  refine fnb Tryz.func114 (entered_of (by kernel_rfl)) rfl rfl rfl ?_
  refine wobj 0 rfl (fun hst => ?_)
  have c1 := words_fn o 4 o.width
  have c2 := caps_fn o
  have c3 := rmod_fn o
  have c4 := fmod_fn o
  repeat' (first | refine sA ?_ | ((first | apply kM | apply kN); (iterate 3 (· exact rfl)); (· first | exact ya | exact q_c (c1) rfl | exact q_c (c2) rfl | exact q_c (c3 (by omega)) rfl | exact q_c (c4 (by omega)) rfl)) | refine sG ?_ | (refine sK ?_ ?_ <;> intro hc <;> (try simp only [KL, sL, reduceCtorEq] at hc) <;> (try (exfalso; omega))))
  all_goals first | (exfalso; omega) | exact retq rfl (congrArg AV.bool (by rw [Bool.eq_iff_iff]; simp only [rightK, cond_true, cond_false, decide_eq_true_eq, Bool.false_eq_true, false_iff, true_iff]; simp only [rightP]; omega))
theorem cab_fn (o : Object) : Fn Tryz.prog 115 [.agg (eObject o)] (.bool (rightK 5 o)) := by
  refine fnb Tryz.func115 (entered_of (by kernel_rfl)) rfl rfl rfl ?_
  refine wobj 0 rfl (fun hst => ?_)
  have c1 := words_fn o 5 o.width
  have c2 := caps_fn o
  have c3 := rmod_fn o
  have c4 := fmod_fn o
  repeat' (first | refine sA ?_ | ((first | apply kM | apply kN); (iterate 3 (· exact rfl)); (· first | exact ya | exact q_c (c1) rfl | exact q_c (c2) rfl | exact q_c (c3 (by omega)) rfl | exact q_c (c4 (by omega)) rfl)) | refine sG ?_ | (refine sK ?_ ?_ <;> intro hc <;> (try simp only [KL, sL, reduceCtorEq] at hc) <;> (try (exfalso; omega))))
  all_goals first | (exfalso; omega) | exact retq rfl (congrArg AV.bool (by rw [Bool.eq_iff_iff]; simp only [rightK, cond_true, cond_false, decide_eq_true_eq, Bool.false_eq_true, false_iff, true_iff]; simp only [rightP]; omega))
theorem fifo_fn (o : Object) : Fn Tryz.prog 116 [.agg (eObject o)] (.bool (rightK 6 o)) := by
  refine fnb Tryz.func116 (entered_of (by kernel_rfl)) rfl rfl rfl ?_
  refine wobj 0 rfl (fun hst => ?_)
  have c1 := words_fn o 6 0
  have c2 := caps_fn o
  have c3 := rmod_fn o
  have c4 := fmod_fn o
  repeat' (first | refine sA ?_ | ((first | apply kM | apply kN); (iterate 3 (· exact rfl)); (· first | exact ya | exact q_c (c1) rfl | exact q_c (c2) rfl | exact q_c (c3 (by omega)) rfl | exact q_c (c4 (by omega)) rfl)) | refine sG ?_ | (refine sK ?_ ?_ <;> intro hc <;> (try simp only [KL, sL, reduceCtorEq] at hc) <;> (try (exfalso; omega))))
  all_goals first | (exfalso; omega) | exact retq rfl (congrArg AV.bool (by rw [Bool.eq_iff_iff]; simp only [rightK, cond_true, cond_false, decide_eq_true_eq, Bool.false_eq_true, false_iff, true_iff]; simp only [rightP]; omega))
end Go.Proofs.YtkkmageogkkchaaGreat
namespace Go.Proofs.YtkkmageogkkchaaGreat
set_option maxRecDepth 100000
set_option maxRecDepth 100000
open Go.RowKit
theorem kindP {o : Object} (h : rightP o) : 1 ≤ o.kind ∧ o.kind ≤ 6 := by simp only [rightP] at h; omega
theorem szP {o : Object} (h : rightP o) : (1 ≤ o.width ∧ o.width ≤ 8) ∧ (1 ≤ (o.readers.length : Int) ∧ (o.readers.length : Int) ≤ 4) ∧ (0 ≤ o.slots ∧ o.slots ≤ 16) ∧ (0 ≤ o.cap ∧ o.cap ≤ 16) ∧ (0 ≤ o.slots * o.width ∧ o.slots * o.width ≤ 160) ∧ (0 ≤ o.cap * (o.width + 2) ∧ o.cap * (o.width + 2) ≤ 160) ∧
    (0 ≤ ((o.readers.length : Int) + 2) * o.width ∧ ((o.readers.length : Int) + 2) * o.width ≤ 160) := by
  have h1 : (1 ≤ o.width ∧ o.width ≤ 8) ∧ (1 ≤ (o.readers.length : Int) ∧ (o.readers.length : Int) ≤ 4) ∧ (0 ≤ o.slots ∧ o.slots ≤ 16) ∧ (0 ≤ o.cap ∧ o.cap ≤ 16) := by simp only [rightP] at h; omega
  exact ⟨h1.1, h1.2.1, h1.2.2.1, h1.2.2.2, prodB h1.2.2.1.1 h1.2.2.1.2 h1.1.1 (by omega), prodB h1.2.2.2.1 h1.2.2.2.2 (by omega) (by omega), prodB (by omega) (by omega) h1.1.1 (by omega)⟩
theorem sizeK_B {o : Object} (h : rightP o) : 1 ≤ sizeK o ∧ sizeK o ≤ 200 := by
  have h1 := szP h
  unfold sizeK
  repeat' split
  all_goals omega
theorem boundK_B {o : Object} (h : rightP o) (w : Bool) : 1 ≤ boundK o w ∧ boundK o w ≤ 300 := by
  have h1 := szP h
  have h2 : 1 ≤ o.cap → 1 ≤ o.cap * (o.width + 2) := fun h => by
    have := Int.mul_le_mul h (show (1 : Int) ≤ o.width + 2 by omega) (by omega) (by omega)
    omega
  have h3 : o.kind = 3 ∨ o.kind = 4 ∨ o.kind = 5 → 1 ≤ o.cap := fun _ => by simp only [rightP] at h; omega
  unfold boundK
  repeat' split
  all_goals omega
theorem cslots_fn (o : Object) (h : rightP o) : Fn Tryz.prog 235 [.agg (eObject o)] (.int .i64 ((o.readers.length : Int) + 2)) := by
  have h1 := szP h
  refine fnb Tryz.func235 (entered_of (by kernel_rfl)) rfl rfl rfl ?_
  repeat' (first | refine sA ?_ | ((first | apply kM | apply kN); (iterate 3 (· exact rfl)); (· first | exact ya)) | refine sG ?_ | (refine sK ?_ ?_ <;> intro hc <;> (try simp only [KL, sL, reduceCtorEq] at hc) <;> (try (exfalso; omega))))
  exact retq rfl rfl
theorem cdata_fn (o : Object) (h : rightP o) : Fn Tryz.prog 234 [.agg (eObject o)] (.int .i64 (1 + (o.readers.length : Int))) := by
  have h1 := szP h
  refine fnb Tryz.func234 (entered_of (by kernel_rfl)) rfl rfl rfl ?_
  repeat' (first | refine sA ?_ | ((first | apply kM | apply kN); (iterate 3 (· exact rfl)); (· first | exact ya)) | refine sG ?_ | (refine sK ?_ ?_ <;> intro hc <;> (try simp only [KL, sL, reduceCtorEq] at hc) <;> (try (exfalso; omega))))
  exact retq rfl rfl
theorem bdata_fn (o : Object) (h : rightP o) : Fn Tryz.prog 236 [.agg (eObject o)] (.int .i64 (1 + (o.readers.length : Int))) := by
  have h1 := szP h
  refine fnb Tryz.func236 (entered_of (by kernel_rfl)) rfl rfl rfl ?_
  repeat' (first | refine sA ?_ | ((first | apply kM | apply kN); (iterate 3 (· exact rfl)); (· first | exact ya)) | refine sG ?_ | (refine sK ?_ ?_ <;> intro hc <;> (try simp only [KL, sL, reduceCtorEq] at hc) <;> (try (exfalso; omega))))
  exact retq rfl rfl
theorem foursize_fn (o : Object) (h : rightP o) (hk : o.kind = 1) : Fn Tryz.prog 222 [.agg (eObject o)] (.int .i64 (sizeK o)) := by
  have h1 := szP h
  refine fnb Tryz.func222 (entered_of (by kernel_rfl)) rfl rfl rfl ?_
  repeat' (first | refine sA ?_ | ((first | apply kM | apply kN); (iterate 3 (· exact rfl)); (· first | exact ya)) | refine sG ?_ | (refine sK ?_ ?_ <;> intro hc <;> (try simp only [KL, sL, reduceCtorEq] at hc) <;> (try (exfalso; omega))))
  exact retq rfl (congrArg (AV.int .i64) (by rw [sizeK]; simp only [hk, reduceCtorEq, if_true, if_false]; first | done | omega | (split <;> omega) | (simp; done) | (simp; omega)))
theorem fourSize_fn (o : Object) : Fn Tryz.prog 202 [.agg (eObject o)] (.int .i64 (if o.kind = 1 ∧ rightP o then sizeK o else 0)) := by
  have c1 := four_fn o
  rw [rightK] at c1
  by_cases h : o.kind = 1 ∧ rightP o
  · rw [if_pos h]
    rw [decide_eq_true h] at c1
    refine fnb Tryz.func202 (entered_of (by kernel_rfl)) rfl rfl rfl ?_
    repeat' (first | refine sA ?_ | ((first | apply kM | apply kN); (iterate 3 (· exact rfl)); (· first | exact ya | exact q_c (c1) rfl | exact q_c (foursize_fn o h.2 h.1) rfl)) | refine sG ?_ | (refine sK ?_ ?_ <;> intro hc <;> (try simp only [KL, sL, reduceCtorEq] at hc) <;> (try (exfalso; omega))))
    exact retq rfl rfl
  · rw [if_neg h]
    rw [decide_eq_false h] at c1
    refine fnb Tryz.func202 (entered_of (by kernel_rfl)) rfl rfl rfl ?_
    repeat' (first | refine sA ?_ | ((first | apply kM | apply kN); (iterate 3 (· exact rfl)); (· first | exact ya | exact q_c (c1) rfl)) | refine sG ?_ | (refine sK ?_ ?_ <;> intro hc <;> (try simp only [KL, sL, reduceCtorEq] at hc) <;> (try (exfalso; omega))))
    exact retq rfl rfl
theorem fourBound_fn (o : Object) (op : Int) : Fn Tryz.prog 138 [.agg (eObject o), .int .i64 op] (.int .i64 (if o.kind = 1 ∧ rightP o then boundO o op else 0)) := by
  have c1 := four_fn o
  rw [rightK] at c1
  by_cases h : o.kind = 1 ∧ rightP o
  · rw [if_pos h]
    rw [decide_eq_true h] at c1
    have h1 := szP h.2
    have hk := h.1
    have e : boundO o op = if op = wrO 1 then boundK o true else if op = rdO 1 then boundK o false else 0 := by
      rw [boundO, hk]
      by_cases h2 : op = wrO 1
      · rw [if_pos h2, if_pos ⟨h.2, .inl h2⟩, decide_eq_true h2]
      · rw [if_neg h2, decide_eq_false h2]
        by_cases h3 : op = rdO 1
        · rw [if_pos h3, if_pos ⟨h.2, .inr h3⟩]
        · rw [if_neg h3, if_neg (fun e => e.2.elim h2 h3)]
    rw [e]
    simp only [wrO, rdO, boundK, hk]
    refine fnb Tryz.func138 (entered_of (by kernel_rfl)) rfl rfl rfl ?_
    repeat' (first | refine sA ?_ | ((first | apply kM | apply kN); (iterate 3 (· exact rfl)); (· first | exact ya | exact q_c (c1) rfl)) | refine sG ?_ | (refine sK ?_ ?_ <;> intro hc <;> (try simp only [KL, sL, reduceCtorEq] at hc) <;> (try (exfalso; omega))))
    all_goals first | (exfalso; omega) | exact retq rfl (congrArg (AV.int .i64) (by simp only [reduceCtorEq, if_true, if_false, Bool.false_eq_true]; first | done | omega | (repeat' split) <;> first | omega | (simp at *; omega)))
  · rw [if_neg h]
    rw [decide_eq_false h] at c1
    refine fnb Tryz.func138 (entered_of (by kernel_rfl)) rfl rfl rfl ?_
    repeat' (first | refine sA ?_ | ((first | apply kM | apply kN); (iterate 3 (· exact rfl)); (· first | exact ya | exact q_c (c1) rfl)) | refine sG ?_ | (refine sK ?_ ?_ <;> intro hc <;> (try simp only [KL, sL, reduceCtorEq] at hc) <;> (try (exfalso; omega))))
    all_goals exact retq rfl rfl
theorem chensize_fn (o : Object) (h : rightP o) (hk : o.kind = 2) : Fn Tryz.prog 223 [.agg (eObject o)] (.int .i64 (sizeK o)) := by
  have h1 := szP h
  refine fnb Tryz.func223 (entered_of (by kernel_rfl)) rfl rfl rfl ?_
  repeat' (first | refine sA ?_ | ((first | apply kM | apply kN); (iterate 3 (· exact rfl)); (· first | exact ya | exact q_c (cslots_fn o h) rfl | exact q_c (cdata_fn o h) rfl)) | refine sG ?_ | (refine sK ?_ ?_ <;> intro hc <;> (try simp only [KL, sL, reduceCtorEq] at hc) <;> (try (exfalso; omega))))
  exact retq rfl (congrArg (AV.int .i64) (by rw [sizeK]; simp only [hk, reduceCtorEq, if_true, if_false]; first | done | omega | (split <;> omega) | (simp; done) | (simp; omega)))
theorem chenSize_fn (o : Object) : Fn Tryz.prog 203 [.agg (eObject o)] (.int .i64 (if o.kind = 2 ∧ rightP o then sizeK o else 0)) := by
  have c1 := chen_fn o
  rw [rightK] at c1
  by_cases h : o.kind = 2 ∧ rightP o
  · rw [if_pos h]
    rw [decide_eq_true h] at c1
    refine fnb Tryz.func203 (entered_of (by kernel_rfl)) rfl rfl rfl ?_
    repeat' (first | refine sA ?_ | ((first | apply kM | apply kN); (iterate 3 (· exact rfl)); (· first | exact ya | exact q_c (c1) rfl | exact q_c (chensize_fn o h.2 h.1) rfl)) | refine sG ?_ | (refine sK ?_ ?_ <;> intro hc <;> (try simp only [KL, sL, reduceCtorEq] at hc) <;> (try (exfalso; omega))))
    exact retq rfl rfl
  · rw [if_neg h]
    rw [decide_eq_false h] at c1
    refine fnb Tryz.func203 (entered_of (by kernel_rfl)) rfl rfl rfl ?_
    repeat' (first | refine sA ?_ | ((first | apply kM | apply kN); (iterate 3 (· exact rfl)); (· first | exact ya | exact q_c (c1) rfl)) | refine sG ?_ | (refine sK ?_ ?_ <;> intro hc <;> (try simp only [KL, sL, reduceCtorEq] at hc) <;> (try (exfalso; omega))))
    exact retq rfl rfl
theorem chenBound_fn (o : Object) (op : Int) : Fn Tryz.prog 139 [.agg (eObject o), .int .i64 op] (.int .i64 (if o.kind = 2 ∧ rightP o then boundO o op else 0)) := by
  have c1 := chen_fn o
  rw [rightK] at c1
  by_cases h : o.kind = 2 ∧ rightP o
  · rw [if_pos h]
    rw [decide_eq_true h] at c1
    have h1 := szP h.2
    have hk := h.1
    have e : boundO o op = if op = wrO 2 then boundK o true else if op = rdO 2 then boundK o false else 0 := by
      rw [boundO, hk]
      by_cases h2 : op = wrO 2
      · rw [if_pos h2, if_pos ⟨h.2, .inl h2⟩, decide_eq_true h2]
      · rw [if_neg h2, decide_eq_false h2]
        by_cases h3 : op = rdO 2
        · rw [if_pos h3, if_pos ⟨h.2, .inr h3⟩]
        · rw [if_neg h3, if_neg (fun e => e.2.elim h2 h3)]
    rw [e]
    simp only [wrO, rdO, boundK, hk]
    refine fnb Tryz.func139 (entered_of (by kernel_rfl)) rfl rfl rfl ?_
    repeat' (first | refine sA ?_ | ((first | apply kM | apply kN); (iterate 3 (· exact rfl)); (· first | exact ya | exact q_c (c1) rfl)) | refine sG ?_ | (refine sK ?_ ?_ <;> intro hc <;> (try simp only [KL, sL, reduceCtorEq] at hc) <;> (try (exfalso; omega))))
    all_goals first | (exfalso; omega) | exact retq rfl (congrArg (AV.int .i64) (by simp only [reduceCtorEq, if_true, if_false, Bool.false_eq_true]; first | done | omega | (repeat' split) <;> first | omega | (simp at *; omega)))
  · rw [if_neg h]
    rw [decide_eq_false h] at c1
    refine fnb Tryz.func139 (entered_of (by kernel_rfl)) rfl rfl rfl ?_
    repeat' (first | refine sA ?_ | ((first | apply kM | apply kN); (iterate 3 (· exact rfl)); (· first | exact ya | exact q_c (c1) rfl)) | refine sG ?_ | (refine sK ?_ ?_ <;> intro hc <;> (try simp only [KL, sL, reduceCtorEq] at hc) <;> (try (exfalso; omega))))
    all_goals exact retq rfl rfl
theorem seqsize_fn (o : Object) (h : rightP o) (hk : o.kind = 3) : Fn Tryz.prog 224 [.agg (eObject o)] (.int .i64 (sizeK o)) := by
  have h1 := szP h
  refine fnb Tryz.func224 (entered_of (by kernel_rfl)) rfl rfl rfl ?_
  repeat' (first | refine sA ?_ | ((first | apply kM | apply kN); (iterate 3 (· exact rfl)); (· first | exact ya)) | refine sG ?_ | (refine sK ?_ ?_ <;> intro hc <;> (try simp only [KL, sL, reduceCtorEq] at hc) <;> (try (exfalso; omega))))
  exact retq rfl (congrArg (AV.int .i64) (by rw [sizeK]; simp only [hk, reduceCtorEq, if_true, if_false]; first | done | omega | (split <;> omega) | (simp; done) | (simp; omega)))
theorem seqSize_fn (o : Object) : Fn Tryz.prog 204 [.agg (eObject o)] (.int .i64 (if o.kind = 3 ∧ rightP o then sizeK o else 0)) := by
  have c1 := seq_fn o
  rw [rightK] at c1
  by_cases h : o.kind = 3 ∧ rightP o
  · rw [if_pos h]
    rw [decide_eq_true h] at c1
    refine fnb Tryz.func204 (entered_of (by kernel_rfl)) rfl rfl rfl ?_
    repeat' (first | refine sA ?_ | ((first | apply kM | apply kN); (iterate 3 (· exact rfl)); (· first | exact ya | exact q_c (c1) rfl | exact q_c (seqsize_fn o h.2 h.1) rfl)) | refine sG ?_ | (refine sK ?_ ?_ <;> intro hc <;> (try simp only [KL, sL, reduceCtorEq] at hc) <;> (try (exfalso; omega))))
    exact retq rfl rfl
  · rw [if_neg h]
    rw [decide_eq_false h] at c1
    refine fnb Tryz.func204 (entered_of (by kernel_rfl)) rfl rfl rfl ?_
    repeat' (first | refine sA ?_ | ((first | apply kM | apply kN); (iterate 3 (· exact rfl)); (· first | exact ya | exact q_c (c1) rfl)) | refine sG ?_ | (refine sK ?_ ?_ <;> intro hc <;> (try simp only [KL, sL, reduceCtorEq] at hc) <;> (try (exfalso; omega))))
    exact retq rfl rfl
theorem seqBound_fn (o : Object) (op : Int) : Fn Tryz.prog 140 [.agg (eObject o), .int .i64 op] (.int .i64 (if o.kind = 3 ∧ rightP o then boundO o op else 0)) := by
  have c1 := seq_fn o
  rw [rightK] at c1
  by_cases h : o.kind = 3 ∧ rightP o
  · rw [if_pos h]
    rw [decide_eq_true h] at c1
    have h1 := szP h.2
    have hk := h.1
    have e : boundO o op = if op = wrO 3 then boundK o true else if op = rdO 3 then boundK o false else 0 := by
      rw [boundO, hk]
      by_cases h2 : op = wrO 3
      · rw [if_pos h2, if_pos ⟨h.2, .inl h2⟩, decide_eq_true h2]
      · rw [if_neg h2, decide_eq_false h2]
        by_cases h3 : op = rdO 3
        · rw [if_pos h3, if_pos ⟨h.2, .inr h3⟩]
        · rw [if_neg h3, if_neg (fun e => e.2.elim h2 h3)]
    rw [e]
    simp only [wrO, rdO, boundK, hk]
    refine fnb Tryz.func140 (entered_of (by kernel_rfl)) rfl rfl rfl ?_
    repeat' (first | refine sA ?_ | ((first | apply kM | apply kN); (iterate 3 (· exact rfl)); (· first | exact ya | exact q_c (c1) rfl)) | refine sG ?_ | (refine sK ?_ ?_ <;> intro hc <;> (try simp only [KL, sL, reduceCtorEq] at hc) <;> (try (exfalso; omega))))
    all_goals first | (exfalso; omega) | exact retq rfl (congrArg (AV.int .i64) (by simp only [reduceCtorEq, if_true, if_false, Bool.false_eq_true]; first | done | omega | (repeat' split) <;> first | omega | (simp at *; omega)))
  · rw [if_neg h]
    rw [decide_eq_false h] at c1
    refine fnb Tryz.func140 (entered_of (by kernel_rfl)) rfl rfl rfl ?_
    repeat' (first | refine sA ?_ | ((first | apply kM | apply kN); (iterate 3 (· exact rfl)); (· first | exact ya | exact q_c (c1) rfl)) | refine sG ?_ | (refine sK ?_ ?_ <;> intro hc <;> (try simp only [KL, sL, reduceCtorEq] at hc) <;> (try (exfalso; omega))))
    all_goals exact retq rfl rfl
theorem ringsize_fn (o : Object) (h : rightP o) (hk : o.kind = 4) : Fn Tryz.prog 225 [.agg (eObject o)] (.int .i64 (sizeK o)) := by
  have h1 := szP h
  refine fnb Tryz.func225 (entered_of (by kernel_rfl)) rfl rfl rfl ?_
  repeat' (first | refine sA ?_ | ((first | apply kM | apply kN); (iterate 3 (· exact rfl)); (· first | exact ya)) | refine sG ?_ | (refine sK ?_ ?_ <;> intro hc <;> (try simp only [KL, sL, reduceCtorEq] at hc) <;> (try (exfalso; omega))))
  exact retq rfl (congrArg (AV.int .i64) (by rw [sizeK]; simp only [hk, reduceCtorEq, if_true, if_false]; first | done | omega | (split <;> omega) | (simp; done) | (simp; omega)))
theorem ringSize_fn (o : Object) : Fn Tryz.prog 205 [.agg (eObject o)] (.int .i64 (if o.kind = 4 ∧ rightP o then sizeK o else 0)) := by
  have c1 := ring_fn o
  rw [rightK] at c1
  by_cases h : o.kind = 4 ∧ rightP o
  · rw [if_pos h]
    rw [decide_eq_true h] at c1
    refine fnb Tryz.func205 (entered_of (by kernel_rfl)) rfl rfl rfl ?_
    repeat' (first | refine sA ?_ | ((first | apply kM | apply kN); (iterate 3 (· exact rfl)); (· first | exact ya | exact q_c (c1) rfl | exact q_c (ringsize_fn o h.2 h.1) rfl)) | refine sG ?_ | (refine sK ?_ ?_ <;> intro hc <;> (try simp only [KL, sL, reduceCtorEq] at hc) <;> (try (exfalso; omega))))
    exact retq rfl rfl
  · rw [if_neg h]
    rw [decide_eq_false h] at c1
    refine fnb Tryz.func205 (entered_of (by kernel_rfl)) rfl rfl rfl ?_
    repeat' (first | refine sA ?_ | ((first | apply kM | apply kN); (iterate 3 (· exact rfl)); (· first | exact ya | exact q_c (c1) rfl)) | refine sG ?_ | (refine sK ?_ ?_ <;> intro hc <;> (try simp only [KL, sL, reduceCtorEq] at hc) <;> (try (exfalso; omega))))
    exact retq rfl rfl
theorem ringBound_fn (o : Object) (op : Int) : Fn Tryz.prog 141 [.agg (eObject o), .int .i64 op] (.int .i64 (if o.kind = 4 ∧ rightP o then boundO o op else 0)) := by
  have c1 := ring_fn o
  rw [rightK] at c1
  by_cases h : o.kind = 4 ∧ rightP o
  · rw [if_pos h]
    rw [decide_eq_true h] at c1
    have h1 := szP h.2
    have hk := h.1
    have e : boundO o op = if op = wrO 4 then boundK o true else if op = rdO 4 then boundK o false else 0 := by
      rw [boundO, hk]
      by_cases h2 : op = wrO 4
      · rw [if_pos h2, if_pos ⟨h.2, .inl h2⟩, decide_eq_true h2]
      · rw [if_neg h2, decide_eq_false h2]
        by_cases h3 : op = rdO 4
        · rw [if_pos h3, if_pos ⟨h.2, .inr h3⟩]
        · rw [if_neg h3, if_neg (fun e => e.2.elim h2 h3)]
    rw [e]
    simp only [wrO, rdO, boundK, hk]
    refine fnb Tryz.func141 (entered_of (by kernel_rfl)) rfl rfl rfl ?_
    repeat' (first | refine sA ?_ | ((first | apply kM | apply kN); (iterate 3 (· exact rfl)); (· first | exact ya | exact q_c (c1) rfl)) | refine sG ?_ | (refine sK ?_ ?_ <;> intro hc <;> (try simp only [KL, sL, reduceCtorEq] at hc) <;> (try (exfalso; omega))))
    all_goals first | (exfalso; omega) | exact retq rfl (congrArg (AV.int .i64) (by simp only [reduceCtorEq, if_true, if_false, Bool.false_eq_true]; first | done | omega | (repeat' split) <;> first | omega | (simp at *; omega)))
  · rw [if_neg h]
    rw [decide_eq_false h] at c1
    refine fnb Tryz.func141 (entered_of (by kernel_rfl)) rfl rfl rfl ?_
    repeat' (first | refine sA ?_ | ((first | apply kM | apply kN); (iterate 3 (· exact rfl)); (· first | exact ya | exact q_c (c1) rfl)) | refine sG ?_ | (refine sK ?_ ?_ <;> intro hc <;> (try simp only [KL, sL, reduceCtorEq] at hc) <;> (try (exfalso; omega))))
    all_goals exact retq rfl rfl
theorem cabsize_fn (o : Object) (h : rightP o) (hk : o.kind = 5) : Fn Tryz.prog 226 [.agg (eObject o)] (.int .i64 (sizeK o)) := by
  have h1 := szP h
  refine fnb Tryz.func226 (entered_of (by kernel_rfl)) rfl rfl rfl ?_
  repeat' (first | refine sA ?_ | ((first | apply kM | apply kN); (iterate 3 (· exact rfl)); (· first | exact ya | exact q_c (bdata_fn o h) rfl)) | refine sG ?_ | (refine sK ?_ ?_ <;> intro hc <;> (try simp only [KL, sL, reduceCtorEq] at hc) <;> (try (exfalso; omega))))
  exact retq rfl (congrArg (AV.int .i64) (by rw [sizeK]; simp only [hk, reduceCtorEq, if_true, if_false]; first | done | omega | (split <;> omega) | (simp; done) | (simp; omega)))
theorem cabSize_fn (o : Object) : Fn Tryz.prog 206 [.agg (eObject o)] (.int .i64 (if o.kind = 5 ∧ rightP o then sizeK o else 0)) := by
  have c1 := cab_fn o
  rw [rightK] at c1
  by_cases h : o.kind = 5 ∧ rightP o
  · rw [if_pos h]
    rw [decide_eq_true h] at c1
    refine fnb Tryz.func206 (entered_of (by kernel_rfl)) rfl rfl rfl ?_
    repeat' (first | refine sA ?_ | ((first | apply kM | apply kN); (iterate 3 (· exact rfl)); (· first | exact ya | exact q_c (c1) rfl | exact q_c (cabsize_fn o h.2 h.1) rfl)) | refine sG ?_ | (refine sK ?_ ?_ <;> intro hc <;> (try simp only [KL, sL, reduceCtorEq] at hc) <;> (try (exfalso; omega))))
    exact retq rfl rfl
  · rw [if_neg h]
    rw [decide_eq_false h] at c1
    refine fnb Tryz.func206 (entered_of (by kernel_rfl)) rfl rfl rfl ?_
    repeat' (first | refine sA ?_ | ((first | apply kM | apply kN); (iterate 3 (· exact rfl)); (· first | exact ya | exact q_c (c1) rfl)) | refine sG ?_ | (refine sK ?_ ?_ <;> intro hc <;> (try simp only [KL, sL, reduceCtorEq] at hc) <;> (try (exfalso; omega))))
    exact retq rfl rfl
theorem cabBound_fn (o : Object) (op : Int) : Fn Tryz.prog 142 [.agg (eObject o), .int .i64 op] (.int .i64 (if o.kind = 5 ∧ rightP o then boundO o op else 0)) := by
  have c1 := cab_fn o
  rw [rightK] at c1
  by_cases h : o.kind = 5 ∧ rightP o
  · rw [if_pos h]
    rw [decide_eq_true h] at c1
    have h1 := szP h.2
    have hk := h.1
    have e : boundO o op = if op = wrO 5 then boundK o true else if op = rdO 5 then boundK o false else 0 := by
      rw [boundO, hk]
      by_cases h2 : op = wrO 5
      · rw [if_pos h2, if_pos ⟨h.2, .inl h2⟩, decide_eq_true h2]
      · rw [if_neg h2, decide_eq_false h2]
        by_cases h3 : op = rdO 5
        · rw [if_pos h3, if_pos ⟨h.2, .inr h3⟩]
        · rw [if_neg h3, if_neg (fun e => e.2.elim h2 h3)]
    rw [e]
    simp only [wrO, rdO, boundK, hk]
    refine fnb Tryz.func142 (entered_of (by kernel_rfl)) rfl rfl rfl ?_
    repeat' (first | refine sA ?_ | ((first | apply kM | apply kN); (iterate 3 (· exact rfl)); (· first | exact ya | exact q_c (c1) rfl)) | refine sG ?_ | (refine sK ?_ ?_ <;> intro hc <;> (try simp only [KL, sL, reduceCtorEq] at hc) <;> (try (exfalso; omega))))
    all_goals first | (exfalso; omega) | exact retq rfl (congrArg (AV.int .i64) (by simp only [reduceCtorEq, if_true, if_false, Bool.false_eq_true]; first | done | omega | (repeat' split) <;> first | omega | (simp at *; omega)))
  · rw [if_neg h]
    rw [decide_eq_false h] at c1
    refine fnb Tryz.func142 (entered_of (by kernel_rfl)) rfl rfl rfl ?_
    repeat' (first | refine sA ?_ | ((first | apply kM | apply kN); (iterate 3 (· exact rfl)); (· first | exact ya | exact q_c (c1) rfl)) | refine sG ?_ | (refine sK ?_ ?_ <;> intro hc <;> (try simp only [KL, sL, reduceCtorEq] at hc) <;> (try (exfalso; omega))))
    all_goals exact retq rfl rfl
theorem fifosize_fn (o : Object) (h : rightP o) (hk : o.kind = 6) : Fn Tryz.prog 227 [.agg (eObject o)] (.int .i64 (sizeK o)) := by
  have h1 := szP h
  refine fnb Tryz.func227 (entered_of (by kernel_rfl)) rfl rfl rfl ?_
  repeat' (first | refine sA ?_ | ((first | apply kM | apply kN); (iterate 3 (· exact rfl)); (· first | exact ya)) | refine sG ?_ | (refine sK ?_ ?_ <;> intro hc <;> (try simp only [KL, sL, reduceCtorEq] at hc) <;> (try (exfalso; omega))))
  exact retq rfl (congrArg (AV.int .i64) (by rw [sizeK]; simp only [hk, reduceCtorEq, if_true, if_false]; first | done | omega | (split <;> omega) | (simp; done) | (simp; omega)))
theorem fifoSize_fn (o : Object) : Fn Tryz.prog 207 [.agg (eObject o)] (.int .i64 (if o.kind = 6 ∧ rightP o then sizeK o else 0)) := by
  have c1 := fifo_fn o
  rw [rightK] at c1
  by_cases h : o.kind = 6 ∧ rightP o
  · rw [if_pos h]
    rw [decide_eq_true h] at c1
    refine fnb Tryz.func207 (entered_of (by kernel_rfl)) rfl rfl rfl ?_
    repeat' (first | refine sA ?_ | ((first | apply kM | apply kN); (iterate 3 (· exact rfl)); (· first | exact ya | exact q_c (c1) rfl | exact q_c (fifosize_fn o h.2 h.1) rfl)) | refine sG ?_ | (refine sK ?_ ?_ <;> intro hc <;> (try simp only [KL, sL, reduceCtorEq] at hc) <;> (try (exfalso; omega))))
    exact retq rfl rfl
  · rw [if_neg h]
    rw [decide_eq_false h] at c1
    refine fnb Tryz.func207 (entered_of (by kernel_rfl)) rfl rfl rfl ?_
    repeat' (first | refine sA ?_ | ((first | apply kM | apply kN); (iterate 3 (· exact rfl)); (· first | exact ya | exact q_c (c1) rfl)) | refine sG ?_ | (refine sK ?_ ?_ <;> intro hc <;> (try simp only [KL, sL, reduceCtorEq] at hc) <;> (try (exfalso; omega))))
    exact retq rfl rfl
theorem fifoBound_fn (o : Object) (op : Int) : Fn Tryz.prog 143 [.agg (eObject o), .int .i64 op] (.int .i64 (if o.kind = 6 ∧ rightP o then boundO o op else 0)) := by
  have c1 := fifo_fn o
  rw [rightK] at c1
  by_cases h : o.kind = 6 ∧ rightP o
  · rw [if_pos h]
    rw [decide_eq_true h] at c1
    have h1 := szP h.2
    have hk := h.1
    have e : boundO o op = if op = wrO 6 then boundK o true else if op = rdO 6 then boundK o false else 0 := by
      rw [boundO, hk]
      by_cases h2 : op = wrO 6
      · rw [if_pos h2, if_pos ⟨h.2, .inl h2⟩, decide_eq_true h2]
      · rw [if_neg h2, decide_eq_false h2]
        by_cases h3 : op = rdO 6
        · rw [if_pos h3, if_pos ⟨h.2, .inr h3⟩]
        · rw [if_neg h3, if_neg (fun e => e.2.elim h2 h3)]
    rw [e]
    simp only [wrO, rdO, boundK, hk]
    refine fnb Tryz.func143 (entered_of (by kernel_rfl)) rfl rfl rfl ?_
    repeat' (first | refine sA ?_ | ((first | apply kM | apply kN); (iterate 3 (· exact rfl)); (· first | exact ya | exact q_c (c1) rfl)) | refine sG ?_ | (refine sK ?_ ?_ <;> intro hc <;> (try simp only [KL, sL, reduceCtorEq] at hc) <;> (try (exfalso; omega))))
    all_goals first | (exfalso; omega) | exact retq rfl (congrArg (AV.int .i64) (by simp only [reduceCtorEq, if_true, if_false, Bool.false_eq_true]; first | done | omega | (repeat' split) <;> first | omega | (simp at *; omega)))
  · rw [if_neg h]
    rw [decide_eq_false h] at c1
    refine fnb Tryz.func143 (entered_of (by kernel_rfl)) rfl rfl rfl ?_
    repeat' (first | refine sA ?_ | ((first | apply kM | apply kN); (iterate 3 (· exact rfl)); (· first | exact ya | exact q_c (c1) rfl)) | refine sG ?_ | (refine sK ?_ ?_ <;> intro hc <;> (try simp only [KL, sL, reduceCtorEq] at hc) <;> (try (exfalso; omega))))
    all_goals exact retq rfl rfl
theorem if_iff {p q : Prop} [Decidable p] [Decidable q] {a b : Int} (h : p ↔ q) : (if p then a else b) = if q then a else b := by
  by_cases hp : p
  · rw [if_pos hp, if_pos (h.1 hp)]
  · rw [if_neg hp, if_neg (fun e => hp (h.2 e))]
theorem no6 {o : Object} (h1 : ¬ o.kind = 1) (h2 : ¬ o.kind = 2) (h3 : ¬ o.kind = 3) (h4 : ¬ o.kind = 4) (h5 : ¬ o.kind = 5) : (o.kind = 6 ∧ rightP o) ↔ rightP o :=
  ⟨fun h => h.2, fun h => ⟨by have := kindP h; omega, h⟩⟩
theorem is_k {o : Object} {n : Int} (h : o.kind = n) : (o.kind = n ∧ rightP o) ↔ rightP o := ⟨fun h => h.2, fun h' => ⟨h, h'⟩⟩
theorem shaped_fn (o : Object) : Fn Tryz.prog 81 [.agg (eObject o)] (.bool (rightO o)) := by
  refine fnb Tryz.func81 (entered_of (by kernel_rfl)) rfl rfl rfl ?_
  repeat' (first | refine sA ?_ | ((first | apply kM | apply kN); (iterate 3 (· exact rfl)); (· first | exact ya | exact q_c (four_fn o) rfl | exact q_c (chen_fn o) rfl | exact q_c (seq_fn o) rfl | exact q_c (ring_fn o) rfl | exact q_c (cab_fn o) rfl | exact q_c (fifo_fn o) rfl)) | refine sG ?_ | (refine sK ?_ ?_ <;> intro hc <;> (try simp only [KL, sL, reduceCtorEq] at hc) <;> (try (exfalso; omega))))
  all_goals first | (exfalso; omega) | exact retq rfl (congrArg AV.bool (decide_eq_decide.2 (by first | exact is_k (by assumption) | exact no6 (by assumption) (by assumption) (by assumption) (by assumption) (by assumption))))
theorem size_fn (o : Object) : Fn Tryz.prog 179 [.agg (eObject o)] (.int .i64 (sizeO o)) := by
  refine fnb Tryz.func179 (entered_of (by kernel_rfl)) rfl rfl rfl ?_
  repeat' (first | refine sA ?_ | ((first | apply kM | apply kN); (iterate 3 (· exact rfl)); (· first | exact ya | exact q_c (fourSize_fn o) rfl | exact q_c (chenSize_fn o) rfl | exact q_c (seqSize_fn o) rfl | exact q_c (ringSize_fn o) rfl | exact q_c (cabSize_fn o) rfl | exact q_c (fifoSize_fn o) rfl)) | refine sG ?_ | (refine sK ?_ ?_ <;> intro hc <;> (try simp only [KL, sL, reduceCtorEq] at hc) <;> (try (exfalso; omega))))
  all_goals first | (exfalso; omega) | exact retq rfl (congrArg (AV.int .i64) (if_iff (by first | exact is_k (by assumption) | exact no6 (by assumption) (by assumption) (by assumption) (by assumption) (by assumption))))
theorem bound_no {o : Object} (op : Int) : boundO o op = if rightP o then boundO o op else 0 := by
  by_cases h : rightP o
  · rw [if_pos h]
  · rw [if_neg h, boundO, if_neg (fun e => h e.1)]
theorem bound_fn (o : Object) (op : Int) : Fn Tryz.prog 101 [.agg (eObject o), .int .i64 op] (.int .i64 (boundO o op)) := by
  rw [bound_no]
  refine fnb Tryz.func101 (entered_of (by kernel_rfl)) rfl rfl rfl ?_
  repeat' (first | refine sA ?_ | ((first | apply kM | apply kN); (iterate 3 (· exact rfl)); (· first | exact ya | exact q_c (fourBound_fn o op) rfl | exact q_c (chenBound_fn o op) rfl | exact q_c (seqBound_fn o op) rfl | exact q_c (ringBound_fn o op) rfl | exact q_c (cabBound_fn o op) rfl | exact q_c (fifoBound_fn o op) rfl)) | refine sG ?_ | (refine sK ?_ ?_ <;> intro hc <;> (try simp only [KL, sL, reduceCtorEq] at hc) <;> (try (exfalso; omega))))
  all_goals first | (exfalso; omega) | exact retq rfl (congrArg (AV.int .i64) (if_iff (by first | exact is_k (by assumption) | exact no6 (by assumption) (by assumption) (by assumption) (by assumption) (by assumption))))
def opsW (k : Int) : Int := if 1 ≤ k ∧ k ≤ 5 then 2 else if k = 6 then 3 else 0
def opsR (k : Int) : Int := if 1 ≤ k ∧ k ≤ 5 then 1 else if k = 6 then 4 else 0
def opsB (k : Int) : Bool := decide (1 ≤ k ∧ k ≤ 6)
theorem ops_fn (k : Int) : Fn Tryz.prog 132 [.int .i64 k] (.tup [.int .i64 (opsW k), .int .i64 (opsR k), .bool (opsB k)]) := by
  by_cases h5 : 1 ≤ k ∧ k ≤ 5
  · rw [opsW, opsR, opsB, if_pos h5, if_pos h5, decide_eq_true (by omega)]
    refine fnb Tryz.func132 (entered_of (by kernel_rfl)) rfl rfl rfl ?_
    repeat' (first | refine sA ?_ | ((first | apply kM | apply kN); (iterate 3 (· exact rfl)); (· first | exact ya)) | refine sG ?_ | (refine sK ?_ ?_ <;> intro hc <;> (try simp only [KL, sL, reduceCtorEq] at hc) <;> (try (exfalso; omega))))
    all_goals first | (exfalso; omega) | exact retq rfl rfl
  by_cases h6 : k = 6
  · rw [opsW, opsR, opsB, if_neg h5, if_neg h5, if_pos h6, if_pos h6, decide_eq_true (by omega)]
    refine fnb Tryz.func132 (entered_of (by kernel_rfl)) rfl rfl rfl ?_
    repeat' (first | refine sA ?_ | ((first | apply kM | apply kN); (iterate 3 (· exact rfl)); (· first | exact ya)) | refine sG ?_ | (refine sK ?_ ?_ <;> intro hc <;> (try simp only [KL, sL, reduceCtorEq] at hc) <;> (try (exfalso; omega))))
    all_goals first | (exfalso; omega) | exact retq rfl rfl
  · rw [opsW, opsR, opsB, if_neg h5, if_neg h5, if_neg h6, if_neg h6, decide_eq_false (by omega)]
    refine fnb Tryz.func132 (entered_of (by kernel_rfl)) rfl rfl rfl ?_
    repeat' (first | refine sA ?_ | ((first | apply kM | apply kN); (iterate 3 (· exact rfl)); (· first | exact ya)) | refine sG ?_ | (refine sK ?_ ?_ <;> intro hc <;> (try simp only [KL, sL, reduceCtorEq] at hc) <;> (try (exfalso; omega))))
    all_goals first | (exfalso; omega) | exact retq rfl rfl
def idxI (xs : List Int) (v : Int) : Int := idxV (fstN (fun i => decide (v = xs.getD i default)) xs.length)
theorem idxI_B (xs : List Int) (v : Int) : -1 ≤ idxI xs v ∧ idxI xs v < xs.length := by
  unfold idxI
  cases h : fstN (fun i => decide (v = xs.getD i default)) xs.length with
  | none => simp only [idxV]; omega
  | some k =>
    have := List.mem_of_find?_eq_some h
    simp only [idxV]
    simp at this; omega
theorem index_fn (xs : List Int) (v : Int) (hn : xs.length ≤ 1000000) : Fn Tryz.prog 77 [.lst 1 (xs.map eI), .int .i64 v] (.int .i64 (idxI xs v)) := by
  refine fnb Tryz.func77 (entered_of (by kernel_rfl)) rfl rfl rfl ?_
  repeat' (first | refine sA ?_ | ((first | apply kM | apply kN); (iterate 3 (· exact rfl)); (· first | exact ya)) | refine sG ?_ | (refine sK ?_ ?_ <;> intro hc <;> (try simp only [KL, sL, reduceCtorEq] at hc) <;> (try (exfalso; omega))))
  refine wloop (fun k : Nat => ([(0, .lst 1 (xs.map eI)), (1, .int .i64 v), (6, .lst 1 (xs.map eI)), (7, .int .i64 xs.length), (8, .int .i64 k)], [])) (fun k => k ≤ xs.length ∧ ∀ j, j < k → decide (v = xs.getD j default) = false) (fun k => xs.length - k) 0 ⟨Nat.zero_le _, fun j hj => by omega⟩ les leh (fun k hk => ?_)
  obtain ⟨hk, hno⟩ := hk
  obtain ⟨z, hz⟩ : ∃ z, xs.getD k default = z := ⟨_, rfl⟩
  rcases Nat.lt_or_eq_of_le hk with hkl | hkl
  · by_cases he : v = z
    · have e : idxI xs v = k := by rw [idxI, fstN_some hkl (by rw [hz]; exact decide_eq_true he) hno]; rfl
      rw [e]
      repeat' (first | refine sA ?_ | ((first | apply kM | apply kN); (iterate 3 (· exact rfl)); (· first | (show Y _ ⟨_, .indexAddr _ _ _, _, _, _, _⟩ _ _ _; first | exact Y.mk (ok_indexE (hz) rfl rfl rfl rfl rfl (by omega))) | exact ya)) | refine sG ?_ | (refine sK ?_ ?_ <;> intro hc <;> (try simp only [KL, sL, reduceCtorEq] at hc) <;> (try (exfalso; omega))))
      all_goals first | (exfalso; omega) | exact retq rfl rfl
    · repeat' (first | refine sA ?_ | ((first | apply kM | apply kN); (iterate 3 (· exact rfl)); (· first | (show Y _ ⟨_, .indexAddr _ _ _, _, _, _, _⟩ _ _ _; first | exact Y.mk (ok_indexE (hz) rfl rfl rfl rfl rfl (by omega))) | exact ya)) | refine sG ?_ | (refine sK ?_ ?_ <;> intro hc <;> (try simp only [KL, sL, reduceCtorEq] at hc) <;> (try (exfalso; omega))))
      all_goals first | (exfalso; omega) | exact ⟨k + 1, ⟨by omega, no_next hno (by rw [hz]; exact decide_eq_false he)⟩, by omega, les, leh⟩
  · subst hkl
    have e : idxI xs v = -1 := by rw [idxI, fstN_none hno]; rfl
    rw [e]
    repeat' (first | refine sA ?_ | ((first | apply kM | apply kN); (iterate 3 (· exact rfl)); (· first | exact ya)) | refine sG ?_ | (refine sK ?_ ?_ <;> intro hc <;> (try simp only [KL, sL, reduceCtorEq] at hc) <;> (try (exfalso; omega))))
    all_goals first | (exfalso; omega) | exact retq rfl rfl
theorem reader_fn (o : Object) (v : Int) (hn : o.readers.length ≤ 1000000) : Fn Tryz.prog 133 [.agg (eObject o), .int .i64 v] (.tup [.int .i64 (max (idxI o.readers v) 0), .bool (decide (0 ≤ idxI o.readers v))]) := by
  have h := idxI_B o.readers v
  refine fnb Tryz.func133 (entered_of (by kernel_rfl)) rfl rfl rfl ?_
  repeat' (first | refine sA ?_ | ((first | apply kM | apply kN); (iterate 3 (· exact rfl)); (· first | exact ya | exact q_c (index_fn o.readers v hn) rfl)) | refine sG ?_ | (refine sK ?_ ?_ <;> intro hc <;> (try simp only [KL, sL, reduceCtorEq] at hc) <;> (try (exfalso; omega))))
  exact retq rfl rfl
theorem rreader_fn (o : Object) (v : Int) (hn : o.readers.length ≤ 1000000) : Fn Tryz.prog 92 [.agg (eObject o), .int .i64 v] (.int .i64 (idxI o.readers v)) := by
  obtain ⟨xs, hxs⟩ : ∃ xs, o.readers = xs := ⟨_, rfl⟩
  refine fnb Tryz.func92 (entered_of (by kernel_rfl)) rfl rfl rfl ?_
  repeat' (first | refine sA ?_ | ((first | apply kM | apply kN); (iterate 3 (· exact rfl)); (· first | exact ya)) | refine sG ?_ | (refine sK ?_ ?_ <;> intro hc <;> (try simp only [KL, sL, reduceCtorEq] at hc) <;> (try (exfalso; omega))))
  rw [hxs] at hn ⊢
  refine wloop (fun k : Nat => ([(1, .int .i64 v), (8, .lst 1 (xs.map eI)), (9, .int .i64 xs.length), (10, .int .i64 k)], [])) (fun k => k ≤ xs.length ∧ ∀ j, j < k → decide (v = xs.getD j default) = false) (fun k => xs.length - k) 0 ⟨Nat.zero_le _, fun j hj => by omega⟩ (by rw [← hxs]; exact les) leh (fun k hk => ?_)
  obtain ⟨hk, hno⟩ := hk
  obtain ⟨z, hz⟩ : ∃ z, xs.getD k default = z := ⟨_, rfl⟩
  rcases Nat.lt_or_eq_of_le hk with hkl | hkl
  · by_cases he : v = z
    · have e : idxI xs v = k := by rw [idxI, fstN_some hkl (by rw [hz]; exact decide_eq_true he) hno]; rfl
      rw [e]
      repeat' (first | refine sA ?_ | ((first | apply kM | apply kN); (iterate 3 (· exact rfl)); (· first | (show Y _ ⟨_, .indexAddr _ _ _, _, _, _, _⟩ _ _ _; first | exact Y.mk (ok_indexE (hz) rfl rfl rfl rfl rfl (by omega))) | exact ya)) | refine sG ?_ | (refine sK ?_ ?_ <;> intro hc <;> (try simp only [KL, sL, reduceCtorEq] at hc) <;> (try (exfalso; omega))))
      all_goals first | (exfalso; omega) | exact retq rfl rfl
    · repeat' (first | refine sA ?_ | ((first | apply kM | apply kN); (iterate 3 (· exact rfl)); (· first | (show Y _ ⟨_, .indexAddr _ _ _, _, _, _, _⟩ _ _ _; first | exact Y.mk (ok_indexE (hz) rfl rfl rfl rfl rfl (by omega))) | exact ya)) | refine sG ?_ | (refine sK ?_ ?_ <;> intro hc <;> (try simp only [KL, sL, reduceCtorEq] at hc) <;> (try (exfalso; omega))))
      all_goals first | (exfalso; omega) | exact ⟨k + 1, ⟨by omega, no_next hno (by rw [hz]; exact decide_eq_false he)⟩, by omega, les, leh⟩
  · subst hkl
    have e : idxI xs v = -1 := by rw [idxI, fstN_none hno]; rfl
    rw [e]
    repeat' (first | refine sA ?_ | ((first | apply kM | apply kN); (iterate 3 (· exact rfl)); (· first | exact ya)) | refine sG ?_ | (refine sK ?_ ?_ <;> intro hc <;> (try simp only [KL, sL, reduceCtorEq] at hc) <;> (try (exfalso; omega))))
    all_goals first | (exfalso; omega) | exact retq rfl rfl
theorem wr_fn (k : Int) : Fn Tryz.prog 91 [.int .i64 k] (.int .i64 (wrO k)) := by
  refine fnb Tryz.func91 (entered_of (by kernel_rfl)) rfl rfl rfl ?_
  repeat' (first | refine sA ?_ | ((first | apply kM | apply kN); (iterate 3 (· exact rfl)); (· first | exact ya)) | refine sG ?_ | (refine sK ?_ ?_ <;> intro hc <;> (try simp only [KL, sL, reduceCtorEq] at hc) <;> (try (exfalso; omega))))
  all_goals exact retq rfl (congrArg (AV.int .i64) (by unfold wrO; split <;> omega))
theorem rd_fn (k : Int) : Fn Tryz.prog 93 [.int .i64 k] (.int .i64 (rdO k)) := by
  refine fnb Tryz.func93 (entered_of (by kernel_rfl)) rfl rfl rfl ?_
  repeat' (first | refine sA ?_ | ((first | apply kM | apply kN); (iterate 3 (· exact rfl)); (· first | exact ya)) | refine sG ?_ | (refine sK ?_ ?_ <;> intro hc <;> (try simp only [KL, sL, reduceCtorEq] at hc) <;> (try (exfalso; omega))))
  all_goals exact retq rfl (congrArg (AV.int .i64) (by unfold rdO; split <;> omega))
set_option maxHeartbeats 4000000 in
theorem right14_fn (o : Object) : Fn Tryz.prog 40 [.agg (eObject o)] (.bool (rightO o)) := by
  refine fnb Tryz.func40 (entered_of (by kernel_rfl)) rfl rfl rfl ?_
  refine wobj 0 rfl (fun hst => ?_)
  repeat' (first | refine sA ?_ | ((first | apply kM | apply kN); (iterate 3 (· exact rfl)); (· first | exact ya)) | refine sG ?_ | (refine sK ?_ ?_ <;> intro hc <;> (try simp only [KL, sL, reduceCtorEq] at hc) <;> (try (exfalso; omega))))
  all_goals first | (exfalso; omega) | exact retq rfl (congrArg AV.bool (by rw [Bool.eq_iff_iff]; simp only [rightO, cond_true, cond_false, decide_eq_true_eq, Bool.false_eq_true, false_iff, true_iff]; simp only [rightP]; omega))
end Go.Proofs.YtkkmageogkkchaaGreat
namespace Go.Proofs.YtkkmageogkkchaaGreat
set_option maxRecDepth 100000
open Go.RowKit Go.ChangeShapes Go.WideShapes

structure Task where
  kind : Int
  prio : Int
  period : Int
  offset : Int
  deadline : Int
  own : Int
  code : List Instr
instance : Inhabited Task := ⟨⟨0, 0, 0, 0, 0, 0, []⟩⟩
theorem Task.ext_ {x y : Task} (h : x.kind = y.kind ∧ x.prio = y.prio ∧ x.period = y.period ∧ x.offset = y.offset ∧ x.deadline = y.deadline ∧ x.own = y.own ∧ x.code = y.code) : x = y := by cases x; cases y; simp_all
instance : DecidableEq Task := fun x y => decidable_of_iff (x.kind = y.kind ∧ x.prio = y.prio ∧ x.period = y.period ∧ x.offset = y.offset ∧ x.deadline = y.deadline ∧ x.own = y.own ∧ x.code = y.code) ⟨Task.ext_, fun h => by subst h; simp⟩
def Task.ok (x : Task) : Prop := (Lit.int .i64 x.kind).wf = true ∧ (Lit.int .i64 x.prio).wf = true ∧ (Lit.int .i64 x.period).wf = true ∧ (Lit.int .i64 x.offset).wf = true ∧ (Lit.int .i64 x.deadline).wf = true ∧ (Lit.int .i64 x.own).wf = true
def Task.cod : Cod Task := fun w cs x => ∃ (A_code : Option Addr) (c_code : Nat), cs = [.int .i64 x.kind, .int .i64 x.prio, .int .i64 x.period, .int .i64 x.offset, .int .i64 x.deadline, .int .i64 x.own, .slice A_code x.code.length c_code] ∧ x.ok ∧ x.code.length ≤ c_code ∧ c_code ≤ maxLen ∧ Row Instr.cod 5 w A_code x.code
theorem Task.mono : Mono Task.cod := fun _ _ _ _ he ⟨A_code, c_code, h, hk, l_code, m_code, r_code⟩ => ⟨A_code, c_code, h, hk, l_code, m_code, r_code.ext Instr.mono he⟩
theorem Task.size {w : World} {cs : List Value} {x : Task} (h : Task.cod w cs x) : cs.length = 7 := by obtain ⟨A_code, c_code, h, _⟩ := h; rw [h]; rfl
theorem Task.at {w : World} {b off : Nat} {xs : List Task} (h : Row' Task.cod 7 w b off xs) (i : Nat) (hi : i < xs.length) :
    ∃ (A_code : Option Addr) (c_code : Nat), w.cell? ⟨b, off + i * 7, none⟩ = some (.int .i64 xs[i].kind) ∧ w.cell? ⟨b, off + i * 7 + 1, none⟩ = some (.int .i64 xs[i].prio) ∧ w.cell? ⟨b, off + i * 7 + 2, none⟩ = some (.int .i64 xs[i].period) ∧ w.cell? ⟨b, off + i * 7 + 3, none⟩ = some (.int .i64 xs[i].offset) ∧ w.cell? ⟨b, off + i * 7 + 4, none⟩ = some (.int .i64 xs[i].deadline) ∧ w.cell? ⟨b, off + i * 7 + 5, none⟩ = some (.int .i64 xs[i].own) ∧ w.cell? ⟨b, off + i * 7 + 6, none⟩ = some (.slice A_code xs[i].code.length c_code) ∧ xs[i].ok ∧ xs[i].code.length ≤ c_code ∧ c_code ≤ maxLen ∧ Row Instr.cod 5 w A_code xs[i].code := by
  obtain ⟨cs, hx, _, hc⟩ := h i xs[i] (List.getElem?_eq_getElem hi)
  obtain ⟨A_code, c_code, rfl, hk, l_code, m_code, r_code⟩ := hx
  exact ⟨A_code, c_code, hc 0 _ rfl, hc 1 _ rfl, hc 2 _ rfl, hc 3 _ rfl, hc 4 _ rfl, hc 5 _ rfl, hc 6 _ rfl, hk, l_code, m_code, r_code⟩
theorem Task.opens : Opens Tryz.prog 44 Task.cod := by
  intro H enc w base spare held fuel cs x h
  obtain ⟨xs, n, _, _, hlen, hxl, hf⟩ := DataW.trod_struct Tryz.underlying44 h
  have hxl' : xs.length = 7 := hxl
  have hl' : cs.length = 7 := hlen.trans (by kernel_rfl)
  have f0 := (hf 0 _ rfl).trans (List.getElem?_eq_getElem (show 0 < xs.length by omega))
  obtain ⟨v0, e0, _, w0⟩ := DataW.trod_int Tryz.underlying3 f0
  have g0 := takeHead e0
  have f1 := (hf 1 _ rfl).trans (List.getElem?_eq_getElem (show 1 < xs.length by omega))
  obtain ⟨v1, e1, _, w1⟩ := DataW.trod_int Tryz.underlying3 f1
  have g1 := takeHead e1
  have f2 := (hf 2 _ rfl).trans (List.getElem?_eq_getElem (show 2 < xs.length by omega))
  obtain ⟨v2, e2, _, w2⟩ := DataW.trod_int Tryz.underlying3 f2
  have g2 := takeHead e2
  have f3 := (hf 3 _ rfl).trans (List.getElem?_eq_getElem (show 3 < xs.length by omega))
  obtain ⟨v3, e3, _, w3⟩ := DataW.trod_int Tryz.underlying3 f3
  have g3 := takeHead e3
  have f4 := (hf 4 _ rfl).trans (List.getElem?_eq_getElem (show 4 < xs.length by omega))
  obtain ⟨v4, e4, _, w4⟩ := DataW.trod_int Tryz.underlying3 f4
  have g4 := takeHead e4
  have f5 := (hf 5 _ rfl).trans (List.getElem?_eq_getElem (show 5 < xs.length by omega))
  obtain ⟨v5, e5, _, w5⟩ := DataW.trod_int Tryz.underlying3 f5
  have g5 := takeHead e5
  have f6 := (hf 6 _ rfl).trans (List.getElem?_eq_getElem (show 6 < xs.length by omega))
  obtain ⟨v6, A6, c6, e6, l6, m6, r6⟩ := Opens.slice (R := Instr.cod) (k := 5) Tryz.underlying42 (show Tryz.prog.cellsOf 74 = 5 by kernel_rfl) (by decide) Instr.opens _ _ _ _ _ _ _ _ _ f6
  have g6 := takeHead e6
  refine ⟨⟨v0, v1, v2, v3, v4, v5, v6⟩, A6, c6, ?_, ⟨w0, w1, w2, w3, w4, w5⟩, l6, m6, r6⟩
  refine list_of_cells [.int .i64 v0, .int .i64 v1, .int .i64 v2, .int .i64 v3, .int .i64 v4, .int .i64 v5, .slice A6 v6.length c6] hl' fun i hi => ?_
  have hi' : i < 7 := hi
  match i, hi' with
  | 0, _ => exact g0
  | 1, _ => exact g1
  | 2, _ => exact g2
  | 3, _ => exact g3
  | 4, _ => exact g4
  | 5, _ => exact g5
  | 6, _ => exact g6
end Go.Proofs.YtkkmageogkkchaaGreat
namespace Go.Proofs.YtkkmageogkkchaaGreat
set_option maxRecDepth 100000
open Go.RowKit Go.ChangeShapes Go.WideShapes

structure System where
  tasks : List Task
  objects : List Object
instance : Inhabited System := ⟨⟨[], []⟩⟩
theorem System.ext_ {x y : System} (h : x.tasks = y.tasks ∧ x.objects = y.objects) : x = y := by cases x; cases y; simp_all
instance : DecidableEq System := fun x y => decidable_of_iff (x.tasks = y.tasks ∧ x.objects = y.objects) ⟨System.ext_, fun h => by subst h; simp⟩
def System.ok (x : System) : Prop := True
def System.cod : Cod System := fun w cs x => ∃ (A_tasks : Option Addr) (c_tasks : Nat) (A_objects : Option Addr) (c_objects : Nat), cs = [.slice A_tasks x.tasks.length c_tasks, .slice A_objects x.objects.length c_objects] ∧ x.ok ∧ x.tasks.length ≤ c_tasks ∧ c_tasks ≤ maxLen ∧ Row Task.cod 7 w A_tasks x.tasks ∧ x.objects.length ≤ c_objects ∧ c_objects ≤ maxLen ∧ Row Object.cod 8 w A_objects x.objects
theorem System.mono : Mono System.cod := fun _ _ _ _ he ⟨A_tasks, c_tasks, A_objects, c_objects, h, hk, l_tasks, m_tasks, r_tasks, l_objects, m_objects, r_objects⟩ => ⟨A_tasks, c_tasks, A_objects, c_objects, h, hk, l_tasks, m_tasks, r_tasks.ext Task.mono he, l_objects, m_objects, r_objects.ext Object.mono he⟩
theorem System.size {w : World} {cs : List Value} {x : System} (h : System.cod w cs x) : cs.length = 2 := by obtain ⟨A_tasks, c_tasks, A_objects, c_objects, h, _⟩ := h; rw [h]; rfl
theorem System.at {w : World} {b off : Nat} {xs : List System} (h : Row' System.cod 2 w b off xs) (i : Nat) (hi : i < xs.length) :
    ∃ (A_tasks : Option Addr) (c_tasks : Nat) (A_objects : Option Addr) (c_objects : Nat), w.cell? ⟨b, off + i * 2, none⟩ = some (.slice A_tasks xs[i].tasks.length c_tasks) ∧ w.cell? ⟨b, off + i * 2 + 1, none⟩ = some (.slice A_objects xs[i].objects.length c_objects) ∧ xs[i].ok ∧ xs[i].tasks.length ≤ c_tasks ∧ c_tasks ≤ maxLen ∧ Row Task.cod 7 w A_tasks xs[i].tasks ∧ xs[i].objects.length ≤ c_objects ∧ c_objects ≤ maxLen ∧ Row Object.cod 8 w A_objects xs[i].objects := by
  obtain ⟨cs, hx, _, hc⟩ := h i xs[i] (List.getElem?_eq_getElem hi)
  obtain ⟨A_tasks, c_tasks, A_objects, c_objects, rfl, hk, l_tasks, m_tasks, r_tasks, l_objects, m_objects, r_objects⟩ := hx
  exact ⟨A_tasks, c_tasks, A_objects, c_objects, hc 0 _ rfl, hc 1 _ rfl, hk, l_tasks, m_tasks, r_tasks, l_objects, m_objects, r_objects⟩
theorem System.opens : Opens Tryz.prog 25 System.cod := by
  intro H enc w base spare held fuel cs x h
  obtain ⟨xs, n, _, _, hlen, hxl, hf⟩ := DataW.trod_struct Tryz.underlying25 h
  have hxl' : xs.length = 2 := hxl
  have hl' : cs.length = 2 := hlen.trans (by kernel_rfl)
  have f0 := (hf 0 _ rfl).trans (List.getElem?_eq_getElem (show 0 < xs.length by omega))
  obtain ⟨v0, A0, c0, e0, l0, m0, r0⟩ := Opens.slice (R := Task.cod) (k := 7) Tryz.underlying22 (show Tryz.prog.cellsOf 44 = 7 by kernel_rfl) (by decide) Task.opens _ _ _ _ _ _ _ _ _ f0
  have g0 := takeHead e0
  have f1 := (hf 1 _ rfl).trans (List.getElem?_eq_getElem (show 1 < xs.length by omega))
  obtain ⟨v1, A1, c1, e1, l1, m1, r1⟩ := Opens.slice (R := Object.cod) (k := 8) Tryz.underlying23 (show Tryz.prog.cellsOf 36 = 8 by kernel_rfl) (by decide) Object.opens _ _ _ _ _ _ _ _ _ f1
  have g1 := takeHead e1
  refine ⟨⟨v0, v1⟩, A0, c0, A1, c1, ?_, trivial, l0, m0, r0, l1, m1, r1⟩
  refine list_of_cells [.slice A0 v0.length c0, .slice A1 v1.length c1] hl' fun i hi => ?_
  have hi' : i < 2 := hi
  match i, hi' with
  | 0, _ => exact g0
  | 1, _ => exact g1
end Go.Proofs.YtkkmageogkkchaaGreat
namespace Go.Proofs.YtkkmageogkkchaaGreat
set_option maxRecDepth 100000
open Go.RowKit
def eTask (x : Task) : List AV := [.int .i64 x.kind, .int .i64 x.prio, .int .i64 x.period, .int .i64 x.offset, .int .i64 x.deadline, .int .i64 x.own, .lst 5 (x.code.map eInstr)]
theorem br_Task : Br Task.cod eTask := fun w cs x ⟨A_code, c_code, h1, hk, l_code, m_code, r_code⟩ => by
  subst h1
  obtain ⟨h_kind, h_prio, h_period, h_offset, h_deadline, h_own⟩ := hk
  exact (((((((L2.nil _).cons (br_row br_Instr (fun _ => rfl) r_code l_code m_code)).cons (.int _ _ (rangeP_wf.2 h_own))).cons (.int _ _ (rangeP_wf.2 h_deadline))).cons (.int _ _ (rangeP_wf.2 h_offset))).cons (.int _ _ (rangeP_wf.2 h_period))).cons (.int _ _ (rangeP_wf.2 h_prio))).cons (.int _ _ (rangeP_wf.2 h_kind))
end Go.Proofs.YtkkmageogkkchaaGreat
namespace Go.Proofs.YtkkmageogkkchaaGreat
set_option maxRecDepth 100000
open Go.RowKit
def eSystem (x : System) : List AV := [.lst 7 (x.tasks.map eTask), .lst 8 (x.objects.map eObject)]
theorem br_System : Br System.cod eSystem := fun w cs x ⟨A_tasks, c_tasks, A_objects, c_objects, h1, _, l_tasks, m_tasks, r_tasks, l_objects, m_objects, r_objects⟩ => by
  subst h1
  exact ((L2.nil _).cons (br_row br_Object (fun _ => rfl) r_objects l_objects m_objects)).cons (br_row br_Task (fun _ => rfl) r_tasks l_tasks m_tasks)
end Go.Proofs.YtkkmageogkkchaaGreat
