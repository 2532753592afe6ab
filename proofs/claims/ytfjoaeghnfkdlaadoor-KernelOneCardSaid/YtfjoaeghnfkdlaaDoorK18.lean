/- Whether a task's numbers may be, over abstract values. No condition. -/
import Derived.Test.YtfjoaeghnfkdlaaDoorK12
import Derived.Test.YtfjoaeghnfkdlaaDoorK13
import Derived.Test.YtfjoaeghnfkdlaaDoorK8
import Derived.Test.YtfjoaeghnfkdlaaDoorK9
import Derived.Test.YtfjoaeghnfkdlaaDoorK10
set_option linter.unusedSimpArgs false
set_option linter.unusedVariables false
set_option maxHeartbeats 1000000
namespace Go.Proofs.YtfjoaeghnfkdlaaDoor
set_option maxRecDepth 100000
open Go.RowKit
theorem within_fn (n low high : Int) : Fn Tryd.prog 55 [.int .i64 n, .int .i64 low, .int .i64 high] (.bool (decide (low ≤ n ∧ n ≤ high))) := by
  refine fnb Tryd.func55 (entered_of (by kernel_rfl)) rfl rfl rfl ?_
  repeat' (first | refine sA ?_ | ((first | apply kM | apply kN); (iterate 3 (· exact rfl)); (· first | exact ya)) | refine sG ?_ | (refine sK ?_ ?_ <;> intro hc <;> (try simp only [KL, sL, reduceCtorEq] at hc) <;> (try (have hT : True := hc; clear hT hc)) <;> (try (exfalso; omega))))
  all_goals exact retq rfl (congrArg AV.bool (by rw [Bool.eq_iff_iff]; (try simp only [cond_true, cond_false, decide_eq_true_eq, Bool.not_eq_true', decide_eq_false_iff_not, Bool.and_eq_true, Bool.or_eq_true, true_iff, false_iff, iff_true, iff_false, Bool.false_eq_true, Bool.not_true, Bool.not_false, reduceCtorEq]); (first | done | omega | (constructor <;> intros <;> omega))))
def plainB (t : Task) : Bool := decide ((t.kind = 1 ∨ t.kind = 2 ∧ t.offset = 0) ∧ (0 ≤ t.prio ∧ t.prio ≤ 255) ∧ (1 ≤ t.period ∧ t.period ≤ 1048576) ∧ (0 ≤ t.offset ∧ t.offset ≤ 1048576) ∧ (1 ≤ t.deadline ∧ t.deadline ≤ t.period) ∧ (1 ≤ t.own ∧ t.own ≤ 64))
theorem plain_fn (t : Task) : Fn Tryd.prog 32 [.agg (eTask t)] (.bool (plainB t)) := by
  refine fnb Tryd.func32 (entered_of (by kernel_rfl)) rfl rfl rfl ?_
  repeat' (first | refine sA ?_ | ((first | apply kM | apply kN); (iterate 3 (· exact rfl)); (· first | exact ya | exact q_c (within_fn _ _ _) rfl)) | refine sG ?_ | (refine sK ?_ ?_ <;> intro hc <;> (try simp only [KL, sL, reduceCtorEq] at hc) <;> (try (have hT : True := hc; clear hT hc)) <;> (try (exfalso; omega))))
  all_goals exact retq rfl (congrArg AV.bool (by rw [Bool.eq_iff_iff]; (try simp only [plainB, cond_true, cond_false, decide_eq_true_eq, Bool.not_eq_true', decide_eq_false_iff_not, Bool.and_eq_true, Bool.or_eq_true, true_iff, false_iff, iff_true, iff_false, Bool.false_eq_true, Bool.not_true, Bool.not_false, reduceCtorEq]); (first | done | omega | (constructor <;> intros <;> omega))))
set_option maxHeartbeats 4000000 in
theorem rplain_fn (t : Task) : Fn Tryd.prog 23 [.agg (eTask t)] (.bool (plainB t)) := by
  refine fnb Tryd.func23 (entered_of (by kernel_rfl)) rfl rfl rfl ?_
  repeat' (first | refine sA ?_ | ((first | apply kM | apply kN); (iterate 3 (· exact rfl)); (· first | exact ya)) | refine sG ?_ | (refine sK ?_ ?_ <;> intro hc <;> (try simp only [KL, sL, reduceCtorEq] at hc) <;> (try (have hT : True := hc; clear hT hc)) <;> (try (exfalso; omega))))
  all_goals exact retq rfl (congrArg AV.bool (by rw [Bool.eq_iff_iff]; (try simp only [plainB, cond_true, cond_false, decide_eq_true_eq, Bool.not_eq_true', decide_eq_false_iff_not, Bool.and_eq_true, Bool.or_eq_true, true_iff, false_iff, iff_true, iff_false, Bool.false_eq_true, Bool.not_true, Bool.not_false, reduceCtorEq]); (first | done | omega | (constructor <;> intros <;> omega))))
end Go.Proofs.YtfjoaeghnfkdlaaDoor
namespace Go.Proofs.YtfjoaeghnfkdlaaDoor
set_option maxRecDepth 100000
open Go.RowKit
theorem plainB_spec {t : Task} (h : plainB t = true) : (t.kind = 1 ∨ t.kind = 2 ∧ t.offset = 0) ∧ (0 ≤ t.prio ∧ t.prio ≤ 255) ∧ (1 ≤ t.period ∧ t.period ≤ 1048576) ∧ (0 ≤ t.offset ∧ t.offset ≤ 1048576) ∧ (1 ≤ t.deadline ∧ t.deadline ≤ t.period) ∧ (1 ≤ t.own ∧ t.own ≤ 64) := of_decide_eq_true h
theorem periodic_fn (t : Task) : Fn Tryd.prog 56 [.agg (eTask t)] (.bool (plainB t && decide (t.kind = 1))) := by
  refine fnb Tryd.func56 (entered_of (by kernel_rfl)) rfl rfl rfl ?_
  repeat' (first | refine sA ?_ | ((first | apply kM | apply kN); (iterate 3 (· exact rfl)); (· first | exact ya | exact q_c (plain_fn _) rfl)) | refine sG ?_ | (refine sK ?_ ?_ <;> intro hc <;> (try simp only [KL, sL, reduceCtorEq] at hc) <;> (try (have hT : True := hc; clear hT hc)) <;> (try (exfalso; omega))))
  all_goals exact retq rfl (congrArg AV.bool (by simp [*]))
def ceilZ (a b : Int) : Int := if a < 1 ∨ b < 1 then 0 else (a - 1) / b + 1
theorem ceil_fn (a b : Int) : Fn Tryd.prog 57 [.int .i64 a, .int .i64 b] (.int .i64 (ceilZ a b)) := by
  refine fnb Tryd.func57 (entered_of (by kernel_rfl)) rfl rfl rfl ?_
  refine wrange 0 rfl (fun hr => ?_)
  simp only [rangeP] at hr
  have hd : 1 ≤ a → 1 ≤ b → 0 ≤ (a - 1) / b ∧ (a - 1) / b ≤ a - 1 := fun h1 h2 => ⟨Int.ediv_nonneg (by omega) (by omega), Int.ediv_le_self _ (by omega)⟩
  by_cases h1 : a < 1
  · repeat' (first | refine sA ?_ | ((first | apply kM | apply kN); (iterate 3 (· exact rfl)); (· first | exact ya)) | refine sG ?_ | (refine sK ?_ ?_ <;> intro hc <;> (try simp only [KL, sL, reduceCtorEq] at hc) <;> (try (have hT : True := hc; clear hT hc)) <;> (try (exfalso; omega))))
    all_goals first | (exfalso; omega) | exact retq rfl (congrArg (AV.int _) (by rw [ceilZ, if_pos (.inl h1)]))
  by_cases h2 : b < 1
  · repeat' (first | refine sA ?_ | ((first | apply kM | apply kN); (iterate 3 (· exact rfl)); (· first | exact ya)) | refine sG ?_ | (refine sK ?_ ?_ <;> intro hc <;> (try simp only [KL, sL, reduceCtorEq] at hc) <;> (try (have hT : True := hc; clear hT hc)) <;> (try (exfalso; omega))))
    all_goals first | (exfalso; omega) | exact retq rfl (congrArg (AV.int _) (by rw [ceilZ, if_pos (.inr h2)]))
  have hd := hd (by omega) (by omega)
  repeat' (first | refine sA ?_ | ((first | apply kM | apply kN); (iterate 3 (· exact rfl)); (· first | exact ya)) | refine sG ?_ | (refine sK ?_ ?_ <;> intro hc <;> (try simp only [KL, sL, reduceCtorEq] at hc) <;> (try (have hT : True := hc; clear hT hc)) <;> (try (exfalso; omega))))
  all_goals exact retq rfl (congrArg (AV.int _) (by rw [ceilZ, if_neg (by omega)]))
def nextZ (t : Task) (frm : Int) : Int :=
  if plainB t = true ∧ t.kind = 1 ∧ frm ≤ 1099511627776 then (let at_ := if frm ≤ t.offset then t.offset else t.offset + ceilZ (frm - t.offset) t.period * t.period; if at_ > 1099511627776 then -1 else at_) else -1
theorem ceil_mul (a p : Int) (h1 : 1 ≤ a) (h2 : 1 ≤ p) : a ≤ ceilZ a p * p ∧ ceilZ a p * p ≤ a - 1 + p := by
  rw [ceilZ, if_neg (by omega), Int.add_mul, Int.one_mul]
  have h3 := Int.mul_ediv_add_emod (a - 1) p
  have h4 := Int.emod_nonneg (a - 1) (show p ≠ 0 by omega)
  have h5 := Int.emod_lt_of_pos (a - 1) (show 0 < p by omega)
  rw [Int.mul_comm] at h3
  omega
theorem ceil_range (a p : Int) (h1 : 1 ≤ a) (h2 : 1 ≤ p) : 1 ≤ ceilZ a p ∧ ceilZ a p ≤ a := by
  rw [ceilZ, if_neg (by omega)]
  have h3 := Int.ediv_nonneg (show 0 ≤ a - 1 by omega) (show 0 ≤ p by omega)
  have h4 := Int.ediv_le_self p (show 0 ≤ a - 1 by omega)
  omega
theorem next_fn (t : Task) (frm : Int) : Fn Tryd.prog 36 [.agg (eTask t), .int .i64 frm] (.tup [.int .i64 (if nextZ t frm < 0 then 0 else nextZ t frm), .bool (decide (0 ≤ nextZ t frm))]) := by
  refine fnb Tryd.func36 (entered_of (by kernel_rfl)) rfl rfl rfl ?_
  refine wrange 1 rfl (fun hr => ?_)
  simp only [rangeP] at hr
  cases hp : plainB t && decide (t.kind = 1)
  · have e : nextZ t frm = -1 := by
      rw [nextZ, if_neg]; intro h; simp [h.1, h.2.1] at hp
    rw [e]
    repeat' (first | refine sA ?_ | ((first | apply kM | apply kN); (iterate 3 (· exact rfl)); (· first | exact ya | exact q_c (periodic_fn _) rfl)) | refine sG ?_ | (refine sK ?_ ?_ <;> intro hc <;> (try simp only [KL, sL, reduceCtorEq] at hc) <;> (try (have hT : True := hc; clear hT hc)) <;> (try (exfalso; omega))))
    all_goals first | (exfalso; simp_all; done) | exact retq rfl rfl
  simp only [Bool.and_eq_true, decide_eq_true_eq] at hp
  obtain ⟨hp, hk⟩ := hp
  have hpp : (plainB t && decide (t.kind = 1)) = true := by simp [hp, hk]
  obtain ⟨_, _, h3, h4, _, _⟩ := plainB_spec hp
  by_cases htop : frm ≤ 1099511627776
  case neg =>
    have e : nextZ t frm = -1 := by rw [nextZ, if_neg]; intro h; omega
    rw [e]
    repeat' (first | refine sA ?_ | ((first | apply kM | apply kN); (iterate 3 (· exact rfl)); (· first | exact ya | exact q_c (periodic_fn _) rfl)) | refine sG ?_ | (refine sK ?_ ?_ <;> intro hc <;> (try simp only [KL, sL, reduceCtorEq] at hc) <;> (try (have hT : True := hc; clear hT hc)) <;> (try (exfalso; omega))))
    all_goals first | (exfalso; simp_all; done) | (exfalso; omega) | exact retq rfl rfl
  by_cases hlow : frm ≤ t.offset
  · have e : nextZ t frm = t.offset := by rw [nextZ, if_pos ⟨hp, hk, htop⟩]; simp only [if_pos hlow]; rw [if_neg (by omega)]
    rw [e, if_neg (by omega)]
    repeat' (first | refine sA ?_ | ((first | apply kM | apply kN); (iterate 3 (· exact rfl)); (· first | exact ya | exact q_c (periodic_fn _) rfl | exact q_c (ceil_fn _ _) rfl | exact q_w rfl)) | refine sG ?_ | (refine sK ?_ ?_ <;> intro hc <;> (try simp only [KL, sL, reduceCtorEq] at hc) <;> (try (have hT : True := hc; clear hT hc)) <;> (try (exfalso; omega))))
    all_goals first | (exfalso; simp_all; done) | (exfalso; omega) | exact retq rfl (by rw [decide_eq_true (show 0 ≤ t.offset by omega)])
  · have hm := ceil_mul (frm - t.offset) t.period (by omega) (by omega)
    have hm2 := ceil_range (frm - t.offset) t.period (by omega) (by omega)
    by_cases hbig : t.offset + ceilZ (frm - t.offset) t.period * t.period > 1099511627776
    · have e : nextZ t frm = -1 := by rw [nextZ, if_pos ⟨hp, hk, htop⟩]; simp only [if_neg hlow]; rw [if_pos hbig]
      rw [e]
      repeat' (first | refine sA ?_ | ((first | apply kM | apply kN); (iterate 3 (· exact rfl)); (· first | exact ya | exact q_c (periodic_fn _) rfl | exact q_c (ceil_fn _ _) rfl)) | refine sG ?_ | (refine sK ?_ ?_ <;> intro hc <;> (try simp only [KL, sL, reduceCtorEq] at hc) <;> (try (have hT : True := hc; clear hT hc)) <;> (try (exfalso; omega))))
      all_goals first | (exfalso; simp_all; done) | (exfalso; omega) | exact retq rfl rfl
    · have e : nextZ t frm = t.offset + ceilZ (frm - t.offset) t.period * t.period := by rw [nextZ, if_pos ⟨hp, hk, htop⟩]; simp only [if_neg hlow]; rw [if_neg hbig]
      rw [e, if_neg (by omega)]
      repeat' (first | refine sA ?_ | ((first | apply kM | apply kN); (iterate 3 (· exact rfl)); (· first | exact ya | exact q_c (periodic_fn _) rfl | exact q_c (ceil_fn _ _) rfl)) | refine sG ?_ | (refine sK ?_ ?_ <;> intro hc <;> (try simp only [KL, sL, reduceCtorEq] at hc) <;> (try (have hT : True := hc; clear hT hc)) <;> (try (exfalso; omega))))
      all_goals first | (exfalso; simp_all; done) | (exfalso; omega) | exact retq rfl (by rw [decide_eq_true (show 0 ≤ t.offset + ceilZ (frm - t.offset) t.period * t.period by omega)])
end Go.Proofs.YtfjoaeghnfkdlaaDoor
namespace Go.Proofs.YtfjoaeghnfkdlaaDoor
set_option maxRecDepth 100000
open Go.RowKit
def okF (period : Int) (lt : List Int) (x : Int) : Bool := decide (0 ≤ x ∧ 1 ≤ period) && (match lt.getLast? with | none => true | some l => decide (l ≤ x ∧ period ≤ x - l))
def stepF (period : Int) (st : List Int × List Int) (x : Int) : List Int × List Int := if okF period st.1 x then (st.1 ++ [x], st.2) else (st.1, st.2 ++ [x])
def filtF (period : Int) (asks : List Int) : List Int × List Int := asks.foldl (stepF period) ([], [])
def apartL (period : Int) : List Int → Prop
  | [] => True
  | [x] => 0 ≤ x
  | x :: y :: r => 0 ≤ x ∧ x ≤ y ∧ period ≤ y - x ∧ apartL period (y :: r)
def lastF (lt : List Int) : Int := (lt.getLast?).getD 0
end Go.Proofs.YtfjoaeghnfkdlaaDoor
namespace Go.Proofs.YtfjoaeghnfkdlaaDoor
set_option maxRecDepth 100000
open Go.RowKit
end Go.Proofs.YtfjoaeghnfkdlaaDoor
namespace Go.Proofs.YtfjoaeghnfkdlaaDoor
set_option maxRecDepth 100000
set_option maxRecDepth 100000
open Go.RowKit
def ltcDue (c : Due → Due → Int) (x y : Due) : Bool := decide (c x y < 0)
end Go.Proofs.YtfjoaeghnfkdlaaDoor
namespace Go.Proofs.YtfjoaeghnfkdlaaDoor
set_option maxRecDepth 100000
set_option maxRecDepth 100000
open Go.RowKit
end Go.Proofs.YtfjoaeghnfkdlaaDoor
namespace Go.Proofs.YtfjoaeghnfkdlaaDoor
set_option maxRecDepth 100000
set_option maxRecDepth 100000
open Go.RowKit
end Go.Proofs.YtfjoaeghnfkdlaaDoor
namespace Go.Proofs.YtfjoaeghnfkdlaaDoor
set_option maxRecDepth 100000
open Go.RowKit
--BEGIN
def ltD (a b : Due) : Bool := decide (a.at_ < b.at_ ∨ a.at_ = b.at_ ∧ a.task < b.task)
def leD (a b : Due) : Prop := a.at_ < b.at_ ∨ a.at_ = b.at_ ∧ a.task ≤ b.task
theorem leD_anti {a b : Due} (h1 : leD a b) (h2 : leD b a) : a = b := by
  apply Due.ext_
  unfold leD at h1 h2
  omega
def putD : List Due → Due → List Due
  | [], d => [d]
  | x :: r, d => if ltD d x then d :: x :: r else x :: putD r d
def sortD (l : List Due) : List Due := l.foldl putD []
theorem putD_at : ∀ (l : List Due) (d : Due) (k : Nat), (∀ j, j < k → ltD d (l.getD j default) = false) → (k = l.length ∨ k < l.length ∧ ltD d (l.getD k default) = true) → putD l d = l.take k ++ d :: l.drop k
  | [], d, k, _, h => by
    rcases h with rfl | ⟨h, _⟩
    · rfl
    · simp at h
  | x :: r, d, 0, _, h => by
    rcases h with h | ⟨_, h⟩
    · simp at h
    · rw [putD, if_pos (by simpa using h)]; rfl
  | x :: r, d, k + 1, h1, h => by
    have h0 := h1 0 (by omega)
    simp only [List.getD_cons_zero] at h0
    rw [putD, if_neg (by rw [h0]; exact Bool.false_ne_true), putD_at r d k (fun j hj => by have := h1 (j + 1) (by omega); simpa using this) (by simpa using h)]
    rfl
theorem putD_perm : ∀ (l : List Due) (d : Due), (putD l d).Perm (d :: l)
  | [], d => List.Perm.refl _
  | x :: r, d => by
    rw [putD]
    split
    · exact List.Perm.refl _
    · exact ((putD_perm r d).cons x).trans (List.Perm.swap d x r)
theorem putD_srt : ∀ (l : List Due) (d : Due), l.Pairwise leD → (putD l d).Pairwise leD
  | [], d, _ => by simp [putD]
  | x :: r, d, h => by
    rw [List.pairwise_cons] at h
    rw [putD]
    split
    · rename_i hlt
      simp only [ltD, decide_eq_true_eq] at hlt
      refine List.pairwise_cons.2 ⟨fun y hy => ?_, List.pairwise_cons.2 h⟩
      rcases List.mem_cons.1 hy with rfl | hy
      · unfold leD; omega
      · have := h.1 y hy; unfold leD at *; omega
    · rename_i hlt
      simp only [ltD, decide_eq_true_eq] at hlt
      refine List.pairwise_cons.2 ⟨fun y hy => ?_, putD_srt r d h.2⟩
      rcases List.mem_cons.1 ((putD_perm r d).mem_iff.1 hy) with rfl | hy
      · unfold leD; omega
      · exact h.1 y hy
theorem sortD_fold : ∀ (l a : List Due), a.Pairwise leD → (l.foldl putD a).Perm (l ++ a) ∧ (l.foldl putD a).Pairwise leD
  | [], a, h => ⟨List.Perm.refl _, h⟩
  | x :: l, a, h => by
    obtain ⟨h1, h2⟩ := sortD_fold l (putD a x) (putD_srt a x h)
    refine ⟨h1.trans (((putD_perm a x).append_left l).trans ?_), h2⟩
    exact List.perm_middle
theorem sortD_perm (l : List Due) : (sortD l).Perm l := by simpa [sortD] using (sortD_fold l [] List.Pairwise.nil).1
theorem sortD_srt (l : List Due) : (sortD l).Pairwise leD := (sortD_fold l [] List.Pairwise.nil).2
theorem sortD_eq {l r : List Due} (h1 : r.Perm l) (h2 : r.Pairwise leD) : r = sortD l :=
  List.Perm.eq_of_pairwise (le := leD) (fun a b _ _ h3 h4 => leD_anti h3 h4) h2 (sortD_srt l) (h1.trans (sortD_perm l).symm)
theorem sortD_len (l : List Due) : (sortD l).length = l.length := (sortD_perm l).length_eq
theorem sortD_next (l : List Due) (k : Nat) (h : k < l.length) : sortD (l.take (k + 1)) = putD (sortD (l.take k)) (l.getD k default) := by
  rw [List.take_succ_eq_append_getElem h, sortD, List.foldl_append]
  simp [sortD, h]
structure Gt where
  per : Int
  last : Int
  op : Bool
instance : Inhabited Gt := ⟨⟨0, 0, false⟩⟩
def perG (t : Task) : Int := if plainB t = true ∧ t.kind = 2 then t.period else 0
def passD (g : Gt) (x : Int) : Bool := decide (0 ≤ x ∧ 1 ≤ g.per) && (!g.op || decide (g.last ≤ x ∧ g.per ≤ x - g.last))
def gates0 (l : List Task) : List Gt := l.map fun t => ⟨perG t, 0, false⟩
structure S27 where
  gs : List Gt
  lt : List Due
  rf : List Due
def okA (ticks : Int) (s : S27) (d : Due) : Bool := decide (0 ≤ d.task ∧ d.task < s.gs.length ∧ d.at_ < ticks) && passD (s.gs.getD d.task.toNat default) d.at_
def stepA (ticks : Int) (s : S27) (d : Due) : S27 := if okA ticks s d then ⟨s.gs.set d.task.toNat ⟨(s.gs.getD d.task.toNat default).per, d.at_, true⟩, s.lt ++ [d], s.rf⟩ else ⟨s.gs, s.lt, s.rf ++ [d]⟩
def timesN (t : Task) (lim : Int) : Nat := if plainB t = true ∧ t.kind = 1 then (ceilZ (lim - t.offset) t.period).toNat else 0
def dueAt (t : Task) (i k : Nat) : Due := ⟨t.offset + k * t.period, i⟩
def letO (t : Task) (i n : Nat) : List Due := (List.range n).map (dueAt t i)
def letT (l : List Task) (lim : Int) (i : Nat) : List Due := (List.range i).flatMap fun j => letO (l.getD j default) j (timesN (l.getD j default) lim)
def runA (l : List Task) (asks : List Due) (ticks : Int) : S27 := asks.foldl (stepA ticks) ⟨gates0 l, letT l ticks l.length, []⟩
def allA (l : List Task) (asks : List Due) (ticks : Int) : List Due × List Due := (sortD (runA l (sortD asks) ticks).lt, (runA l (sortD asks) ticks).rf)
theorem letO_next (t : Task) (i n : Nat) : letO t i (n + 1) = letO t i n ++ [dueAt t i n] := by simp [letO, List.range_succ]
theorem letO_len (t : Task) (i n : Nat) : (letO t i n).length = n := by simp [letO]
theorem letT_next (l : List Task) (lim : Int) (i : Nat) : letT l lim (i + 1) = letT l lim i ++ letO (l.getD i default) i (timesN (l.getD i default) lim) := by simp [letT, List.range_succ]
theorem timesN_pos {t : Task} {lim : Int} (h : plainB t = true) (hk : t.kind = 1) (k : Nat) : k < timesN t lim ↔ t.offset + k * t.period < lim := by
  obtain ⟨_, _, h3, h4, _, _⟩ := plainB_spec h
  rw [timesN, if_pos ⟨h, hk⟩, ceilZ]
  split
  · rename_i hc
    have h5 : 0 ≤ (k : Int) * t.period := Int.mul_nonneg (by omega) (by omega)
    constructor
    · intro h; simp at h
    · intro h; omega
  · rename_i hc
    have h6 := Int.ediv_nonneg (show 0 ≤ lim - t.offset - 1 by omega) (show 0 ≤ t.period by omega)
    have h7 : (k : Int) ≤ (lim - t.offset - 1) / t.period ↔ (k : Int) * t.period ≤ lim - t.offset - 1 := Int.le_ediv_iff_mul_le (by omega)
    omega
theorem timesN_no {t : Task} {lim : Int} (h : ¬(plainB t = true ∧ t.kind = 1)) : timesN t lim = 0 := by rw [timesN, if_neg h]
theorem timesN_le (t : Task) (lim : Int) (m : Nat) (hm : lim ≤ m) : timesN t lim ≤ m := by
  by_cases h : plainB t = true ∧ t.kind = 1
  · have h1 := timesN_pos (lim := lim) h.1 h.2 m
    obtain ⟨_, _, h3, h4, _, _⟩ := plainB_spec h.1
    have h5 : (m : Int) ≤ (m : Int) * t.period := by
      have := Int.mul_le_mul_of_nonneg_left (show (1 : Int) ≤ t.period by omega) (show (0 : Int) ≤ m by omega)
      omega
    omega
  · rw [timesN_no h]; omega
theorem letT_len (l : List Task) (lim : Int) (m : Nat) (hm : lim ≤ m) : ∀ i, (letT l lim i).length ≤ i * m
  | 0 => by simp [letT]
  | i + 1 => by
    have h1 := letT_len l lim m hm i
    have h2 := timesN_le (l.getD i default) lim m hm
    rw [letT_next, List.length_append, letO_len, Nat.add_mul]
    omega
theorem run_next (l : List Task) (asks : List Due) (ticks : Int) (k : Nat) (h : k < asks.length) : runA l (asks.take (k + 1)) ticks = stepA ticks (runA l (asks.take k) ticks) (asks.getD k default) := by
  rw [List.take_succ_eq_append_getElem h, runA, List.foldl_append]
  simp [runA, h]
theorem step_len (ticks : Int) (s : S27) (d : Due) : (stepA ticks s d).lt.length + (stepA ticks s d).rf.length = s.lt.length + s.rf.length + 1 := by
  unfold stepA; split <;> simp <;> omega
structure Inv (l : List Task) (ticks : Int) (s : S27) : Prop where
  len : s.gs.length = l.length
  per : ∀ j, j < l.length → (s.gs.getD j default).per = perG (l.getD j default)
  low : ∀ j, j < l.length → 0 ≤ (s.gs.getD j default).last ∧ ((s.gs.getD j default).op = true → (s.gs.getD j default).last < ticks)
  mem : ∀ d ∈ s.lt, 0 ≤ d.task ∧ d.task < l.length ∧ 0 ≤ d.at_ ∧ d.at_ < ticks ∧ 1 ≤ (l.getD d.task.toNat default).period
  gate : ∀ d ∈ s.lt, 1 ≤ perG (l.getD d.task.toNat default) → (s.gs.getD d.task.toNat default).op = true ∧ d.at_ ≤ (s.gs.getD d.task.toNat default).last
  apart : s.lt.Pairwise fun a b => a.task = b.task → a.at_ + (l.getD a.task.toNat default).period ≤ b.at_
theorem perG_le (t : Task) : perG t = 0 ∨ perG t = t.period ∧ 1 ≤ t.period ∧ t.period ≤ 1048576 ∧ plainB t = true ∧ t.kind = 2 := by
  unfold perG
  split
  · rename_i h; have := plainB_spec h.1; exact .inr ⟨rfl, by omega, by omega, h.1, h.2⟩
  · exact .inl rfl
theorem inv0 (l : List Task) (ticks : Int) : Inv l ticks ⟨gates0 l, letT l ticks l.length, []⟩ := by
  have hg : ∀ j, j < l.length → (gates0 l).getD j default = ⟨perG (l.getD j default), 0, false⟩ := fun j hj => by simp [gates0, hj]
  have hm : ∀ j d, d ∈ letO (l.getD j default) j (timesN (l.getD j default) ticks) → d.task = j ∧ ∃ k, d.at_ = (l.getD j default).offset + (k : Nat) * (l.getD j default).period ∧ (plainB (l.getD j default) = true ∧ (l.getD j default).kind = 1) ∧ d.at_ < ticks := fun j d hd => by
    obtain ⟨k, hk, rfl⟩ := List.mem_map.1 hd
    rw [List.mem_range] at hk
    by_cases hp : plainB (l.getD j default) = true ∧ (l.getD j default).kind = 1
    · exact ⟨rfl, k, rfl, hp, (timesN_pos hp.1 hp.2 k).1 hk⟩
    · rw [timesN_no hp] at hk; omega
  have hmm : ∀ d, d ∈ letT l ticks l.length → ∃ j, j < l.length ∧ d ∈ letO (l.getD j default) j (timesN (l.getD j default) ticks) := fun d hd => by
    obtain ⟨j, hj, hd⟩ := List.mem_flatMap.1 hd
    exact ⟨j, List.mem_range.1 hj, hd⟩
  refine ⟨by simp [gates0], fun j hj => by rw [hg j hj], fun j hj => by rw [hg j hj]; exact ⟨Int.le_refl 0, fun h => by cases h⟩, fun d hd => ?_, fun d hd h1 => ?_, ?_⟩
  · obtain ⟨j, hj, hd⟩ := hmm d hd
    obtain ⟨e1, k, e2, hp, e3⟩ := hm j d hd
    obtain ⟨_, _, h3, h4, _, _⟩ := plainB_spec hp.1
    have h5 : 0 ≤ (k : Int) * (l.getD j default).period := Int.mul_nonneg (by omega) (by omega)
    rw [e1, show ((j : Int).toNat) = j by omega]
    exact ⟨by omega, by omega, by omega, e3, h3.1⟩
  · exfalso
    obtain ⟨j, hj, hd⟩ := hmm d hd
    obtain ⟨e1, k, e2, hp, e3⟩ := hm j d hd
    rw [e1, show ((j : Int).toNat) = j by omega] at h1
    rcases perG_le (l.getD j default) with h2 | h2
    · omega
    · omega
  · show (letT l ticks l.length).Pairwise _
    rw [letT, List.pairwise_flatMap]
    refine ⟨fun j hj => ?_, List.pairwise_lt_range.imp_of_mem fun {a b} ha hb hab x hx y hy he => ?_⟩
    · by_cases hp : plainB (l.getD j default) = true ∧ (l.getD j default).kind = 1
      · obtain ⟨_, _, h3, h4, _, _⟩ := plainB_spec hp.1
        rw [letO, List.pairwise_map]
        refine List.pairwise_lt_range.imp fun {a b} hab _ => ?_
        simp only [dueAt]
        rw [show ((j : Int).toNat) = j by omega]
        have h5 := Int.mul_le_mul_of_nonneg_right (show ((a : Int) + 1) ≤ b by omega) (show 0 ≤ (l.getD j default).period by omega)
        rw [Int.add_mul, Int.one_mul] at h5
        omega
      · rw [timesN_no hp]; simp [letO]
    · have h1 := (hm a x hx).1
      have h2 := (hm b y hy).1
      omega
theorem inv_step {l : List Task} {ticks : Int} {s : S27} (h : Inv l ticks s) (d : Due) : Inv l ticks (stepA ticks s d) := by
  unfold stepA
  split
  case isFalse => exact ⟨h.len, h.per, h.low, h.mem, h.gate, h.apart⟩
  rename_i hok
  simp only [okA, passD, Bool.and_eq_true, decide_eq_true_eq, Bool.or_eq_true, Bool.not_eq_true'] at hok
  obtain ⟨⟨h1, h2, h3⟩, ⟨h4, h5⟩, h6⟩ := hok
  rw [h.len] at h2
  obtain ⟨j, hj⟩ : ∃ j : Nat, d.task = j := ⟨d.task.toNat, by omega⟩
  have hjn : d.task.toNat = j := by omega
  have hjl : j < l.length := by omega
  rw [hjn] at h5 h6 ⊢
  have hp := h.per j hjl
  rw [hp] at h5
  have hset : ∀ i, i < l.length → (s.gs.set j ⟨(s.gs.getD j default).per, d.at_, true⟩).getD i default = if i = j then ⟨(s.gs.getD j default).per, d.at_, true⟩ else s.gs.getD i default := fun i hi => by
    have hi' : i < s.gs.length := by rw [h.len]; exact hi
    simp only [List.getD_eq_getElem?_getD, List.getElem?_set, hi']
    split
    · rename_i e; subst e; simp [hi']
    · rename_i e; rw [if_neg (fun e' => e e'.symm)]
  have hpp : 1 ≤ (l.getD j default).period ∧ perG (l.getD j default) = (l.getD j default).period := by
    rcases perG_le (l.getD j default) with h8 | h8
    · omega
    · exact ⟨h8.2.1, h8.1⟩
  refine ⟨by simp [h.len], fun i hi => ?_, fun i hi => ?_, fun e he => ?_, fun e he h8 => ?_, ?_⟩
  · simp only
    rw [hset i hi]
    split
    · rename_i e; subst e; exact hp
    · exact h.per i hi
  · simp only
    rw [hset i hi]
    split
    · exact ⟨h4, fun _ => h3⟩
    · exact h.low i hi
  · simp only at he
    rcases List.mem_append.1 he with he | he
    · exact h.mem e he
    · rw [List.mem_singleton] at he
      subst he
      rw [hjn]
      exact ⟨h1, by omega, h4, h3, hpp.1⟩
  · simp only at he ⊢
    rcases List.mem_append.1 he with he | he
    · have h9 := h.mem e he
      have h10 := h.gate e he h8
      rw [hset _ (by omega)]
      split
      · rename_i e2
        refine ⟨rfl, ?_⟩
        simp only
        rw [e2] at h10
        rcases h6 with h6 | h6
        · rw [h6] at h10; exact absurd h10.1 Bool.false_ne_true
        · omega
      · exact h10
    · rw [List.mem_singleton] at he
      subst he
      rw [hset _ (by omega), if_pos hjn]
      exact ⟨rfl, Int.le_refl _⟩
  · simp only
    refine List.pairwise_append.2 ⟨h.apart, List.pairwise_singleton _ _, fun a ha b hb hab => ?_⟩
    rw [List.mem_singleton] at hb
    subst hb
    rw [hab, hjn]
    have h9 := h.gate a ha (by rw [hab, hjn]; omega)
    rw [hab, hjn] at h9
    rcases h6 with h6 | h6
    · rw [h6] at h9; exact absurd h9.1 Bool.false_ne_true
    · rw [hp] at h6; omega
theorem inv_fold {l : List Task} {ticks : Int} : ∀ (asks : List Due) (s : S27), Inv l ticks s → Inv l ticks (asks.foldl (stepA ticks) s)
  | [], s, h => h
  | d :: r, s, h => inv_fold r _ (inv_step h d)
theorem inv_run (l : List Task) (asks : List Due) (ticks : Int) : Inv l ticks (runA l asks ticks) := inv_fold asks _ (inv0 l ticks)
theorem run_len (l : List Task) (ticks : Int) : ∀ (asks : List Due) (s : S27), (asks.foldl (stepA ticks) s).lt.length + (asks.foldl (stepA ticks) s).rf.length = s.lt.length + s.rf.length + asks.length
  | [], s => rfl
  | d :: r, s => by
    have h1 := run_len l ticks r (stepA ticks s d)
    have h2 := step_len ticks s d
    rw [List.foldl_cons, h1, List.length_cons]
    omega
end Go.Proofs.YtfjoaeghnfkdlaaDoor
namespace Go.Proofs.YtfjoaeghnfkdlaaDoor
set_option maxRecDepth 100000
set_option maxRecDepth 100000
open Go.RowKit
def orI (a b : Int) : Int := if a ≠ 0 then a else b
def cmpD (x y : Due) : Int := orI (cmpI x.at_ y.at_) (cmpI x.task y.task)
theorem rahead05_fn (a b : Due) : Fn Tryd.prog 53 [.agg (eDue a), .agg (eDue b)] (.bool (ltD a b)) := by
  refine fnb Tryd.func53 (entered_of (by kernel_rfl)) rfl rfl rfl ?_
  repeat' (first | refine sA ?_ | ((first | apply kM | apply kN); (iterate 3 (· exact rfl)); (· first | exact ya)) | refine sG ?_ | (refine sK ?_ ?_ <;> intro hc <;> (try simp only [KL, sL, reduceCtorEq] at hc) <;> (try (have hT : True := hc; clear hT hc)) <;> (try (exfalso; omega))))
  all_goals exact retq rfl (congrArg AV.bool (by rw [Bool.eq_iff_iff]; (try simp only [ltD, cond_true, cond_false, decide_eq_true_eq, Bool.not_eq_true', decide_eq_false_iff_not, Bool.and_eq_true, Bool.or_eq_true, true_iff, false_iff, iff_true, iff_false, Bool.false_eq_true, Bool.not_true, Bool.not_false, reduceCtorEq]); (first | done | omega | (constructor <;> intros <;> omega))))
theorem rput_fn (l : List Due) (d : Due) (hn : l.length ≤ 1000000) : Fn Tryd.prog 29 [.lst 2 (l.map eDue), .agg (eDue d)] (.lst 2 ((putD l d).map eDue)) := by
  refine fnb Tryd.func29 (entered_of (by kernel_rfl)) rfl rfl rfl ?_
  repeat' (first | refine sA ?_ | ((first | apply kM | apply kN); (iterate 3 (· exact rfl)); (· first | exact ya)) | refine sG ?_ | (refine sK ?_ ?_ <;> intro hc <;> (try simp only [KL, sL, reduceCtorEq] at hc) <;> (try (have hT : True := hc; clear hT hc)) <;> (try (exfalso; omega))))
  refine wloop (fun k : Nat => ([(0, .lst 2 (l.map eDue)), (3, .ref (eDue d)), (5, .int .i64 k)], [])) (fun k => k ≤ l.length ∧ ∀ j, j < k → ltD d (l.getD j default) = false) (fun k => l.length - k) 0 ⟨by omega, fun j hj => by omega⟩ les leh (fun k hk => ?_)
  obtain ⟨h1, h2⟩ := hk
  have c1 := rahead05_fn d (l.getD k default)
  have fin : (k = l.length ∨ k < l.length ∧ ltD d (l.getD k default) = true) → l.take k ++ [d] ++ (l.take l.length).drop k = putD l d := fun h => by rw [putD_at l d k h2 h]; simp
  have e1 : (l.take k).length ≤ l.length := by rw [List.length_take]; omega
  have e2 : ((l.take l.length).drop k).length ≤ l.length := by rw [List.length_drop, List.take_length]; omega
  cases hb : ltD d (l.getD k default) <;> rw [hb] at c1
  · repeat' (first | refine sA ?_ | ((first | apply kM | apply kN); (iterate 3 (· exact rfl)); (· first | exact yag | exact q_c (c1) rfl)) | refine sG ?_ | (refine sK ?_ ?_ <;> intro hc <;> (try simp only [KL, sL, reduceCtorEq] at hc) <;> (try (have hT : True := hc; clear hT hc)) <;> (try (exfalso; omega))))
    · exact ⟨k + 1, ⟨by omega, fun j hj => by
        by_cases e : j = k
        · subst e; exact hb
        · exact h2 j (by omega)⟩, by omega, les, leh⟩
    · have fin := fin (.inl (by omega))
      refine o_blit (f := eDue) (l := []) (id := 10) (sz := 2) rfl rfl rfl rfl rfl rfl rfl rfl rfl rfl rfl rfl rfl rfl ?_
      repeat' (first | refine sA ?_ | ((first | apply kM | apply kN); (iterate 3 (· exact rfl)); (· first | exact ya)) | refine sG ?_ | (refine sK ?_ ?_ <;> intro hc <;> (try simp only [KL, sL, reduceCtorEq] at hc) <;> (try (have hT : True := hc; clear hT hc)) <;> (try (exfalso; omega))))
      (refine ao_ap (id := 10) (ys := l.take k) (by_ := 16) rfl rfl rfl rfl rfl rfl rfl rfl rfl rfl (fun _ _ => rfl) ?_ ?_ rfl rfl rfl rfl rfl ?_; (· (first | omega | ((try simp only [List.length_cons, List.length_nil, List.length_append, List.length_map]) <;> omega))); (· (first | omega | ((try simp only [List.length_cons, List.length_nil, List.length_append, List.length_map]) <;> omega))))
      repeat' (first | refine sA ?_ | ((first | apply kM | apply kN); (iterate 3 (· exact rfl)); (· first | exact ya)) | refine sG ?_ | (refine sK ?_ ?_ <;> intro hc <;> (try simp only [KL, sL, reduceCtorEq] at hc) <;> (try (have hT : True := hc; clear hT hc)) <;> (try (exfalso; omega))))
      (refine ao_ap (id := 10) (ys := [d]) (by_ := 16) rfl rfl rfl rfl rfl rfl rfl rfl rfl rfl (fun _ _ => rfl) ?_ ?_ rfl rfl rfl rfl rfl ?_; (· (first | omega | ((try simp only [List.length_cons, List.length_nil, List.length_append, List.length_map]) <;> omega))); (· (first | omega | ((try simp only [List.length_cons, List.length_nil, List.length_append, List.length_map]) <;> omega))))
      repeat' (first | refine sA ?_ | ((first | apply kM | apply kN); (iterate 3 (· exact rfl)); (· first | exact ya)) | refine sG ?_ | (refine sK ?_ ?_ <;> intro hc <;> (try simp only [KL, sL, reduceCtorEq] at hc) <;> (try (have hT : True := hc; clear hT hc)) <;> (try (exfalso; omega))))
      (refine ao_ap (id := 10) (ys := (l.take l.length).drop k) (by_ := 16) rfl rfl rfl rfl rfl rfl rfl rfl rfl rfl (fun _ _ => rfl) ?_ ?_ rfl rfl rfl rfl rfl ?_; (· (first | omega | ((try simp only [List.length_cons, List.length_nil, List.length_append, List.length_map]) <;> omega))); (· (first | omega | ((try simp only [List.length_cons, List.length_nil, List.length_append, List.length_map]) <;> omega))))
      repeat' (first | refine sA ?_ | ((first | apply kM | apply kN); (iterate 3 (· exact rfl)); (· first | exact ya)) | refine sG ?_ | (refine sK ?_ ?_ <;> intro hc <;> (try simp only [KL, sL, reduceCtorEq] at hc) <;> (try (have hT : True := hc; clear hT hc)) <;> (try (exfalso; omega))))
      refine retT (fun _ => turn_freeze (t := 4) rfl rfl rfl) ?_
      exact retq rfl (by rw [← fin, List.nil_append])
  · repeat' (first | refine sA ?_ | ((first | apply kM | apply kN); (iterate 3 (· exact rfl)); (· first | exact yag | exact q_c (c1) rfl)) | refine sG ?_ | (refine sK ?_ ?_ <;> intro hc <;> (try simp only [KL, sL, reduceCtorEq] at hc) <;> (try (have hT : True := hc; clear hT hc)) <;> (try (exfalso; omega))))
    all_goals have fin := fin (by rcases Nat.lt_or_ge k l.length with h | h; exact .inr ⟨h, hb⟩; exact .inl (by omega))
    all_goals refine o_blit (f := eDue) (l := []) (id := 10) (sz := 2) rfl rfl rfl rfl rfl rfl rfl rfl rfl rfl rfl rfl rfl rfl ?_
    all_goals repeat' (first | refine sA ?_ | ((first | apply kM | apply kN); (iterate 3 (· exact rfl)); (· first | exact ya)) | refine sG ?_ | (refine sK ?_ ?_ <;> intro hc <;> (try simp only [KL, sL, reduceCtorEq] at hc) <;> (try (have hT : True := hc; clear hT hc)) <;> (try (exfalso; omega))))
    all_goals (refine ao_ap (id := 10) (ys := l.take k) (by_ := 16) rfl rfl rfl rfl rfl rfl rfl rfl rfl rfl (fun _ _ => rfl) ?_ ?_ rfl rfl rfl rfl rfl ?_; (· (first | omega | ((try simp only [List.length_cons, List.length_nil, List.length_append, List.length_map]) <;> omega))); (· (first | omega | ((try simp only [List.length_cons, List.length_nil, List.length_append, List.length_map]) <;> omega))))
    all_goals repeat' (first | refine sA ?_ | ((first | apply kM | apply kN); (iterate 3 (· exact rfl)); (· first | exact ya)) | refine sG ?_ | (refine sK ?_ ?_ <;> intro hc <;> (try simp only [KL, sL, reduceCtorEq] at hc) <;> (try (have hT : True := hc; clear hT hc)) <;> (try (exfalso; omega))))
    all_goals (refine ao_ap (id := 10) (ys := [d]) (by_ := 16) rfl rfl rfl rfl rfl rfl rfl rfl rfl rfl (fun _ _ => rfl) ?_ ?_ rfl rfl rfl rfl rfl ?_; (· (first | omega | ((try simp only [List.length_cons, List.length_nil, List.length_append, List.length_map]) <;> omega))); (· (first | omega | ((try simp only [List.length_cons, List.length_nil, List.length_append, List.length_map]) <;> omega))))
    all_goals repeat' (first | refine sA ?_ | ((first | apply kM | apply kN); (iterate 3 (· exact rfl)); (· first | exact ya)) | refine sG ?_ | (refine sK ?_ ?_ <;> intro hc <;> (try simp only [KL, sL, reduceCtorEq] at hc) <;> (try (have hT : True := hc; clear hT hc)) <;> (try (exfalso; omega))))
    all_goals (refine ao_ap (id := 10) (ys := (l.take l.length).drop k) (by_ := 16) rfl rfl rfl rfl rfl rfl rfl rfl rfl rfl (fun _ _ => rfl) ?_ ?_ rfl rfl rfl rfl rfl ?_; (· (first | omega | ((try simp only [List.length_cons, List.length_nil, List.length_append, List.length_map]) <;> omega))); (· (first | omega | ((try simp only [List.length_cons, List.length_nil, List.length_append, List.length_map]) <;> omega))))
    all_goals repeat' (first | refine sA ?_ | ((first | apply kM | apply kN); (iterate 3 (· exact rfl)); (· first | exact ya)) | refine sG ?_ | (refine sK ?_ ?_ <;> intro hc <;> (try simp only [KL, sL, reduceCtorEq] at hc) <;> (try (have hT : True := hc; clear hT hc)) <;> (try (exfalso; omega))))
    all_goals refine retT (fun _ => turn_freeze (t := 4) rfl rfl rfl) ?_
    all_goals exact retq rfl (by rw [← fin, List.nil_append])
end Go.Proofs.YtfjoaeghnfkdlaaDoor
