/- Whether a task's numbers may be, over abstract values. No condition. -/
import Derived.Test.YtfjoaeghnfkdlaaGreatDoorP12
import Derived.Test.YtfjoaeghnfkdlaaGreatDoorP13
import Derived.Test.YtfjoaeghnfkdlaaGreatDoorP8
import Derived.Test.YtfjoaeghnfkdlaaGreatDoorP9
import Derived.Test.YtfjoaeghnfkdlaaGreatDoorP10
set_option linter.unusedSimpArgs false
set_option linter.unusedVariables false
set_option maxHeartbeats 1000000
namespace Go.Proofs.YtfjoaeghnfkdlaaGreatDoor
set_option maxRecDepth 100000
open Go.RowKit
theorem within_fn (n low high : Int) : Fn Tryz.prog 70 [.int .i64 n, .int .i64 low, .int .i64 high] (.bool (decide (low ≤ n ∧ n ≤ high))) := by
  refine fnb Tryz.func70 (entered_of (by kernel_rfl)) rfl rfl rfl ?_
  repeat' (first | refine sA ?_ | ((first | apply kM | apply kN); (iterate 3 (· exact rfl)); (· first | exact ya)) | refine sG ?_ | (refine sK ?_ ?_ <;> intro hc <;> (try simp only [KL, sL, reduceCtorEq] at hc) <;> (try (have hT : True := hc; clear hT hc)) <;> (try (exfalso; omega))))
  all_goals exact retq rfl (congrArg AV.bool (by rw [Bool.eq_iff_iff]; (try simp only [cond_true, cond_false, decide_eq_true_eq, Bool.not_eq_true', decide_eq_false_iff_not, Bool.and_eq_true, Bool.or_eq_true, true_iff, false_iff, iff_true, iff_false, Bool.false_eq_true, Bool.not_true, Bool.not_false, reduceCtorEq]); (first | done | omega | (constructor <;> intros <;> omega))))
def plainB (t : Task) : Bool := decide ((t.kind = 1 ∨ t.kind = 2 ∧ t.offset = 0) ∧ (0 ≤ t.prio ∧ t.prio ≤ 255) ∧ (1 ≤ t.period ∧ t.period ≤ 1048576) ∧ (0 ≤ t.offset ∧ t.offset ≤ 1048576) ∧ (1 ≤ t.deadline ∧ t.deadline ≤ t.period) ∧ (1 ≤ t.own ∧ t.own ≤ 64))
theorem plain_fn (t : Task) : Fn Tryz.prog 34 [.agg (eTask t)] (.bool (plainB t)) := by
  refine fnb Tryz.func34 (entered_of (by kernel_rfl)) rfl rfl rfl ?_
  repeat' (first | refine sA ?_ | ((first | apply kM | apply kN); (iterate 3 (· exact rfl)); (· first | exact ya | exact q_c (within_fn _ _ _) rfl)) | refine sG ?_ | (refine sK ?_ ?_ <;> intro hc <;> (try simp only [KL, sL, reduceCtorEq] at hc) <;> (try (have hT : True := hc; clear hT hc)) <;> (try (exfalso; omega))))
  all_goals exact retq rfl (congrArg AV.bool (by rw [Bool.eq_iff_iff]; (try simp only [plainB, cond_true, cond_false, decide_eq_true_eq, Bool.not_eq_true', decide_eq_false_iff_not, Bool.and_eq_true, Bool.or_eq_true, true_iff, false_iff, iff_true, iff_false, Bool.false_eq_true, Bool.not_true, Bool.not_false, reduceCtorEq]); (first | done | omega | (constructor <;> intros <;> omega))))
set_option maxHeartbeats 4000000 in
theorem rplain_fn (t : Task) : Fn Tryz.prog 40 [.agg (eTask t)] (.bool (plainB t)) := by
  refine fnb Tryz.func40 (entered_of (by kernel_rfl)) rfl rfl rfl ?_
  repeat' (first | refine sA ?_ | ((first | apply kM | apply kN); (iterate 3 (· exact rfl)); (· first | exact ya)) | refine sG ?_ | (refine sK ?_ ?_ <;> intro hc <;> (try simp only [KL, sL, reduceCtorEq] at hc) <;> (try (have hT : True := hc; clear hT hc)) <;> (try (exfalso; omega))))
  all_goals exact retq rfl (congrArg AV.bool (by rw [Bool.eq_iff_iff]; (try simp only [plainB, cond_true, cond_false, decide_eq_true_eq, Bool.not_eq_true', decide_eq_false_iff_not, Bool.and_eq_true, Bool.or_eq_true, true_iff, false_iff, iff_true, iff_false, Bool.false_eq_true, Bool.not_true, Bool.not_false, reduceCtorEq]); (first | done | omega | (constructor <;> intros <;> omega))))
end Go.Proofs.YtfjoaeghnfkdlaaGreatDoor
namespace Go.Proofs.YtfjoaeghnfkdlaaGreatDoor
set_option maxRecDepth 100000
open Go.RowKit
theorem plainB_spec {t : Task} (h : plainB t = true) : (t.kind = 1 ∨ t.kind = 2 ∧ t.offset = 0) ∧ (0 ≤ t.prio ∧ t.prio ≤ 255) ∧ (1 ≤ t.period ∧ t.period ≤ 1048576) ∧ (0 ≤ t.offset ∧ t.offset ≤ 1048576) ∧ (1 ≤ t.deadline ∧ t.deadline ≤ t.period) ∧ (1 ≤ t.own ∧ t.own ≤ 64) := of_decide_eq_true h
theorem periodic_fn (t : Task) : Fn Tryz.prog 71 [.agg (eTask t)] (.bool (plainB t && decide (t.kind = 1))) := by
  refine fnb Tryz.func71 (entered_of (by kernel_rfl)) rfl rfl rfl ?_
  repeat' (first | refine sA ?_ | ((first | apply kM | apply kN); (iterate 3 (· exact rfl)); (· first | exact ya | exact q_c (plain_fn _) rfl)) | refine sG ?_ | (refine sK ?_ ?_ <;> intro hc <;> (try simp only [KL, sL, reduceCtorEq] at hc) <;> (try (have hT : True := hc; clear hT hc)) <;> (try (exfalso; omega))))
  all_goals exact retq rfl (congrArg AV.bool (by simp [*]))
def ceilZ (a b : Int) : Int := if a < 1 ∨ b < 1 then 0 else (a - 1) / b + 1
theorem ceil_fn (a b : Int) : Fn Tryz.prog 72 [.int .i64 a, .int .i64 b] (.int .i64 (ceilZ a b)) := by
  refine fnb Tryz.func72 (entered_of (by kernel_rfl)) rfl rfl rfl ?_
  refine wrange 0 rfl (fun hr => ?_)
  simp only [rangeP] at hr
  have hd : 1 ≤ a → 1 ≤ b → 0 ≤ (a - 1) / b ∧ (a - 1) / b ≤ a - 1 := fun h1 h2 => ⟨Int.ediv_nonneg (by omega) (by omega), Int.ediv_le_self _ (by omega)⟩
  by_cases h1 : a < 1
  · repeat' (first | refine sA ?_ | ((first | apply kM | apply kN); (iterate 3 (· exact rfl)); (· first | exact ya)) | refine sG ?_ | (refine sK ?_ ?_ <;> intro hc <;> (try simp only [KL, sL, reduceCtorEq] at hc) <;> (try (have hT : True := hc; clear hT hc)) <;> (try (exfalso; omega))))
    all_goals first | (exfalso; omega) | exact retq rfl (congrArg (AV.int _) (by rw [ceilZ, if_pos (.inl h1)]))
  by_cases h2 : b < 1
  · repeat' (first | refine sA ?_ | ((first | apply kM | apply kN); (iterate 3 (· exact rfl)); (· first | exact ya)) | refine sG ?_ | (refine sK ?_ ?_ <;> intro hc <;> (try simp only [KL, sL, reduceCtorEq] at hc) <;> (try (have hT : True := hc; clear hT hc)) <;> (try (exfalso; omega))))
    all_goals first | (exfalso; omega) | exact retq rfl (congrArg (AV.int _) (by rw [ceilZ, if_pos (.inr h2)]))
  have hd := hd (by omega) (by omega)
  repeat' (first | refine sA ?_ | ((first | apply kM | apply kN); (iterate 3 (· exact rfl)); (· first | exact ya)) | refine sG ?_ | (refine sK ?_ ?_ <;> intro hc <;> (try simp only [KL, sL, reduceCtorEq] at hc) <;> (try (have hT : True := hc; clear hT hc)) <;> (try (exfalso; omega))))
  all_goals exact retq rfl (congrArg (AV.int _) (by rw [ceilZ, if_neg (by omega)]))
def nextZ (t : Task) (frm : Int) : Int :=
  if plainB t = true ∧ t.kind = 1 ∧ frm ≤ 1099511627776 then (let at_ := if frm ≤ t.offset then t.offset else t.offset + ceilZ (frm - t.offset) t.period * t.period; if at_ > 1099511627776 then -1 else at_) else -1
theorem ceil_mul (a p : Int) (h1 : 1 ≤ a) (h2 : 1 ≤ p) : a ≤ ceilZ a p * p ∧ ceilZ a p * p ≤ a - 1 + p := by
  rw [ceilZ, if_neg (by omega), Int.add_mul, Int.one_mul]
  have h3 := Int.mul_ediv_add_emod (a - 1) p
  have h4 := Int.emod_nonneg (a - 1) (show p ≠ 0 by omega)
  have h5 := Int.emod_lt_of_pos (a - 1) (show 0 < p by omega)
  rw [Int.mul_comm] at h3
  omega
theorem ceil_range (a p : Int) (h1 : 1 ≤ a) (h2 : 1 ≤ p) : 1 ≤ ceilZ a p ∧ ceilZ a p ≤ a := by
  rw [ceilZ, if_neg (by omega)]
  have h3 := Int.ediv_nonneg (show 0 ≤ a - 1 by omega) (show 0 ≤ p by omega)
  have h4 := Int.ediv_le_self p (show 0 ≤ a - 1 by omega)
  omega
theorem next_fn (t : Task) (frm : Int) : Fn Tryz.prog 38 [.agg (eTask t), .int .i64 frm] (.tup [.int .i64 (if nextZ t frm < 0 then 0 else nextZ t frm), .bool (decide (0 ≤ nextZ t frm))]) := by
  refine fnb Tryz.func38 (entered_of (by kernel_rfl)) rfl rfl rfl ?_
  refine wrange 1 rfl (fun hr => ?_)
  simp only [rangeP] at hr
  cases hp : plainB t && decide (t.kind = 1)
  · have e : nextZ t frm = -1 := by
      rw [nextZ, if_neg]; intro h; simp [h.1, h.2.1] at hp
    rw [e]
    repeat' (first | refine sA ?_ | ((first | apply kM | apply kN); (iterate 3 (· exact rfl)); (· first | exact ya | exact q_c (periodic_fn _) rfl)) | refine sG ?_ | (refine sK ?_ ?_ <;> intro hc <;> (try simp only [KL, sL, reduceCtorEq] at hc) <;> (try (have hT : True := hc; clear hT hc)) <;> (try (exfalso; omega))))
    all_goals first | (exfalso; simp_all; done) | exact retq rfl rfl
  simp only [Bool.and_eq_true, decide_eq_true_eq] at hp
  obtain ⟨hp, hk⟩ := hp
  have hpp : (plainB t && decide (t.kind = 1)) = true := by simp [hp, hk]
  obtain ⟨_, _, h3, h4, _, _⟩ := plainB_spec hp
  by_cases htop : frm ≤ 1099511627776
  case neg =>
    have e : nextZ t frm = -1 := by rw [nextZ, if_neg]; intro h; omega
    rw [e]
    repeat' (first | refine sA ?_ | ((first | apply kM | apply kN); (iterate 3 (· exact rfl)); (· first | exact ya | exact q_c (periodic_fn _) rfl)) | refine sG ?_ | (refine sK ?_ ?_ <;> intro hc <;> (try simp only [KL, sL, reduceCtorEq] at hc) <;> (try (have hT : True := hc; clear hT hc)) <;> (try (exfalso; omega))))
    all_goals first | (exfalso; simp_all; done) | (exfalso; omega) | exact retq rfl rfl
  by_cases hlow : frm ≤ t.offset
  · have e : nextZ t frm = t.offset := by rw [nextZ, if_pos ⟨hp, hk, htop⟩]; simp only [if_pos hlow]; rw [if_neg (by omega)]
    rw [e, if_neg (by omega)]
    repeat' (first | refine sA ?_ | ((first | apply kM | apply kN); (iterate 3 (· exact rfl)); (· first | exact ya | exact q_c (periodic_fn _) rfl | exact q_c (ceil_fn _ _) rfl | exact q_w rfl)) | refine sG ?_ | (refine sK ?_ ?_ <;> intro hc <;> (try simp only [KL, sL, reduceCtorEq] at hc) <;> (try (have hT : True := hc; clear hT hc)) <;> (try (exfalso; omega))))
    all_goals first | (exfalso; simp_all; done) | (exfalso; omega) | exact retq rfl (by rw [decide_eq_true (show 0 ≤ t.offset by omega)])
  · have hm := ceil_mul (frm - t.offset) t.period (by omega) (by omega)
    have hm2 := ceil_range (frm - t.offset) t.period (by omega) (by omega)
    by_cases hbig : t.offset + ceilZ (frm - t.offset) t.period * t.period > 1099511627776
    · have e : nextZ t frm = -1 := by rw [nextZ, if_pos ⟨hp, hk, htop⟩]; simp only [if_neg hlow]; rw [if_pos hbig]
      rw [e]
      repeat' (first | refine sA ?_ | ((first | apply kM | apply kN); (iterate 3 (· exact rfl)); (· first | exact ya | exact q_c (periodic_fn _) rfl | exact q_c (ceil_fn _ _) rfl)) | refine sG ?_ | (refine sK ?_ ?_ <;> intro hc <;> (try simp only [KL, sL, reduceCtorEq] at hc) <;> (try (have hT : True := hc; clear hT hc)) <;> (try (exfalso; omega))))
      all_goals first | (exfalso; simp_all; done) | (exfalso; omega) | exact retq rfl rfl
    · have e : nextZ t frm = t.offset + ceilZ (frm - t.offset) t.period * t.period := by rw [nextZ, if_pos ⟨hp, hk, htop⟩]; simp only [if_neg hlow]; rw [if_neg hbig]
      rw [e, if_neg (by omega)]
      repeat' (first | refine sA ?_ | ((first | apply kM | apply kN); (iterate 3 (· exact rfl)); (· first | exact ya | exact q_c (periodic_fn _) rfl | exact q_c (ceil_fn _ _) rfl)) | refine sG ?_ | (refine sK ?_ ?_ <;> intro hc <;> (try simp only [KL, sL, reduceCtorEq] at hc) <;> (try (have hT : True := hc; clear hT hc)) <;> (try (exfalso; omega))))
      all_goals first | (exfalso; simp_all; done) | (exfalso; omega) | exact retq rfl (by rw [decide_eq_true (show 0 ≤ t.offset + ceilZ (frm - t.offset) t.period * t.period by omega)])
end Go.Proofs.YtfjoaeghnfkdlaaGreatDoor
namespace Go.Proofs.YtfjoaeghnfkdlaaGreatDoor
set_option maxRecDepth 100000
open Go.RowKit
def okF (period : Int) (lt : List Int) (x : Int) : Bool := decide (0 ≤ x ∧ 1 ≤ period) && (match lt.getLast? with | none => true | some l => decide (l ≤ x ∧ period ≤ x - l))
def stepF (period : Int) (st : List Int × List Int) (x : Int) : List Int × List Int := if okF period st.1 x then (st.1 ++ [x], st.2) else (st.1, st.2 ++ [x])
def filtF (period : Int) (asks : List Int) : List Int × List Int := asks.foldl (stepF period) ([], [])
def apartL (period : Int) : List Int → Prop
  | [] => True
  | [x] => 0 ≤ x
  | x :: y :: r => 0 ≤ x ∧ x ≤ y ∧ period ≤ y - x ∧ apartL period (y :: r)
def lastF (lt : List Int) : Int := (lt.getLast?).getD 0
def passB (period last : Int) (op : Bool) (x : Int) : Bool := decide (0 ≤ x ∧ 1 ≤ period) && (!op || decide (last ≤ x ∧ period ≤ x - last))
end Go.Proofs.YtfjoaeghnfkdlaaGreatDoor
namespace Go.Proofs.YtfjoaeghnfkdlaaGreatDoor
set_option maxRecDepth 100000
open Go.RowKit
end Go.Proofs.YtfjoaeghnfkdlaaGreatDoor
namespace Go.Proofs.YtfjoaeghnfkdlaaGreatDoor
set_option maxRecDepth 100000
set_option maxRecDepth 100000
open Go.RowKit
def ltcDue (c : Due → Due → Int) (x y : Due) : Bool := decide (c x y < 0)
end Go.Proofs.YtfjoaeghnfkdlaaGreatDoor
namespace Go.Proofs.YtfjoaeghnfkdlaaGreatDoor
set_option maxRecDepth 100000
set_option maxRecDepth 100000
open Go.RowKit
end Go.Proofs.YtfjoaeghnfkdlaaGreatDoor
namespace Go.Proofs.YtfjoaeghnfkdlaaGreatDoor
set_option maxRecDepth 100000
set_option maxRecDepth 100000
open Go.RowKit
end Go.Proofs.YtfjoaeghnfkdlaaGreatDoor
namespace Go.Proofs.YtfjoaeghnfkdlaaGreatDoor
set_option maxRecDepth 100000
open Go.RowKit
--BEGIN
def ltD (a b : Due) : Bool := decide (a.at_ < b.at_ ∨ a.at_ = b.at_ ∧ a.task < b.task)
def leD (a b : Due) : Prop := a.at_ < b.at_ ∨ a.at_ = b.at_ ∧ a.task ≤ b.task
theorem leD_anti {a b : Due} (h1 : leD a b) (h2 : leD b a) : a = b := by
  apply Due.ext_
  unfold leD at h1 h2
  omega
def putD : List Due → Due → List Due
  | [], d => [d]
  | x :: r, d => if ltD d x then d :: x :: r else x :: putD r d
def sortD (l : List Due) : List Due := l.foldl putD []
theorem putD_perm : ∀ (l : List Due) (d : Due), (putD l d).Perm (d :: l)
  | [], d => List.Perm.refl _
  | x :: r, d => by
    rw [putD]
    split
    · exact List.Perm.refl _
    · exact ((putD_perm r d).cons x).trans (List.Perm.swap d x r)
theorem putD_srt : ∀ (l : List Due) (d : Due), l.Pairwise leD → (putD l d).Pairwise leD
  | [], d, _ => by simp [putD]
  | x :: r, d, h => by
    rw [List.pairwise_cons] at h
    rw [putD]
    split
    · rename_i hlt
      simp only [ltD, decide_eq_true_eq] at hlt
      refine List.pairwise_cons.2 ⟨fun y hy => ?_, List.pairwise_cons.2 h⟩
      rcases List.mem_cons.1 hy with rfl | hy
      · unfold leD; omega
      · have := h.1 y hy; unfold leD at *; omega
    · rename_i hlt
      simp only [ltD, decide_eq_true_eq] at hlt
      refine List.pairwise_cons.2 ⟨fun y hy => ?_, putD_srt r d h.2⟩
      rcases List.mem_cons.1 ((putD_perm r d).mem_iff.1 hy) with rfl | hy
      · unfold leD; omega
      · exact h.1 y hy
theorem sortD_fold : ∀ (l a : List Due), a.Pairwise leD → (l.foldl putD a).Perm (l ++ a) ∧ (l.foldl putD a).Pairwise leD
  | [], a, h => ⟨List.Perm.refl _, h⟩
  | x :: l, a, h => by
    obtain ⟨h1, h2⟩ := sortD_fold l (putD a x) (putD_srt a x h)
    refine ⟨h1.trans (((putD_perm a x).append_left l).trans ?_), h2⟩
    exact List.perm_middle
theorem sortD_perm (l : List Due) : (sortD l).Perm l := by simpa [sortD] using (sortD_fold l [] List.Pairwise.nil).1
theorem sortD_srt (l : List Due) : (sortD l).Pairwise leD := (sortD_fold l [] List.Pairwise.nil).2
theorem sortD_eq {l r : List Due} (h1 : r.Perm l) (h2 : r.Pairwise leD) : r = sortD l :=
  List.Perm.eq_of_pairwise (le := leD) (fun a b _ _ h3 h4 => leD_anti h3 h4) h2 (sortD_srt l) (h1.trans (sortD_perm l).symm)
theorem sortD_len (l : List Due) : (sortD l).length = l.length := (sortD_perm l).length_eq
structure Gt where
  per : Int
  last : Int
  op : Bool
instance : Inhabited Gt := ⟨⟨0, 0, false⟩⟩
def perG (t : Task) : Int := if plainB t = true ∧ t.kind = 2 then t.period else 0
def passD (g : Gt) (x : Int) : Bool := decide (0 ≤ x ∧ 1 ≤ g.per) && (!g.op || decide (g.last ≤ x ∧ g.per ≤ x - g.last))
def gates0 (l : List Task) : List Gt := l.map fun t => ⟨perG t, 0, false⟩
structure S27 where
  gs : List Gt
  lt : List Due
  rf : List Due
def okA (ticks : Int) (s : S27) (d : Due) : Bool := decide (0 ≤ d.task ∧ d.task < s.gs.length ∧ d.at_ < ticks) && passD (s.gs.getD d.task.toNat default) d.at_
def stepA (ticks : Int) (s : S27) (d : Due) : S27 := if okA ticks s d then ⟨s.gs.set d.task.toNat ⟨(s.gs.getD d.task.toNat default).per, d.at_, true⟩, s.lt ++ [d], s.rf⟩ else ⟨s.gs, s.lt, s.rf ++ [d]⟩
def timesN (t : Task) (lim : Int) : Nat := if plainB t = true ∧ t.kind = 1 then (ceilZ (lim - t.offset) t.period).toNat else 0
def dueAt (t : Task) (i k : Nat) : Due := ⟨t.offset + k * t.period, i⟩
def letO (t : Task) (i n : Nat) : List Due := (List.range n).map (dueAt t i)
def letT (l : List Task) (lim : Int) (i : Nat) : List Due := (List.range i).flatMap fun j => letO (l.getD j default) j (timesN (l.getD j default) lim)
def runA (l : List Task) (asks : List Due) (ticks : Int) : S27 := asks.foldl (stepA ticks) ⟨gates0 l, letT l ticks l.length, []⟩
def allA (l : List Task) (asks : List Due) (ticks : Int) : List Due × List Due := (sortD (runA l (sortD asks) ticks).lt, (runA l (sortD asks) ticks).rf)
structure Inv (l : List Task) (ticks : Int) (s : S27) : Prop where
  len : s.gs.length = l.length
  per : ∀ j, j < l.length → (s.gs.getD j default).per = perG (l.getD j default)
  low : ∀ j, j < l.length → 0 ≤ (s.gs.getD j default).last ∧ ((s.gs.getD j default).op = true → (s.gs.getD j default).last < ticks)
  mem : ∀ d ∈ s.lt, 0 ≤ d.task ∧ d.task < l.length ∧ 0 ≤ d.at_ ∧ d.at_ < ticks ∧ 1 ≤ (l.getD d.task.toNat default).period
  gate : ∀ d ∈ s.lt, 1 ≤ perG (l.getD d.task.toNat default) → (s.gs.getD d.task.toNat default).op = true ∧ d.at_ ≤ (s.gs.getD d.task.toNat default).last
  apart : s.lt.Pairwise fun a b => a.task = b.task → a.at_ + (l.getD a.task.toNat default).period ≤ b.at_
end Go.Proofs.YtfjoaeghnfkdlaaGreatDoor
namespace Go.Proofs.YtfjoaeghnfkdlaaGreatDoor
set_option maxRecDepth 100000
set_option maxRecDepth 100000
open Go.RowKit
def orI (a b : Int) : Int := if a ≠ 0 then a else b
def cmpD (x y : Due) : Int := orI (cmpI x.at_ y.at_) (cmpI x.task y.task)
def eGt (g : Gt) : List AV := [.int .i64 g.per, .int .i64 g.last, .bool g.op]
def upG (g : Gt) (x : Int) : Gt := if passD g x then ⟨g.per, x, true⟩ else g
end Go.Proofs.YtfjoaeghnfkdlaaGreatDoor
namespace Go.Proofs.YtfjoaeghnfkdlaaGreatDoor
set_option maxRecDepth 100000
open Go.RowKit
--BEGIN
def dG (l : List Due) (i : Nat) : Due := l.getD i default
def gtD (a b : Due) : Prop := b.at_ < a.at_ ∨ b.at_ = a.at_ ∧ b.task < a.task
theorem ltD_iff {a b : Due} : ltD a b = true ↔ gtD b a := by simp [ltD, gtD]
theorem ltD_not {a b : Due} : ltD a b = false ↔ ¬ gtD b a := by simp [ltD, gtD]
def HpA (l : List Due) : Prop := ∀ j, 0 < j → j < l.length → ¬ gtD (dG l ((j - 1) / 2)) (dG l j)
def HpU (l : List Due) (i : Nat) : Prop := (∀ j, 0 < j → j < l.length → j ≠ i → ¬ gtD (dG l ((j - 1) / 2)) (dG l j)) ∧ ∀ j, 0 < j → j < l.length → (j - 1) / 2 = i → 0 < i → ¬ gtD (dG l ((i - 1) / 2)) (dG l j)
def HpD (l : List Due) (i : Nat) : Prop := (∀ j, 0 < j → j < l.length → (j - 1) / 2 ≠ i → ¬ gtD (dG l ((j - 1) / 2)) (dG l j)) ∧ ∀ j, 0 < j → j < l.length → (j - 1) / 2 = i → 0 < i → ¬ gtD (dG l ((i - 1) / 2)) (dG l j)
def swD (l : List Due) (i p : Nat) : List Due := (l.set i (dG l p)).set p (dG l i)
theorem swD_len (l : List Due) (i p : Nat) : (swD l i p).length = l.length := by simp [swD]
theorem swD_at (l : List Due) (i p : Nat) (hi : i < l.length) (hp : p < l.length) (j : Nat) (hj : j < l.length) : dG (swD l i p) j = if j = p then dG l i else if j = i then dG l p else dG l j := by
  unfold dG swD
  rw [List.getD_eq_getElem?_getD, List.getElem?_set]
  by_cases h1 : p = j
  · subst h1
    rw [if_pos rfl, if_pos rfl, List.length_set, if_pos hp]; rfl
  · rw [if_neg h1, if_neg (fun e => h1 e.symm), List.getElem?_set]
    by_cases h2 : i = j
    · subst h2
      rw [if_pos rfl, if_pos rfl, if_pos hi]; rfl
    · rw [if_neg h2, if_neg (fun e => h2 e.symm)]
      rw [← List.getD_eq_getElem?_getD]
theorem sw_perm {l : List Due} {p i : Nat} (hpi : p < i) (hi : i < l.length) : (swD l i p).Perm l := by
  obtain ⟨a, x, t, rfl, ha⟩ := parted (l := l) (k := p) (by omega)
  simp only [List.length_append, List.length_cons] at hi
  obtain ⟨b, y, r, rfl, hb⟩ := parted (l := t) (k := i - p - 1) (by omega)
  have e : a ++ x :: (b ++ y :: r) = a ++ x :: b ++ y :: r := by simp
  rw [e]
  have hj : i = a.length + 1 + b.length := by omega
  have e1 : dG (a ++ x :: b ++ y :: r) p = x := by
    rw [dG, ← e]; exact get_at rfl ha.symm
  have e2 : dG (a ++ x :: b ++ y :: r) i = y := by rw [dG, hj]; exact two_get a b r x y
  rw [swD, e1, e2, hj, ← ha, swap_ji a b r x y]
  have h1 : (a ++ y :: b ++ x :: r) = a ++ (y :: (b ++ x :: r)) := by simp
  have h2 : (a ++ x :: b ++ y :: r) = a ++ (x :: (b ++ y :: r)) := by simp
  rw [h1, h2]
  refine List.Perm.append_left a ?_
  have h3 : (y :: (b ++ x :: r)).Perm (y :: x :: (b ++ r)) := (List.perm_middle).cons y
  have h4 : (x :: (b ++ y :: r)).Perm (x :: y :: (b ++ r)) := (List.perm_middle).cons x
  exact h3.trans ((List.Perm.swap x y _).trans h4.symm)
theorem up_step {l : List Due} {i : Nat} (h : HpU l i) (h0 : 0 < i) (hi : i < l.length) (hlt : gtD (dG l ((i - 1) / 2)) (dG l i)) : HpU (swD l i ((i - 1) / 2)) ((i - 1) / 2) := by
  obtain ⟨p, hp⟩ : ∃ p, p = (i - 1) / 2 := ⟨_, rfl⟩
  rw [← hp] at hlt ⊢
  have hpl : p < l.length := by omega
  have hpi : p < i := by omega
  have at_ := swD_at l i p hi hpl
  refine ⟨fun j j0 jl jne => ?_, fun j j0 jl jp p0 => ?_⟩
  · rw [swD_len] at jl
    rw [at_ j jl, at_ ((j - 1) / 2) (by omega), if_neg jne]
    by_cases h1 : j = i
    · subst h1
      rw [if_pos rfl, ← hp, if_pos rfl]
      unfold gtD at *; omega
    · rw [if_neg h1]
      by_cases h2 : (j - 1) / 2 = p
      · rw [if_pos h2]
        have h3 := h.1 j j0 jl h1
        rw [h2] at h3
        unfold gtD at *; omega
      · rw [if_neg h2]
        by_cases h4 : (j - 1) / 2 = i
        · rw [if_pos h4]
          have h3 := h.2 j j0 jl h4 h0
          rw [← hp] at h3; exact h3
        · rw [if_neg h4]; exact h.1 j j0 jl h1
  · rw [swD_len] at jl
    rw [at_ j jl, at_ ((p - 1) / 2) (by omega), if_neg (by omega), if_neg (by omega), if_neg (by omega)]
    have h5 := h.1 p p0 hpl (by omega)
    by_cases h1 : j = i
    · rw [if_pos h1]; exact h5
    · rw [if_neg h1]
      have h3 := h.1 j j0 jl h1
      rw [jp] at h3
      unfold gtD at *; omega
theorem up_top {l : List Due} (h : HpU l 0) : HpA l := fun j j0 jl => h.1 j j0 jl (by omega)
theorem up_end {l : List Due} {i : Nat} (h : HpU l i) (hlt : ¬ gtD (dG l ((i - 1) / 2)) (dG l i)) : HpA l := fun j j0 jl => by
  by_cases h1 : j = i
  · subst h1; exact hlt
  · exact h.1 j j0 jl h1
theorem up_new {l : List Due} (h : HpA l) (d : Due) : HpU (l ++ [d]) l.length := by
  have e : ∀ j, j < l.length → dG (l ++ [d]) j = dG l j := fun j hj => by rw [dG, dG, List.getD_eq_getElem?_getD, List.getElem?_append_left hj, ← List.getD_eq_getElem?_getD]
  refine ⟨fun j j0 jl jne => ?_, fun j j0 jl jp h0 => ?_⟩
  · simp at jl
    rw [e j (by omega), e _ (by omega)]
    exact h j j0 (by omega)
  · simp at jl; omega
theorem down_step {l : List Due} {i k : Nat} (h : HpD l i) (hk0 : 0 < k) (hk : k < l.length) (hki : (k - 1) / 2 = i) (hlt : gtD (dG l i) (dG l k)) (hsm : ∀ j, 0 < j → j < l.length → (j - 1) / 2 = i → ¬ gtD (dG l k) (dG l j)) : HpD (swD l i k) k := by
  have hi : i < l.length := by omega
  have at_ := swD_at l i k hi hk
  refine ⟨fun j j0 jl jne => ?_, fun j j0 jl jp k0 => ?_⟩
  · rw [swD_len] at jl
    rw [at_ j jl, at_ ((j - 1) / 2) (by omega), if_neg (show ¬ (j - 1) / 2 = k from jne)]
    by_cases h1 : j = k
    · subst h1
      rw [if_pos rfl, if_pos hki]
      unfold gtD at *; omega
    · rw [if_neg h1]
      by_cases h2 : j = i
      · subst h2
        rw [if_pos rfl, if_neg (by omega)]
        have := h.2 k hk0 hk hki j0
        exact this
      · rw [if_neg h2]
        by_cases h3 : (j - 1) / 2 = i
        · rw [if_pos h3]; exact hsm j j0 jl h3
        · rw [if_neg h3]; exact h.1 j j0 jl h3
  · rw [swD_len] at jl
    rw [at_ j jl, hki, at_ i hi, if_neg (show ¬ i = k by omega), if_pos rfl, if_neg (show ¬ j = k by omega), if_neg (show ¬ j = i by omega)]
    have := h.1 j j0 jl (by omega)
    rw [jp] at this; exact this
theorem down_end {l : List Due} {i : Nat} (h : HpD l i) (hlt : ∀ j, 0 < j → j < l.length → (j - 1) / 2 = i → ¬ gtD (dG l i) (dG l j)) : HpA l := fun j j0 jl => by
  by_cases h1 : (j - 1) / 2 = i
  · rw [h1]; exact hlt j j0 jl h1
  · exact h.1 j j0 jl h1
theorem root_least {l : List Due} (h : HpA l) : ∀ j, j < l.length → leD (dG l 0) (dG l j) := by
  intro j
  induction j using Nat.strongRecOn with
  | ind j ih =>
    intro hj
    by_cases h0 : j = 0
    · subst h0; unfold leD; omega
    · have h1 := ih ((j - 1) / 2) (by omega) (by omega)
      have h2 := h j (by omega) hj
      unfold leD gtD at *; omega
def popD (l : List Due) : List Due := (l.set 0 (dG l (l.length - 1))).take (l.length - 1)
theorem popD_len (l : List Due) : (popD l).length = l.length - 1 := by simp [popD]
theorem popD_perm {l : List Due} (h : 0 < l.length) : l.Perm (dG l 0 :: popD l) := by
  cases l with
  | nil => simp at h
  | cons x r =>
    rcases List.eq_nil_or_concat r with rfl | ⟨s, y, rfl⟩
    · simp [popD, dG]
    · have e1 : dG (x :: (s ++ [y])) ((x :: (s ++ [y])).length - 1) = y := by simp [dG]
      have e2 : popD (x :: (s ++ [y])) = y :: s := by
        unfold popD
        rw [e1]
        simp
      rw [List.concat_eq_append] at *
      rw [e2]
      show (x :: (s ++ [y])).Perm (x :: y :: s)
      exact (List.perm_append_comm (l₁ := s) (l₂ := [y])).cons x
theorem popD_heap {l : List Due} (h : HpA l) : HpD (popD l) 0 := by
  have e : ∀ j, 0 < j → j < (popD l).length → dG (popD l) j = dG l j := fun j j0 jl => by
    rw [popD_len] at jl
    unfold dG popD
    rw [List.getD_eq_getElem?_getD, List.getElem?_take, if_pos jl, List.getElem?_set, if_neg (by omega), ← List.getD_eq_getElem?_getD]
  refine ⟨fun j j0 jl jp => ?_, fun j j0 jl jp h0 => by omega⟩
  rw [e j j0 jl, e _ (by omega) (by omega)]
  rw [popD_len] at jl
  exact h j j0 (by omega)
end Go.Proofs.YtfjoaeghnfkdlaaGreatDoor
namespace Go.Proofs.YtfjoaeghnfkdlaaGreatDoor
set_option maxRecDepth 100000
set_option maxRecDepth 100000
open Go.RowKit
theorem FnH.drop {P : Program} {f : FuncId} {args : List AV} {hin : Heap} {R : AV → Heap → Prop} (hf : FnH P f args hin (fun r h' => ∃ h2, LeH h' h2 ∧ R r h2)) : FnH P f args hin R :=
  ⟨hf.1, fun may pin σ ι w vs hr hv => (hf.2 may pin σ ι w vs hr hv).mono fun e w' ⟨u, r, h', σ', ι', h1, ⟨h2, hl, hR⟩, h3, h4⟩ => ⟨u, r, h2, σ', ι', h1, hR, h3, h4.le hl⟩⟩
abbrev agH (r : Nat) (room : Int) (xs : List Due) : Heap := [(r, .row 60 2 (xs.map eDue)), (0, .blk 129 [.int .i64 room, .own r])]
theorem ahead05_fn (a b : Due) : Fn Tryz.prog 103 [.agg (eDue a), .agg (eDue b)] (.bool (ltD a b)) := by
  refine fnb Tryz.func103 (entered_of (by kernel_rfl)) rfl rfl rfl ?_
  repeat' (first | refine sA ?_ | ((first | apply kM | apply kN); (iterate 3 (· exact rfl)); (· first | exact ya)) | refine sG ?_ | (refine sK ?_ ?_ <;> intro hc <;> (try simp only [KL, sL, reduceCtorEq] at hc) <;> (try (have hT : True := hc; clear hT hc)) <;> (try (exfalso; omega))))
  all_goals exact retq rfl (congrArg AV.bool (by rw [Bool.eq_iff_iff]; (try simp only [ltD, cond_true, cond_false, decide_eq_true_eq, Bool.not_eq_true', decide_eq_false_iff_not, Bool.and_eq_true, Bool.or_eq_true, true_iff, false_iff, iff_true, iff_false, Bool.false_eq_true, Bool.not_true, Bool.not_false, reduceCtorEq]); (first | done | omega | (constructor <;> intros <;> omega))))
theorem len05_fn (room : Int) (xs : List Due) : FnH Tryz.prog 129 [.ptr 0 0] (agH 4 room xs) (fun r h' => r = .int .i64 xs.length ∧ h' = agH 4 room xs) := by
  refine fnhb Tryz.func129 (entered_of (by kernel_rfl)) rfl rfl ?_
  repeat' (first | refine sA ?_ | ((first | apply kM | apply kN); (iterate 3 (· exact rfl)); (· first | exact ya)) | refine sG ?_ | (refine sK ?_ ?_ <;> intro hc <;> (try simp only [KL, sL, reduceCtorEq] at hc) <;> (try (have hT : True := hc; clear hT hc)) <;> (try (exfalso; omega))))
  exact retq rfl ⟨rfl, rfl⟩
theorem peek05_fn (room : Int) (xs : List Due) : FnH Tryz.prog 111 [.ptr 0 0] (agH 4 room xs) (fun r h' => r = .tup [.agg (eDue (dG xs 0)), .bool (decide (0 < xs.length))] ∧ h' = agH 4 room xs) := by
  refine (fnhb Tryz.func111 (entered_of (by kernel_rfl)) rfl rfl ?_).drop
  repeat' (first | refine sA ?_ | (show O _ _ _ _ _ _ _; first | refine ao_alloc (id := 10) rfl rfl rfl rfl rfl rfl rfl ?_) | ((first | apply kM | apply kN); (iterate 3 (· exact rfl)); (· first | exact ya)) | refine sG ?_ | (refine sK ?_ ?_ <;> intro hc <;> (try simp only [KL, sL, reduceCtorEq] at hc) <;> (try (have hT : True := hc; clear hT hc)) <;> (try (exfalso; omega))))
  refine zcall (fun i => i) (len05_fn room xs) rfl rfl leh rfl rfl rfl rfl rfl rfl (fun r h' hR => ?_)
  obtain ⟨rfl, rfl⟩ := hR
  refine ⟨rfl, rfl, ?_⟩
  by_cases h0 : xs.length = 0
  · have e : xs = [] := List.eq_nil_of_length_eq_zero h0
    subst e
    repeat' (first | refine sA ?_ | ((first | apply kM | apply kN); (iterate 3 (· exact rfl)); (· first | exact ya)) | refine sG ?_ | (refine sK ?_ ?_ <;> intro hc <;> (try simp only [KL, sL, reduceCtorEq] at hc) <;> (try (have hT : True := hc; clear hT hc)) <;> (try (exfalso; omega))))
    all_goals exact retq rfl ⟨agH 4 room [], leh, rfl, rfl⟩
  · repeat' (first | refine sA ?_ | ((first | apply kM | apply kN); (iterate 3 (· exact rfl)); (· first | (show Y _ ⟨_, .indexAddr _ _ _, _, _, _, _⟩ _ _ _; first | exact q_ioE (0) rfl rfl rfl rfl rfl rfl (by omega) (by omega)) | exact ya)) | refine sG ?_ | (refine sK ?_ ?_ <;> intro hc <;> (try simp only [KL, sL, reduceCtorEq] at hc) <;> (try (have hT : True := hc; clear hT hc)) <;> (try (exfalso; omega))))
    all_goals first | (exfalso; omega) | skip
    all_goals exact retq rfl ⟨agH 4 room xs, leh, by rw [decide_eq_true (show 0 < xs.length by omega)]; rfl, rfl⟩
theorem up05_fn (room : Int) (xs : List Due) (i : Nat) (hi : i < xs.length) (hl : xs.length ≤ 100000) (hu : HpU xs i) : FnH Tryz.prog 73 [.ptr 0 0, .int .i64 i] (agH 4 room xs) (fun r h' => r = .tup [] ∧ ∃ ys, ys.Perm xs ∧ HpA ys ∧ h' = agH 4 room ys) := by
  refine fnhb Tryz.func73 (entered_of (by kernel_rfl)) rfl rfl ?_
  repeat' (first | refine sA ?_ | ((first | apply kM | apply kN); (iterate 3 (· exact rfl)); (· first | exact ya)) | refine sG ?_ | (refine sK ?_ ?_ <;> intro hc <;> (try simp only [KL, sL, reduceCtorEq] at hc) <;> (try (have hT : True := hc; clear hT hc)) <;> (try (exfalso; omega))))
  refine wloop (fun z : Nat × List Due => ([(0, .ptr 0 0), (1, .int .i64 z.1)], agH 4 room z.2)) (fun z => z.1 < z.2.length ∧ z.2.Perm xs ∧ HpU z.2 z.1) (fun z => z.1) (i, xs) ⟨hi, List.Perm.refl _, hu⟩ les leh (fun z hz => ?_)
  obtain ⟨i, ys⟩ := z
  obtain ⟨h1, h2, h3⟩ := hz
  simp only at h1 h2 h3 ⊢
  have hyl := h2.length_eq
  rcases Nat.eq_zero_or_pos i with h0 | h0
  · subst h0
    repeat' (first | refine sA ?_ | ((first | apply kM | apply kN); (iterate 3 (· exact rfl)); (· first | exact ya)) | refine sG ?_ | (refine sK ?_ ?_ <;> intro hc <;> (try simp only [KL, sL, reduceCtorEq] at hc) <;> (try (have hT : True := hc; clear hT hc)) <;> (try (exfalso; omega))))
    all_goals first | (exfalso; omega) | skip
    exact retn rfl ⟨rfl, ys, h2, up_top h3, rfl⟩
  · have c1 := ahead05_fn (dG ys i) (dG ys ((i - 1) / 2))
    cases hb : ltD (dG ys i) (dG ys ((i - 1) / 2)) <;> rw [hb] at c1
    · rw [ltD_not] at hb
      repeat' (first | refine sA ?_ | ((first | apply kM | apply kN); (iterate 3 (· exact rfl)); (· first | (show Y _ ⟨_, .indexAddr _ _ _, _, _, _, _⟩ _ _ _; first | exact q_ioE (i) rfl rfl rfl rfl rfl rfl (by omega) (by omega) | exact q_ioE ((i - 1) / 2) rfl rfl rfl rfl rfl rfl (by omega) (by omega)) | exact ya | exact q_c (c1) rfl)) | refine sG ?_ | (refine sK ?_ ?_ <;> intro hc <;> (try simp only [KL, sL, reduceCtorEq] at hc) <;> (try (have hT : True := hc; clear hT hc)) <;> (try (exfalso; omega))))
      all_goals first | (exfalso; omega) | skip
      exact retn rfl ⟨rfl, ys, h2, up_end h3 hb, rfl⟩
    · rw [ltD_iff] at hb
      repeat' (first | (show W _ _ _ _ _ _; first | refine wdrawS rfl (by kernel_rfl) (by kernel_rfl) (by kernel_rfl) ?_ | apply kA | refine kB rfl ?_ | refine kC rfl rfl ?_ | refine kD rfl rfl ?_ | apply kE | apply kF | apply kG | apply kH | refine kI (by kernel_rfl) (by kernel_rfl) ?_) | (show O _ _ _ _ _ _ _; first | (show O _ _ _ _ (⟨_, .store _ _ _, _, _, _, _⟩ :: _) _ _; refine kJ rfl rfl rfl rfl rfl rfl rfl rfl rfl rfl rfl ?_) | apply kK) | apply kL | ((first | apply kM | apply kN); (iterate 3 (· exact rfl)); (· first | (show Y _ ⟨_, .indexAddr _ _ _, _, _, _, _⟩ _ _ _; first | exact q_ioE (i) rfl rfl rfl rfl rfl rfl (by omega) (by omega) | exact q_ioE ((i - 1) / 2) rfl rfl rfl rfl rfl rfl (by omega) (by omega)) | (show Y _ ⟨_, .call ⟨.value _, _, _⟩, _, _, _, _⟩ _ _ _; first | exact q_c (c1) rfl) | exact ya)) | (show F _ _ _ _ _ _ _ _ _ _ _; first | refine fnil ?_ | (apply f_ld; (· exact rfl); (· exact rfl); (· first | exact yp)) | refine f_se (x' := dG ys ((i - 1) / 2)) rfl rfl rfl rfl rfl rfl rfl rfl rfl (by (first | rfl | omega | (simp only [List.length_set]; omega) | simp only [List.length_set])) (by (first | rfl | omega | (simp only [List.length_set]; omega) | simp only [List.length_set])) ?_ | refine f_se (x' := dG ys i) rfl rfl rfl rfl rfl rfl rfl rfl rfl (by (first | rfl | omega | (simp only [List.length_set]; omega) | simp only [List.length_set])) (by (first | rfl | omega | (simp only [List.length_set]; omega) | simp only [List.length_set])) ?_ | (apply f_k; (· exact rfl); (· intro y' hy'; first | (show Y _ ⟨_, .indexAddr _ _ _, _, _, _, _⟩ _ _ _; first | exact q_ioE (i) rfl rfl rfl rfl rfl rfl (by omega) (by omega) | exact q_ioE ((i - 1) / 2) rfl rfl rfl rfl rfl rfl (by omega) (by omega)) | (show Y _ ⟨_, .call ⟨.value _, _, _⟩, _, _, _, _⟩ _ _ _; first | exact q_c (c1) rfl) | exact ya))) | refine kO rfl rfl rfl rfl rfl ?_ | refine kP rfl rfl rfl ?_ | ((first | refine kQ rfl rfl ?_ ?_ | refine kR rfl rfl rfl rfl rfl ?_ ?_ | refine kS rfl rfl rfl ?_ ?_) <;> intro hc <;> (try simp only [KL, cond_true, cond_false, beq_iff_eq, bne_iff_ne, ne_eq, reduceCtorEq] at hc) <;> (try (have hT : True := hc; clear hT hc)) <;> (try (exfalso; omega))) | apply kT | apply kU | apply kV | apply kW | refine kX rfl ?_ | apply kY | apply kZ)
      all_goals first | (exfalso; omega) | skip
      have hs := up_step h3 h0 h1 hb
      have hp := sw_perm (l := ys) (p := (i - 1) / 2) (i := i) (by omega) h1
      exact ⟨((i - 1) / 2, swD ys i ((i - 1) / 2)), ⟨by simp only [swD_len]; omega, hp.trans h2, hs⟩, by simp only; omega, les, leh⟩
theorem swD_comm (l : List Due) (i p : Nat) (hi : i < l.length) (hp : p < l.length) (hne : i ≠ p) : swD l i p = swD l p i := by
  apply List.ext_getElem
  · rw [swD_len, swD_len]
  · intro j h1 h2
    rw [swD_len] at h1
    have e1 := swD_at l i p hi hp j h1
    have e2 := swD_at l p i hp hi j h1
    have g1 : dG (swD l i p) j = (swD l i p)[j]'(by rw [swD_len]; exact h1) := by rw [dG, List.getD_eq_getElem?_getD, List.getElem?_eq_getElem (by rw [swD_len]; exact h1)]; rfl
    have g2 : dG (swD l p i) j = (swD l p i)[j]'(by rw [swD_len]; exact h1) := by rw [dG, List.getD_eq_getElem?_getD, List.getElem?_eq_getElem (by rw [swD_len]; exact h1)]; rfl
    rw [← g1, ← g2, e1, e2]
    by_cases h3 : j = p
    · rw [if_pos h3, if_neg (by omega), if_pos h3]
    · rw [if_neg h3, if_neg h3]
set_option maxHeartbeats 4000000 in
theorem down05_fn (room : Int) (xs : List Due) (hl : xs.length ≤ 100000) (i0 : Nat) (hu : HpD xs i0) (hi0 : i0 ≤ xs.length) : FnH Tryz.prog 130 [.ptr 0 0, .int .i64 i0] (agH 4 room xs) (fun r h' => r = .tup [] ∧ ∃ ys, ys.Perm xs ∧ HpA ys ∧ h' = agH 4 room ys) := by
  refine fnhb Tryz.func130 (entered_of (by kernel_rfl)) rfl rfl ?_
  repeat' (first | refine sA ?_ | ((first | apply kM | apply kN); (iterate 3 (· exact rfl)); (· first | exact ya)) | refine sG ?_ | (refine sK ?_ ?_ <;> intro hc <;> (try simp only [KL, sL, reduceCtorEq] at hc) <;> (try (have hT : True := hc; clear hT hc)) <;> (try (exfalso; omega))))
  refine wloop (fun z : Nat × List Due => ([(0, .ptr 0 0), (1, .int .i64 z.1)], agH 4 room z.2)) (fun z => z.1 ≤ z.2.length ∧ z.2.Perm xs ∧ HpD z.2 z.1) (fun z => z.2.length - z.1) (i0, xs) ⟨hi0, List.Perm.refl _, hu⟩ les leh (fun z hz => ?_)
  obtain ⟨i, ys⟩ := z
  obtain ⟨h1, h2, h3⟩ := hz
  simp only at h1 h2 h3 ⊢
  have hyl := h2.length_eq
  by_cases hk : 2 * i + 1 < ys.length
  case neg =>
    repeat' (first | refine sA ?_ | ((first | apply kM | apply kN); (iterate 3 (· exact rfl)); (· first | exact ya)) | refine sG ?_ | (refine sK ?_ ?_ <;> intro hc <;> (try simp only [KL, sL, reduceCtorEq] at hc) <;> (try (have hT : True := hc; clear hT hc)) <;> (try (exfalso; omega))))
    all_goals first | (exfalso; omega) | skip
    exact retq rfl ⟨rfl, ys, h2, down_end h3 (fun j j0 jl jp => by omega), rfl⟩
  have h1 : i < ys.length := by omega
  by_cases hk2 : 2 * i + 2 < ys.length
  case neg =>
    have hsm : ∀ j, 0 < j → j < ys.length → (j - 1) / 2 = i → ¬ gtD (dG ys (2 * i + 1)) (dG ys j) := fun j j0 jl jp => by
      rw [show j = 2 * i + 1 by omega]; unfold gtD; omega
    have c2 := ahead05_fn (dG ys (2 * i + 1)) (dG ys i)
    have hki : (2 * i + 1 - 1) / 2 = i := by omega
    cases hb2 : ltD (dG ys (2 * i + 1)) (dG ys i) <;> rw [hb2] at c2
    · rw [ltD_not] at hb2
      repeat' (first | refine sA ?_ | ((first | apply kM | apply kN); (iterate 3 (· exact rfl)); (· first | (show Y _ ⟨_, .indexAddr _ _ _, _, _, _, _⟩ _ _ _; first | exact q_ioE (2 * i + 1) rfl rfl rfl rfl rfl rfl (by omega) (by omega) | exact q_ioE (2 * i + 2) rfl rfl rfl rfl rfl rfl (by omega) (by omega) | exact q_ioE (i) rfl rfl rfl rfl rfl rfl (by omega) (by omega)) | exact ya | exact q_c (c2) rfl)) | refine sG ?_ | (refine sK ?_ ?_ <;> intro hc <;> (try simp only [KL, sL, reduceCtorEq] at hc) <;> (try (have hT : True := hc; clear hT hc)) <;> (try (exfalso; omega))))
      all_goals first | (exfalso; omega) | skip
      all_goals exact retq rfl ⟨rfl, ys, h2, down_end h3 (fun j j0 jl jp => by
        have := hsm j j0 jl jp
        unfold gtD at *; omega), rfl⟩
    · rw [ltD_iff] at hb2
      repeat' (first | (show W _ _ _ _ _ _; first | refine wdrawS rfl (by kernel_rfl) (by kernel_rfl) (by kernel_rfl) ?_ | apply kA | refine kB rfl ?_ | refine kC rfl rfl ?_ | refine kD rfl rfl ?_ | apply kE | apply kF | apply kG | apply kH | refine kI (by kernel_rfl) (by kernel_rfl) ?_) | (show O _ _ _ _ _ _ _; first | (show O _ _ _ _ (⟨_, .store _ _ _, _, _, _, _⟩ :: _) _ _; refine kJ rfl rfl rfl rfl rfl rfl rfl rfl rfl rfl rfl ?_) | apply kK) | apply kL | ((first | apply kM | apply kN); (iterate 3 (· exact rfl)); (· first | (show Y _ ⟨_, .indexAddr _ _ _, _, _, _, _⟩ _ _ _; first | exact q_ioE (2 * i + 1) rfl rfl rfl rfl rfl rfl (by omega) (by omega) | exact q_ioE (2 * i + 2) rfl rfl rfl rfl rfl rfl (by omega) (by omega) | exact q_ioE (i) rfl rfl rfl rfl rfl rfl (by omega) (by omega)) | (show Y _ ⟨_, .call ⟨.value _, _, _⟩, _, _, _, _⟩ _ _ _; first | exact q_c (c2) rfl) | exact ya)) | (show F _ _ _ _ _ _ _ _ _ _ _; first | refine fnil ?_ | (apply f_ld; (· exact rfl); (· exact rfl); (· first | exact yp)) | refine f_se (x' := dG ys (2 * i + 1)) rfl rfl rfl rfl rfl rfl rfl rfl rfl (by (first | rfl | omega | (simp only [List.length_set]; omega) | simp only [List.length_set])) (by (first | rfl | omega | (simp only [List.length_set]; omega) | simp only [List.length_set])) ?_ | refine f_se (x' := dG ys i) rfl rfl rfl rfl rfl rfl rfl rfl rfl (by (first | rfl | omega | (simp only [List.length_set]; omega) | simp only [List.length_set])) (by (first | rfl | omega | (simp only [List.length_set]; omega) | simp only [List.length_set])) ?_ | (apply f_k; (· exact rfl); (· intro y' hy'; first | (show Y _ ⟨_, .indexAddr _ _ _, _, _, _, _⟩ _ _ _; first | exact q_ioE (2 * i + 1) rfl rfl rfl rfl rfl rfl (by omega) (by omega) | exact q_ioE (2 * i + 2) rfl rfl rfl rfl rfl rfl (by omega) (by omega) | exact q_ioE (i) rfl rfl rfl rfl rfl rfl (by omega) (by omega)) | (show Y _ ⟨_, .call ⟨.value _, _, _⟩, _, _, _, _⟩ _ _ _; first | exact q_c (c2) rfl) | exact ya))) | refine kO rfl rfl rfl rfl rfl ?_ | refine kP rfl rfl rfl ?_ | ((first | refine kQ rfl rfl ?_ ?_ | refine kR rfl rfl rfl rfl rfl ?_ ?_ | refine kS rfl rfl rfl ?_ ?_) <;> intro hc <;> (try simp only [KL, cond_true, cond_false, beq_iff_eq, bne_iff_ne, ne_eq, reduceCtorEq] at hc) <;> (try (have hT : True := hc; clear hT hc)) <;> (try (exfalso; omega))) | apply kT | apply kU | apply kV | apply kW | refine kX rfl ?_ | apply kY | apply kZ)
      all_goals first | (exfalso; omega) | skip
      have hs := down_step h3 (show 0 < 2 * i + 1 by omega) hk hki hb2 hsm
      have hp := sw_perm (l := ys) (p := i) (i := 2 * i + 1) (by omega) hk
      rw [swD_comm ys _ _ hk h1 (by omega)] at hp
      exact ⟨(2 * i + 1, swD ys i (2 * i + 1)), ⟨by simp only [swD_len]; omega, hp.trans h2, hs⟩, by simp only [swD_len]; omega, les, leh⟩
  have c1 := ahead05_fn (dG ys (2 * i + 2)) (dG ys (2 * i + 1))
  cases hb : ltD (dG ys (2 * i + 2)) (dG ys (2 * i + 1)) <;> rw [hb] at c1
  · rw [ltD_not] at hb
    have hsm : ∀ j, 0 < j → j < ys.length → (j - 1) / 2 = i → ¬ gtD (dG ys (2 * i + 1)) (dG ys j) := fun j j0 jl jp => by
      rcases (show j = 2 * i + 1 ∨ j = 2 * i + 2 by omega) with e | e <;> rw [e]
      · unfold gtD; omega
      · exact hb
    have c2 := ahead05_fn (dG ys (2 * i + 1)) (dG ys i)
    have hki : (2 * i + 1 - 1) / 2 = i := by omega
    cases hb2 : ltD (dG ys (2 * i + 1)) (dG ys i) <;> rw [hb2] at c2
    · rw [ltD_not] at hb2
      repeat' (first | refine sA ?_ | ((first | apply kM | apply kN); (iterate 3 (· exact rfl)); (· first | (show Y _ ⟨_, .indexAddr _ _ _, _, _, _, _⟩ _ _ _; first | exact q_ioE (2 * i + 1) rfl rfl rfl rfl rfl rfl (by omega) (by omega) | exact q_ioE (2 * i + 2) rfl rfl rfl rfl rfl rfl (by omega) (by omega) | exact q_ioE (i) rfl rfl rfl rfl rfl rfl (by omega) (by omega)) | exact ya | exact q_c (c1) rfl | exact q_c (c2) rfl)) | refine sG ?_ | (refine sK ?_ ?_ <;> intro hc <;> (try simp only [KL, sL, reduceCtorEq] at hc) <;> (try (have hT : True := hc; clear hT hc)) <;> (try (exfalso; omega))))
      all_goals first | (exfalso; omega) | skip
      all_goals exact retq rfl ⟨rfl, ys, h2, down_end h3 (fun j j0 jl jp => by
        have := hsm j j0 jl jp
        unfold gtD at *; omega), rfl⟩
    · rw [ltD_iff] at hb2
      repeat' (first | (show W _ _ _ _ _ _; first | refine wdrawS rfl (by kernel_rfl) (by kernel_rfl) (by kernel_rfl) ?_ | apply kA | refine kB rfl ?_ | refine kC rfl rfl ?_ | refine kD rfl rfl ?_ | apply kE | apply kF | apply kG | apply kH | refine kI (by kernel_rfl) (by kernel_rfl) ?_) | (show O _ _ _ _ _ _ _; first | (show O _ _ _ _ (⟨_, .store _ _ _, _, _, _, _⟩ :: _) _ _; refine kJ rfl rfl rfl rfl rfl rfl rfl rfl rfl rfl rfl ?_) | apply kK) | apply kL | ((first | apply kM | apply kN); (iterate 3 (· exact rfl)); (· first | (show Y _ ⟨_, .indexAddr _ _ _, _, _, _, _⟩ _ _ _; first | exact q_ioE (2 * i + 1) rfl rfl rfl rfl rfl rfl (by omega) (by omega) | exact q_ioE (2 * i + 2) rfl rfl rfl rfl rfl rfl (by omega) (by omega) | exact q_ioE (i) rfl rfl rfl rfl rfl rfl (by omega) (by omega)) | (show Y _ ⟨_, .call ⟨.value _, _, _⟩, _, _, _, _⟩ _ _ _; first | exact q_c (c1) rfl | exact q_c (c2) rfl) | exact ya)) | (show F _ _ _ _ _ _ _ _ _ _ _; first | refine fnil ?_ | (apply f_ld; (· exact rfl); (· exact rfl); (· first | exact yp)) | refine f_se (x' := dG ys (2 * i + 1)) rfl rfl rfl rfl rfl rfl rfl rfl rfl (by (first | rfl | omega | (simp only [List.length_set]; omega) | simp only [List.length_set])) (by (first | rfl | omega | (simp only [List.length_set]; omega) | simp only [List.length_set])) ?_ | refine f_se (x' := dG ys i) rfl rfl rfl rfl rfl rfl rfl rfl rfl (by (first | rfl | omega | (simp only [List.length_set]; omega) | simp only [List.length_set])) (by (first | rfl | omega | (simp only [List.length_set]; omega) | simp only [List.length_set])) ?_ | (apply f_k; (· exact rfl); (· intro y' hy'; first | (show Y _ ⟨_, .indexAddr _ _ _, _, _, _, _⟩ _ _ _; first | exact q_ioE (2 * i + 1) rfl rfl rfl rfl rfl rfl (by omega) (by omega) | exact q_ioE (2 * i + 2) rfl rfl rfl rfl rfl rfl (by omega) (by omega) | exact q_ioE (i) rfl rfl rfl rfl rfl rfl (by omega) (by omega)) | (show Y _ ⟨_, .call ⟨.value _, _, _⟩, _, _, _, _⟩ _ _ _; first | exact q_c (c1) rfl | exact q_c (c2) rfl) | exact ya))) | refine kO rfl rfl rfl rfl rfl ?_ | refine kP rfl rfl rfl ?_ | ((first | refine kQ rfl rfl ?_ ?_ | refine kR rfl rfl rfl rfl rfl ?_ ?_ | refine kS rfl rfl rfl ?_ ?_) <;> intro hc <;> (try simp only [KL, cond_true, cond_false, beq_iff_eq, bne_iff_ne, ne_eq, reduceCtorEq] at hc) <;> (try (have hT : True := hc; clear hT hc)) <;> (try (exfalso; omega))) | apply kT | apply kU | apply kV | apply kW | refine kX rfl ?_ | apply kY | apply kZ)
      all_goals first | (exfalso; omega) | skip
      have hs := down_step h3 (show 0 < 2 * i + 1 by omega) hk hki hb2 hsm
      have hp := sw_perm (l := ys) (p := i) (i := 2 * i + 1) (by omega) hk
      rw [swD_comm ys _ _ hk h1 (by omega)] at hp
      exact ⟨(2 * i + 1, swD ys i (2 * i + 1)), ⟨by simp only [swD_len]; omega, hp.trans h2, hs⟩, by simp only [swD_len]; omega, les, leh⟩
  · rw [ltD_iff] at hb
    have hsm : ∀ j, 0 < j → j < ys.length → (j - 1) / 2 = i → ¬ gtD (dG ys (2 * i + 2)) (dG ys j) := fun j j0 jl jp => by
      rcases (show j = 2 * i + 1 ∨ j = 2 * i + 2 by omega) with e | e <;> rw [e]
      · unfold gtD at *; omega
      · unfold gtD; omega
    have hk := hk2
    have c2 := ahead05_fn (dG ys (2 * i + 2)) (dG ys i)
    have hki : (2 * i + 2 - 1) / 2 = i := by omega
    cases hb2 : ltD (dG ys (2 * i + 2)) (dG ys i) <;> rw [hb2] at c2
    · rw [ltD_not] at hb2
      repeat' (first | refine sA ?_ | ((first | apply kM | apply kN); (iterate 3 (· exact rfl)); (· first | (show Y _ ⟨_, .indexAddr _ _ _, _, _, _, _⟩ _ _ _; first | exact q_ioE (2 * i + 1) rfl rfl rfl rfl rfl rfl (by omega) (by omega) | exact q_ioE (2 * i + 2) rfl rfl rfl rfl rfl rfl (by omega) (by omega) | exact q_ioE (i) rfl rfl rfl rfl rfl rfl (by omega) (by omega)) | exact ya | exact q_c (c1) rfl | exact q_c (c2) rfl)) | refine sG ?_ | (refine sK ?_ ?_ <;> intro hc <;> (try simp only [KL, sL, reduceCtorEq] at hc) <;> (try (have hT : True := hc; clear hT hc)) <;> (try (exfalso; omega))))
      all_goals first | (exfalso; omega) | skip
      all_goals exact retq rfl ⟨rfl, ys, h2, down_end h3 (fun j j0 jl jp => by
        have := hsm j j0 jl jp
        unfold gtD at *; omega), rfl⟩
    · rw [ltD_iff] at hb2
      repeat' (first | (show W _ _ _ _ _ _; first | refine wdrawS rfl (by kernel_rfl) (by kernel_rfl) (by kernel_rfl) ?_ | apply kA | refine kB rfl ?_ | refine kC rfl rfl ?_ | refine kD rfl rfl ?_ | apply kE | apply kF | apply kG | apply kH | refine kI (by kernel_rfl) (by kernel_rfl) ?_) | (show O _ _ _ _ _ _ _; first | (show O _ _ _ _ (⟨_, .store _ _ _, _, _, _, _⟩ :: _) _ _; refine kJ rfl rfl rfl rfl rfl rfl rfl rfl rfl rfl rfl ?_) | apply kK) | apply kL | ((first | apply kM | apply kN); (iterate 3 (· exact rfl)); (· first | (show Y _ ⟨_, .indexAddr _ _ _, _, _, _, _⟩ _ _ _; first | exact q_ioE (2 * i + 1) rfl rfl rfl rfl rfl rfl (by omega) (by omega) | exact q_ioE (2 * i + 2) rfl rfl rfl rfl rfl rfl (by omega) (by omega) | exact q_ioE (i) rfl rfl rfl rfl rfl rfl (by omega) (by omega)) | (show Y _ ⟨_, .call ⟨.value _, _, _⟩, _, _, _, _⟩ _ _ _; first | exact q_c (c1) rfl | exact q_c (c2) rfl) | exact ya)) | (show F _ _ _ _ _ _ _ _ _ _ _; first | refine fnil ?_ | (apply f_ld; (· exact rfl); (· exact rfl); (· first | exact yp)) | refine f_se (x' := dG ys (2 * i + 2)) rfl rfl rfl rfl rfl rfl rfl rfl rfl (by (first | rfl | omega | (simp only [List.length_set]; omega) | simp only [List.length_set])) (by (first | rfl | omega | (simp only [List.length_set]; omega) | simp only [List.length_set])) ?_ | refine f_se (x' := dG ys i) rfl rfl rfl rfl rfl rfl rfl rfl rfl (by (first | rfl | omega | (simp only [List.length_set]; omega) | simp only [List.length_set])) (by (first | rfl | omega | (simp only [List.length_set]; omega) | simp only [List.length_set])) ?_ | (apply f_k; (· exact rfl); (· intro y' hy'; first | (show Y _ ⟨_, .indexAddr _ _ _, _, _, _, _⟩ _ _ _; first | exact q_ioE (2 * i + 1) rfl rfl rfl rfl rfl rfl (by omega) (by omega) | exact q_ioE (2 * i + 2) rfl rfl rfl rfl rfl rfl (by omega) (by omega) | exact q_ioE (i) rfl rfl rfl rfl rfl rfl (by omega) (by omega)) | (show Y _ ⟨_, .call ⟨.value _, _, _⟩, _, _, _, _⟩ _ _ _; first | exact q_c (c1) rfl | exact q_c (c2) rfl) | exact ya))) | refine kO rfl rfl rfl rfl rfl ?_ | refine kP rfl rfl rfl ?_ | ((first | refine kQ rfl rfl ?_ ?_ | refine kR rfl rfl rfl rfl rfl ?_ ?_ | refine kS rfl rfl rfl ?_ ?_) <;> intro hc <;> (try simp only [KL, cond_true, cond_false, beq_iff_eq, bne_iff_ne, ne_eq, reduceCtorEq] at hc) <;> (try (have hT : True := hc; clear hT hc)) <;> (try (exfalso; omega))) | apply kT | apply kU | apply kV | apply kW | refine kX rfl ?_ | apply kY | apply kZ)
      all_goals first | (exfalso; omega) | skip
      have hs := down_step h3 (show 0 < 2 * i + 2 by omega) hk hki hb2 hsm
      have hp := sw_perm (l := ys) (p := i) (i := 2 * i + 2) (by omega) hk
      rw [swD_comm ys _ _ hk h1 (by omega)] at hp
      exact ⟨(2 * i + 2, swD ys i (2 * i + 2)), ⟨by simp only [swD_len]; omega, hp.trans h2, hs⟩, by simp only [swD_len]; omega, les, leh⟩
end Go.Proofs.YtfjoaeghnfkdlaaGreatDoor
