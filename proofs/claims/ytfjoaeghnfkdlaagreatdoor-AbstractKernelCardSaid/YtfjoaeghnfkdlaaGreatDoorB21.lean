/- Whether a task's numbers may be, over abstract values. No condition. -/
import Derived.Test.YtfjoaeghnfkdlaaGreatDoorB13
import Derived.Test.YtfjoaeghnfkdlaaGreatDoorB16
import Derived.Test.YtfjoaeghnfkdlaaGreatDoorB8
set_option linter.unusedSimpArgs false
set_option linter.unusedVariables false
set_option maxHeartbeats 1000000
set_option maxRecDepth 100000
namespace Go.Proofs.YtfjoaeghnfkdlaaGreatDoor
open Go.RowKit
theorem j0s (n low high : Int) : Fn Tryz.prog 70 [.int .i64 n, .int .i64 low, .int .i64 high] (.bool (decide (low <= n ∧ n <= high))) := by
 refine fnb Tryz.func70 (j5 (by kernel_rfl)) rfl rfl rfl ?_
 repeat' (first | refine sT ?_ | refine sQ ?_ ?_ | intro hc | exact trivial)
 all_goals exact jK rfl (congrArg AV.bool (by rw [Bool.eq_iff_iff]; (try simp only [cond_true, cond_false, decide_eq_true_eq, Bool.not_eq_true', decide_eq_false_iff_not, Bool.and_eq_true, Bool.or_eq_true, true_iff, false_iff, iff_true, iff_false, Bool.false_eq_true, Bool.not_true, Bool.not_false, reduceCtorEq]); (first | done | omega | (constructor <;> intros <;> omega))))
def jt (t : Task) : Bool := decide ((t.kind = 1 ∨ t.kind = 2 ∧ t.offset = 0) ∧ (0 <= t.prio ∧ t.prio <= 255) ∧ (1 <= t.period ∧ t.period <= 1048576) ∧ (0 <= t.offset ∧ t.offset <= 1048576) ∧ (1 <= t.deadline ∧ t.deadline <= t.period) ∧ (1 <= t.own ∧ t.own <= 64))
theorem Qo (t : Task) : Fn Tryz.prog 34 [.agg (jJ t)] (.bool (jt t)) := by
 refine fnb Tryz.func34 (j5 (by kernel_rfl)) rfl rfl rfl ?_
 repeat' (first | refine sT ?_ | refine sC (j0s _ _ _) ?_ | refine sQ ?_ ?_ | intro hc | exact trivial)
 all_goals exact jK rfl (congrArg AV.bool (by rw [Bool.eq_iff_iff]; (try simp only [jt, cond_true, cond_false, decide_eq_true_eq, Bool.not_eq_true', decide_eq_false_iff_not, Bool.and_eq_true, Bool.or_eq_true, true_iff, false_iff, iff_true, iff_false, Bool.false_eq_true, Bool.not_true, Bool.not_false, reduceCtorEq]); (first | done | omega | (constructor <;> intros <;> omega))))
set_option maxHeartbeats 4000000 in
theorem j0z (t : Task) : Fn Tryz.prog 40 [.agg (jJ t)] (.bool (jt t)) := by
 refine fnb Tryz.func40 (j5 (by kernel_rfl)) rfl rfl rfl ?_
 repeat' (first | refine sT ?_ | refine sQ ?_ ?_ | intro hc | exact trivial)
 all_goals exact jK rfl (congrArg AV.bool (by rw [Bool.eq_iff_iff]; (try simp only [jt, cond_true, cond_false, decide_eq_true_eq, Bool.not_eq_true', decide_eq_false_iff_not, Bool.and_eq_true, Bool.or_eq_true, true_iff, false_iff, iff_true, iff_false, Bool.false_eq_true, Bool.not_true, Bool.not_false, reduceCtorEq]); (first | done | omega | (constructor <;> intros <;> omega))))
theorem qL {t : Task} (h : jt t = true) : (t.kind = 1 ∨ t.kind = 2 ∧ t.offset = 0) ∧ (0 <= t.prio ∧ t.prio <= 255) ∧ (1 <= t.period ∧ t.period <= 1048576) ∧ (0 <= t.offset ∧ t.offset <= 1048576) ∧ (1 <= t.deadline ∧ t.deadline <= t.period) ∧ (1 <= t.own ∧ t.own <= 64) := of_decide_eq_true h
theorem wo (t : Task) : Fn Tryz.prog 71 [.agg (jJ t)] (.bool (jt t && decide (t.kind = 1))) := by
 refine fnb Tryz.func71 (j5 (by kernel_rfl)) rfl rfl rfl ?_
 repeat' (first | refine sT ?_ | refine sC (Qo _) ?_ | refine sQ ?_ ?_ | intro hc | exact trivial)
 all_goals exact jK rfl (congrArg AV.bool (by simp [*]))
def vg (a b : Int) : Int := if a < 1 ∨ b < 1 then 0 else (a - 1) / b + 1
theorem Xw (a b : Int) : Fn Tryz.prog 72 [.int .i64 a, .int .i64 b] (.int .i64 (vg a b)) := by
 refine fnb Tryz.func72 (j5 (by kernel_rfl)) rfl rfl rfl ?_
 refine Qe 0 rfl (fun hr => ?_)
 simp only [jS] at hr
 have hd : 1 <= a -> 1 <= b -> 0 <= (a - 1) / b ∧ (a - 1) / b <= a - 1 := fun h1 h2 => ⟨Int.ediv_nonneg (by omega) (by omega), Int.ediv_le_self _ (by omega)⟩
 by_cases h1 : a < 1
 ·repeat' (first | refine sT ?_ | refine sQ ?_ ?_ | intro hc | exact trivial)
  all_goals first | (exfalso; omega) | exact jK rfl (congrArg (AV.int _) (by rw [vg, if_pos (.inl h1)]))
 by_cases h2 : b < 1
 ·repeat' (first | refine sT ?_ | refine sQ ?_ ?_ | intro hc | exact trivial)
  all_goals first | (exfalso; omega) | exact jK rfl (congrArg (AV.int _) (by rw [vg, if_pos (.inr h2)]))
 have hd := hd (by omega) (by omega)
 repeat' (first | refine sT ?_ | refine sQ ?_ ?_ | intro hc | exact trivial)
 all_goals exact jK rfl (congrArg (AV.int _) (by rw [vg, if_neg (by omega)]))
def qs (t : Task) (frm : Int) : Int :=
 if jt t = true ∧ t.kind = 1 ∧ frm <= 1099511627776 then (let at_ := if frm <= t.offset then t.offset else t.offset + vg (frm - t.offset) t.period * t.period; if at_ > 1099511627776 then -1 else at_) else -1
theorem yw (a p : Int) (h1 : 1 <= a) (h2 : 1 <= p) : a <= vg a p * p ∧ vg a p * p <= a - 1 + p := by
 rw [vg, if_neg (by omega), Int.add_mul, Int.one_mul]
 have h3 := Int.mul_ediv_add_emod (a - 1) p
 have h4 := Int.emod_nonneg (a - 1) (show p ≠ 0 by omega)
 have h5 := Int.emod_lt_of_pos (a - 1) (show 0 < p by omega)
 rw [Int.mul_comm] at h3
 omega
theorem Zm (a p : Int) (h1 : 1 <= a) (h2 : 1 <= p) : 1 <= vg a p ∧ vg a p <= a := by
 rw [vg, if_neg (by omega)]
 have h3 := Int.ediv_nonneg (show 0 <= a - 1 by omega) (show 0 <= p by omega)
 have h4 := Int.ediv_le_self p (show 0 <= a - 1 by omega)
 omega
theorem XP (t : Task) (frm : Int) : Fn Tryz.prog 38 [.agg (jJ t), .int .i64 frm] (.tup [.int .i64 (if qs t frm < 0 then 0 else qs t frm), .bool (decide (0 <= qs t frm))]) := by
 refine fnb Tryz.func38 (j5 (by kernel_rfl)) rfl rfl rfl ?_
 refine Qe 1 rfl (fun hr => ?_)
 simp only [jS] at hr
 cases hp : jt t && decide (t.kind = 1)
 ·have e : qs t frm = -1 := by
   rw [qs, if_neg]; intro h; simp [h.1, h.2.1] at hp
  rw [e]
  repeat' (first | refine sT ?_ | refine sC (wo _) ?_ | refine sQ ?_ ?_ | intro hc | exact trivial)
  all_goals first | (exfalso; simp_all; done) | exact jK rfl rfl
 simp only [Bool.and_eq_true, decide_eq_true_eq] at hp
 obtain ⟨hp, hk⟩ := hp
 have hpp : (jt t && decide (t.kind = 1)) = true := by simp [hp, hk]
 obtain ⟨_, _, h3, h4, _, _⟩ := qL hp
 by_cases htop : frm <= 1099511627776
 case neg =>
  have e : qs t frm = -1 := by rw [qs, if_neg]; intro h; omega
  rw [e]
  repeat' (first | refine sT ?_ | refine sC (wo _) ?_ | refine sQ ?_ ?_ | intro hc | exact trivial)
  all_goals first | (exfalso; simp_all; done) | (exfalso; omega) | exact jK rfl rfl
 by_cases hlow : frm <= t.offset
 ·have e : qs t frm = t.offset := by rw [qs, if_pos ⟨hp, hk, htop⟩]; simp only [if_pos hlow]; rw [if_neg (by omega)]
  rw [e, if_neg (by omega)]
  repeat' (first | refine sA ?_ | refine sY ?_ | refine sC (wo _) ?_ | refine sC (Xw _ _) ?_ | ((first | apply kM | apply kN); (iterate 3 (· exact rfl)); (· first | exact q_w rfl)) | refine sG ?_ | refine sQ ?_ ?_ | intro hc | exact trivial)
  all_goals first | (exfalso; simp_all; done) | (exfalso; omega) | exact jK rfl (by rw [decide_eq_true (show 0 <= t.offset by omega)])
 ·have hm := yw (frm - t.offset) t.period (by omega) (by omega)
  have hm2 := Zm (frm - t.offset) t.period (by omega) (by omega)
  by_cases hbig : t.offset + vg (frm - t.offset) t.period * t.period > 1099511627776
  ·have e : qs t frm = -1 := by rw [qs, if_pos ⟨hp, hk, htop⟩]; simp only [if_neg hlow]; rw [if_pos hbig]
   rw [e]
   repeat' (first | refine sT ?_ | refine sC (wo _) ?_ | refine sC (Xw _ _) ?_ | refine sQ ?_ ?_ | intro hc | exact trivial)
   all_goals first | (exfalso; simp_all; done) | (exfalso; omega) | exact jK rfl rfl
  ·have e : qs t frm = t.offset + vg (frm - t.offset) t.period * t.period := by rw [qs, if_pos ⟨hp, hk, htop⟩]; simp only [if_neg hlow]; rw [if_neg hbig]
   rw [e, if_neg (by omega)]
   repeat' (first | refine sT ?_ | refine sC (wo _) ?_ | refine sC (Xw _ _) ?_ | refine sQ ?_ ?_ | intro hc | exact trivial)
   all_goals first | (exfalso; simp_all; done) | (exfalso; omega) | exact jK rfl (by rw [decide_eq_true (show 0 <= t.offset + vg (frm - t.offset) t.period * t.period by omega)])
open Go.RowKit
open Go.RowKit
def jQ (c : Due -> Due -> Int) (x y : Due) : Bool := decide (c x y < 0)
theorem Xv (fc : FuncId) (pp xx zz yy ss : List Due) (a b n : Int) (ha : a = pp.length) (hb : b = pp.length + xx.length + zz.length) (hn : n = xx.length) (hXY : yy.length = xx.length) (hl : pp.length + xx.length + zz.length + yy.length + ss.length <= 1000000000000) :
  FnH Tryz.prog 164 [.own 4, .int .i64 a, .int .i64 b, .int .i64 n, .fn (.func fc) [] []] [(4, .row 60 2 ((pp ++ xx ++ zz ++ yy ++ ss).map jD))]
  (fun r h' => r = .tup [] ∧ h' = [(4, .row 60 2 ((pp ++ yy ++ zz ++ xx ++ ss).map jD))]) := by
 refine qo Tryz.func164 (j5 (by kernel_rfl)) rfl rfl ?_
 subst ha hb hn
 repeat' (first | refine sT ?_ | refine sQ ?_ ?_ | intro hc | exact trivial)
 refine jk (fun k : Nat => ([(0, .own 4), (1, .int .i64 pp.length), (2, .int .i64 (pp.length + xx.length + zz.length)), (3, .int .i64 xx.length), (10, .int .i64 k)], [(4, .row 60 2 ((swM pp xx zz yy ss k).map jD))])) (fun k => k <= xx.length) (fun k => xx.length - k) 0 (Nat.zero_le _) les (by rw [j5J]; exact leh) (fun k hk => ?_)
 have hlen := j01 (P := pp) (Z := zz) (S := ss) (k := k) hXY
 repeat' (first | refine ve rfl (by kernel_rfl) (by kernel_rfl) (by kernel_rfl) ?_ | refine sA ?_ | ((first | apply kM | apply kN); (iterate 3 (· exact rfl)); (· first | (show Y _ ⟨_, .indexAddr _ _ _, _, _, _, _⟩ _ _ _; first | exact jP (pp.length + k) rfl rfl rfl rfl rfl rfl (by omega) (by omega) | exact jP (pp.length + xx.length + zz.length + k) rfl rfl rfl rfl rfl rfl (by omega) (by omega)))) | refine sY ?_ | (show F _ _ _ _ _ _ _ _ _ _ _; first | refine yj ?_ | (apply yn; (· exact rfl); (· exact rfl); (· first | exact yp)) | refine wI (x' := (swM pp xx zz yy ss k).getD (pp.length + xx.length + zz.length + k) default) rfl rfl rfl rfl rfl rfl rfl rfl rfl (by (first | rfl | omega | (simp only [List.length_set]; omega) | simp only [List.length_set])) (by (first | rfl | omega | (simp only [List.length_set]; omega) | simp only [List.length_set])) ?_ | refine wI (x' := (swM pp xx zz yy ss k).getD (pp.length + k) default) rfl rfl rfl rfl rfl rfl rfl rfl rfl (by (first | rfl | omega | (simp only [List.length_set]; omega) | simp only [List.length_set])) (by (first | rfl | omega | (simp only [List.length_set]; omega) | simp only [List.length_set])) ?_ | (apply f_k; (· exact rfl); (· intro y' hy'; first | (show Y _ ⟨_, .indexAddr _ _ _, _, _, _, _⟩ _ _ _; first | exact jP (pp.length + k) rfl rfl rfl rfl rfl rfl (by omega) (by omega) | exact jP (pp.length + xx.length + zz.length + k) rfl rfl rfl rfl rfl rfl (by omega) (by omega)) | exact ya))) | refine sG ?_ | refine sQ ?_ ?_ | intro hc | exact trivial)
 ·rw [YC hXY (by omega) rfl rfl]
  exact ⟨k + 1, by omega, by omega, les, leh⟩
 ·obtain rfl : k = xx.length := by omega
  rw [j5H rfl hXY]
  exact vb rfl ⟨rfl, rfl⟩
theorem QQ (fc : FuncId) (pp xx yy ss : List Due) (a m b : Int) (ha : a = pp.length) (hm : m = pp.length + xx.length) (hb : b = pp.length + xx.length + yy.length) (h1 : 0 < xx.length) (h2 : 0 < yy.length) (hl : pp.length + xx.length + yy.length + ss.length <= 1000000000000) :
  FnH Tryz.prog 151 [.own 4, .int .i64 a, .int .i64 m, .int .i64 b, .fn (.func fc) [] []] [(4, .row 60 2 ((pp ++ xx ++ yy ++ ss).map jD))]
  (fun r h' => r = .tup [] ∧ h' = [(4, .row 60 2 ((pp ++ yy ++ xx ++ ss).map jD))]) := by
 refine qo Tryz.func151 (j5 (by kernel_rfl)) rfl rfl ?_
 subst ha hm hb
 repeat' (first | refine sT ?_ | refine sQ ?_ ?_ | intro hc | exact trivial)
 refine jk (fun x : List Due × List Due × List Due × List Due => ([(0, .own 4), (2, .int .i64 (pp.length + xx.length)), (4, .fn (.func fc) [] []), (10, .int .i64 x.2.1.length), (11, .int .i64 x.2.2.1.length)], [(4, .row 60 2 ((x.1 ++ x.2.1 ++ x.2.2.1 ++ x.2.2.2).map jD))]))
  (fun x => 0 < x.2.1.length ∧ 0 < x.2.2.1.length ∧ x.1.length + x.2.1.length = pp.length + xx.length ∧ x.1 ++ x.2.2.1 ++ x.2.1 ++ x.2.2.2 = pp ++ yy ++ xx ++ ss) (fun x => x.2.1.length + x.2.2.1.length) (pp, xx, yy, ss) ⟨h1, h2, rfl, rfl⟩ les leh (fun x hx => ?_)
 obtain ⟨p, q, r, t⟩ := x
 obtain ⟨k1, k2, k3, k4⟩ := hx
 simp only at k1 k2 k3 k4 ⊢
 have k5 : p.length + r.length + q.length + t.length = pp.length + yy.length + xx.length + ss.length := by have := congrArg List.length k4; simp only [List.length_append] at this; omega
 rcases Nat.lt_trichotomy q.length r.length with hc | hc | hc
 ·obtain ⟨r1, r2, rfl, hr⟩ : ∃ r1 r2, r = r1 ++ r2 ∧ r2.length = q.length := ⟨r.take (r.length - q.length), r.drop (r.length - q.length), by rw [tdl], by rw [List.length_drop]; omega⟩
  rw [List.length_append] at hc k5
  rw [show p ++ q ++ (r1 ++ r2) ++ t = p ++ q ++ r1 ++ r2 ++ t by simp]
  rw [List.length_append]
  repeat' (first | refine sT ?_ | refine sQ ?_ ?_ | intro hc | exact trivial)
  refine jL (fun i => i) (Xv fc  p q r1 r2 t _ _ _ (by omega) (by omega) (by omega) hr (by omega)) rfl rfl leh rfl rfl rfl rfl rfl rfl (fun r h' hR => ?_)
  obtain ⟨rfl, rfl⟩ := hR
  refine ⟨rfl, rfl, ?_⟩
  repeat' (first | refine sT ?_ | refine sQ ?_ ?_ | intro hc | exact trivial)
  rw [show p ++ r2 ++ r1 ++ q ++ t = p ++ r2 ++ r1 ++ (q ++ t) by simp]
  exact ⟨(p, r2, r1, q ++ t), ⟨by simp only; omega, by simp only; omega, by simp only; omega, by rw [<- k4]; simp⟩, by simp only [List.length_append]; omega, les, leh⟩
 ·repeat' (first | refine sT ?_ | refine sQ ?_ ?_ | intro hc | exact trivial)
  rw [show p ++ q ++ r ++ t = p ++ q ++ [] ++ r ++ t by simp]
  refine jL (fun i => i) (Xv fc  p q [] r t _ _ _ (by omega) (by simp only [List.length_nil]; omega) (by omega) (by omega) (by simp only [List.length_nil]; omega)) rfl rfl leh rfl rfl rfl rfl rfl rfl (fun r h' hR => ?_)
  obtain ⟨rfl, rfl⟩ := hR
  refine ⟨rfl, rfl, ?_⟩
  repeat' (first | refine sT ?_ | refine sQ ?_ ?_ | intro hc | exact trivial)
  rw [show p ++ r ++ [] ++ q ++ t = p ++ r ++ q ++ t by simp, k4]
  exact vb rfl ⟨rfl, rfl⟩
 ·obtain ⟨q1, q2, rfl, hr⟩ : ∃ q1 q2, q = q1 ++ q2 ∧ q1.length = r.length := ⟨q.take r.length, q.drop r.length, by rw [tdl], by rw [List.length_take]; omega⟩
  rw [List.length_append] at hc k5 k3
  rw [show p ++ (q1 ++ q2) ++ r ++ t = p ++ q1 ++ q2 ++ r ++ t by simp]
  rw [List.length_append]
  repeat' (first | refine sT ?_ | refine sQ ?_ ?_ | intro hc | exact trivial)
  refine jL (fun i => i) (Xv fc  p q1 q2 r t _ _ _ (by omega) (by omega) (by omega) hr.symm (by omega)) rfl rfl leh rfl rfl rfl rfl rfl rfl (fun r h' hR => ?_)
  obtain ⟨rfl, rfl⟩ := hR
  refine ⟨rfl, rfl, ?_⟩
  repeat' (first | refine sT ?_ | refine sQ ?_ ?_ | intro hc | exact trivial)
  exact ⟨(p ++ r, q2, q1, t), ⟨by simp only; omega, by simp only; omega, by simp only [List.length_append]; omega, by rw [<- k4]; simp⟩, by simp only [List.length_append]; omega, les, leh⟩
theorem j09 (fc : FuncId) (c : Due -> Due -> Int) (p : Due -> Prop) (hs : SWO (jQ c)) (hF : ∀ x y, p x -> p y -> Fn Tryz.prog fc ([(fun x : Due => AV.agg (jD x)) x, (fun x : Due => AV.agg (jD x)) y] ++ []) (.int .i64 (c x y))) (pp xx ss : List Due) (hp : ∀ x ∈ xx, p x) (a b : Int) (ha : a = pp.length) (hb : b = pp.length + xx.length) (hl : pp.length + xx.length + ss.length <= 1000000000000) :
  FnH Tryz.prog 132 [.own 4, .int .i64 a, .int .i64 b, .fn (.func fc) [] []] [(4, .row 60 2 ((pp ++ xx ++ ss).map jD))]
  (fun r h' => r = .tup [] ∧ ∃ xx', StS (jQ c) xx xx' ∧ h' = [(4, .row 60 2 ((pp ++ xx' ++ ss).map jD))]) := by
 refine qo Tryz.func132 (j5 (by kernel_rfl)) rfl rfl ?_
 subst ha hb
 repeat' (first | refine sT ?_ | refine sQ ?_ ?_ | intro hc | exact trivial)
 refine jk (fun x : List Due × List Due × Nat => ([(0, .own 4), (1, .int .i64 pp.length), (2, .int .i64 (pp.length + xx.length)), (3, .fn (.func fc) [] []), (8, .int .i64 (pp.length + x.2.2))], [(4, .row 60 2 ((pp ++ (x.1 ++ x.2.1) ++ ss).map jD))]))
  (fun x => Rch (jQ c) xx (x.1 ++ x.2.1) ∧ Srt (jQ c) x.1 ∧ (x.1.length = x.2.2 ∨ (x.2.1 = [] ∧ x.1.length <= x.2.2))) (fun x => xx.length + 1 - x.2.2) (xx.take 1, xx.drop 1, 1)
  ⟨by rw [tdl]; exact .refl, .of_len (by rw [List.length_take]; omega), by
   rcases Nat.eq_zero_or_pos xx.length with h | h
   ·exact .inr ⟨List.drop_of_length_le (by omega), by rw [List.length_take]; omega⟩
   ·exact .inl (by simp only [List.length_take]; omega)⟩ les (by dsimp only; rw [tdl]; exact leh) (fun x hx => ?_)
 obtain ⟨dd, ee, i⟩ := x
 obtain ⟨k1, k2, k3⟩ := hx
 simp only at k1 k2 k3 ⊢
 have k4 : dd.length + ee.length = xx.length := by have := k1.len; rwa [List.length_append] at this
 rcases Nat.lt_or_ge i xx.length with hi | hi
 ·have k5 : dd.length = i := by
   rcases k3 with k3 | ⟨rfl, k3⟩
   ·exact k3
   ·simp only [List.length_nil] at k4; omega
  subst k5
  clear k3
  match ee, k1, k4 with
  | [], k1, k4 => simp only [List.length_nil] at k4; omega
  | x :: ee, k1, k4 =>
  have hpx : p x := hp x (k1.mem.1 (List.mem_append_right _ List.mem_cons_self))
  have hpd : ∀ y ∈ dd, p y := fun y hy => hp y (k1.mem.1 (List.mem_append_left _ hy))
  rw [List.length_cons] at k4
  repeat' (first | refine sT ?_ | refine sQ ?_ ?_ | intro hc | exact trivial)
  refine jk (fun z : List Due × List Due => ([(0, .own 4), (1, .int .i64 pp.length), (2, .int .i64 (pp.length + xx.length)), (3, .fn (.func fc) [] []), (8, .int .i64 (pp.length + dd.length)), (9, .int .i64 (pp.length + z.1.length))], [(4, .row 60 2 ((pp ++ (z.1 ++ x :: z.2 ++ ee) ++ ss).map jD))]))
   (fun z => z.1 ++ z.2 = dd ∧ ∀ y ∈ z.2, jQ c x y = true) (fun z => z.1.length) (dd, []) ⟨List.append_nil _, fun y hy => by cases hy⟩ les (by dsimp only; rw [show dd ++ x :: [] ++ ee = dd ++ x :: ee by simp]; exact leh) (fun z hz => ?_)
  obtain ⟨d1, d2⟩ := z
  obtain ⟨m1, m2⟩ := hz
  simp only at m1 m2 ⊢
  subst m1
  have m3 : Rch (jQ c) xx (d1 ++ x :: d2 ++ ee) := by
   have := (Rch.left x d2 m2).ctx d1 ee
   refine k1.trans ?_
   simpa using this
  rcases List.eq_nil_or_concat d1 with rfl | ⟨d1, y, rfl⟩
  ·repeat' (first | refine sT ?_ | refine sQ ?_ ?_ | intro hc | exact trivial)
   all_goals first | (exfalso; simp only [List.length_nil] at *; omega) | skip
   rw [show ([] ++ x :: d2 ++ ee) = (x :: d2) ++ ee by simp]
   refine ⟨(x :: d2, ee, d2.length + 1), ⟨by simpa using m3, List.pairwise_cons.2 ⟨fun y hy => hs.asym (m2 y hy), k2⟩, .inl rfl⟩, ?_, les, leh⟩
   simp only [List.nil_append] at *; omega
  ·rw [List.concat_eq_append] at *
   have hpy : p y := hpd y (by simp)
   obtain ⟨M, hM⟩ : ∃ M, M = pp ++ (d1 ++ [y] ++ x :: d2 ++ ee) ++ ss := ⟨_, rfl⟩
   obtain ⟨k0, hk0⟩ : ∃ k0, k0 = pp.length + d1.length := ⟨_, rfl⟩
   obtain ⟨k1', hk1⟩ : ∃ k1, k1 = k0 + 1 := ⟨_, rfl⟩
   obtain ⟨q1, q2, q3, q4⟩ := adj (M := M) (p := pp ++ d1) (u := y) (v := x) (r := d2 ++ ee ++ ss) (k := k0) (by rw [hM]; simp) (by simp [hk0]) hk1
   have hlM : M.length = pp.length + xx.length + ss.length := by
    have := m3.len
    rw [hM]; simp only [List.length_append, List.length_cons, List.length_nil] at this ⊢; omega
   rw [<- hM]
   have hc1 := hF x y hpx hpy
   simp only [List.length_append, List.length_cons, List.length_nil] at *
   repeat' (first | refine ve rfl (by kernel_rfl) (by kernel_rfl) (by kernel_rfl) ?_ | refine sA ?_ | ((first | apply kM | apply kN); (iterate 3 (· exact rfl)); (· first | (show Y _ ⟨_, .indexAddr _ _ _, _, _, _, _⟩ _ _ _; first | exact jP (k1') rfl rfl rfl rfl rfl rfl (by omega) (by omega) | exact jP (k0) rfl rfl rfl rfl rfl rfl (by omega) (by omega)) | (show Y _ ⟨_, .load _ _, _, _, _, _⟩ _ _ _; first | exact jn q1 | exact jn q2))) | refine sY ?_ | refine sC (hc1) ?_ | (show F _ _ _ _ _ _ _ _ _ _ _; first | refine yj ?_ | (apply yn; (· exact rfl); (· exact rfl); (· first | exact jn q1 | exact jn q2 | exact yp)) | refine wI (x' := y) rfl rfl rfl rfl rfl rfl rfl rfl rfl (by (first | rfl | omega | (simp only [List.length_set]; omega) | simp only [List.length_set])) (by (first | rfl | omega | (simp only [List.length_set]; omega) | simp only [List.length_set])) ?_ | refine wI (x' := x) rfl rfl rfl rfl rfl rfl rfl rfl rfl (by (first | rfl | omega | (simp only [List.length_set]; omega) | simp only [List.length_set])) (by (first | rfl | omega | (simp only [List.length_set]; omega) | simp only [List.length_set])) ?_ | (apply f_k; (· exact rfl); (· intro y' hy'; first | (show Y _ ⟨_, .indexAddr _ _ _, _, _, _, _⟩ _ _ _; first | exact jP (k1') rfl rfl rfl rfl rfl rfl (by omega) (by omega) | exact jP (k0) rfl rfl rfl rfl rfl rfl (by omega) (by omega)) | (show Y _ ⟨_, .load _ _, _, _, _, _⟩ _ _ _; first | exact jn q1 | exact jn q2) | exact ya | exact q_c (hc1) rfl))) | refine sG ?_ | refine sQ ?_ ?_ | intro hc | exact trivial)
   all_goals first | (exfalso; omega) | skip
   ·rw [q3]
    refine ⟨(d1, y :: d2), ⟨by simp, fun z hz => ?_⟩, by simp only; omega, les, ?_⟩
    ·rcases List.mem_cons.1 hz with rfl | hz
     ·exact decide_eq_true (by assumption)
     ·exact m2 z hz
    ·rw [show pp ++ (d1 ++ x :: (y :: d2) ++ ee) ++ ss = pp ++ d1 ++ x :: y :: (d2 ++ ee ++ ss) by simp]
     exact leh
   ·rw [hM]
    refine ⟨(d1 ++ [y] ++ x :: d2, ee, d1.length + 1 + d2.length + 1), ⟨m3, ?_, .inl (by simp only [List.length_append, List.length_cons, List.length_nil]; omega)⟩, by simp only; omega, les, leh⟩
    have n1 : jQ c x y = false := decide_eq_false (by omega)
    rw [Srt.app] at k2 ⊢
    refine ⟨k2.1, List.pairwise_cons.2 ⟨fun z hz => hs.asym (m2 z hz), k2.2.1⟩, fun u hu v hv => ?_⟩
    rcases List.mem_cons.1 hv with rfl | hv
    ·rcases List.mem_append.1 hu with hu | hu
     ·exact hs.nt _ _ _ n1 ((Srt.app.1 k2.1).2.2 u hu y List.mem_cons_self)
     ·rw [List.mem_singleton.1 hu]; exact n1
    ·exact k2.2.2 u hu v hv
 ·have k5 : ee = [] := by
   rcases k3 with k3 | k3
   ·exact List.eq_nil_of_length_eq_zero (by omega)
   ·exact k3.1
  subst k5
  rw [List.append_nil] at k1 ⊢
  repeat' (first | refine sT ?_ | refine sQ ?_ ?_ | intro hc | exact trivial)
  exact vb rfl ⟨rfl, dd, ⟨k1, k2⟩, rfl⟩
theorem j4c (fc : FuncId) (c : Due -> Due -> Int) (p : Due -> Prop) (hs : SWO (jQ c)) (hF : ∀ x y, p x -> p y -> Fn Tryz.prog fc ([(fun x : Due => AV.agg (jD x)) x, (fun x : Due => AV.agg (jD x)) y] ++ []) (.int .i64 (c x y))) (pp yy ss : List Due) (x : Due) (hpx : p x) (hp : ∀ x ∈ yy, p x) (hy : Srt (jQ c) yy) (a m b : Int) (ha : a = pp.length) (hm : m = pp.length + 1) (hb : b = pp.length + 1 + yy.length) (hl : pp.length + yy.length + ss.length <= 1000000000) :
  FnH Tryz.prog 142 [.own 4, .int .i64 a, .int .i64 m, .int .i64 b, .fn (.func fc) [] []] [(4, .row 60 2 ((pp ++ [x] ++ yy ++ ss).map jD))]
  (fun r h' => r = .tup [] ∧ ∃ xx', StS (jQ c) ([x] ++ yy) xx' ∧ h' = [(4, .row 60 2 ((pp ++ xx' ++ ss).map jD))]) := by
 refine qo Tryz.func142 (j5 (by kernel_rfl)) rfl rfl ?_
 subst ha hm hb
 obtain ⟨M, hM⟩ : ∃ M, M = pp ++ [x] ++ yy ++ ss := ⟨_, rfl⟩
 have hlM : M.length = pp.length + 1 + yy.length + ss.length := by rw [hM]; simp; omega
 obtain ⟨kx, hkx⟩ : ∃ k, k = pp.length := ⟨_, rfl⟩
 have qx : M.getD kx default = x := by rw [hM, Zn (k := 0) (by simp) (by omega)]; rfl
 rw [<- hM]
 repeat' (first | refine sT ?_ | refine sQ ?_ ?_ | intro hc | exact trivial)
 all_goals first | (exfalso; omega) | skip
 refine jk (fun z : Nat × Nat => ([(0, .own 4), (1, .int .i64 pp.length), (2, .int .i64 (pp.length + 1)), (3, .int .i64 (pp.length + 1 + yy.length)), (4, .fn (.func fc) [] []), (10, .int .i64 (pp.length + 1 + z.1)), (11, .int .i64 (pp.length + 1 + z.2))], [(4, .row 60 2 (M.map jD))]))
  (fun z => z.1 <= z.2 ∧ z.2 <= yy.length ∧ (∀ k, k < z.1 -> k < yy.length -> jQ c (yy.getD k default) x = true) ∧ (∀ k, z.2 <= k -> k < yy.length -> jQ c (yy.getD k default) x = false)) (fun z => z.2 - z.1) (0, yy.length)
  ⟨Nat.zero_le _, Nat.le_refl _, fun k h _ => absurd h (Nat.not_lt_zero _), fun k h h' => absurd h' (Nat.not_lt.2 h)⟩ les leh (fun z hz => ?_)
 obtain ⟨i, j⟩ := z
 obtain ⟨k1, k2, k3, k4⟩ := hz
 simp only at k1 k2 k3 k4 ⊢
 rcases Nat.lt_or_eq_of_le k1 with hij | hij
 ·obtain ⟨q, hq⟩ : ∃ q, q = (i + j) / 2 := ⟨_, rfl⟩
  obtain ⟨kq, hkq⟩ : ∃ k, k = pp.length + 1 + q := ⟨_, rfl⟩
  have hqj : q < j := by omega
  have qq : M.getD kq default = yy.getD q default := by rw [hM]; exact j0a (by omega) (by simp only [List.length_cons, List.length_nil]; omega)
  have hc1 := hF (yy.getD q default) x (hp _ (qN (by omega))) hpx
  repeat' (first | refine sA ?_ | ((first | apply kM | apply kN); (iterate 3 (· exact rfl)); (· first | (show Y _ ⟨_, .indexAddr _ _ _, _, _, _, _⟩ _ _ _; first | exact jP (kq) rfl rfl rfl rfl rfl rfl (by omega) (by omega) | exact jP (kx) rfl rfl rfl rfl rfl rfl (by omega) (by omega)) | (show Y _ ⟨_, .load _ _, _, _, _, _⟩ _ _ _; first | exact jn qq | exact jn qx) | (show Y _ ⟨_, .binOp .shr _ _ _ _, _, _, _, _⟩ _ _ _; first | exact vq kq rfl rfl (Or.inl rfl) (by omega) (by omega) | exact vq kq rfl rfl (Or.inr rfl) (by omega) (by omega)))) | refine sY ?_ | refine sC (hc1) ?_ | refine sG ?_ | refine sQ ?_ ?_ | intro hc | exact trivial)
  all_goals first | (exfalso; omega) | skip
  ·have n1 : jQ c (yy.getD q default) x = true := decide_eq_true (by assumption)
   exact ⟨(q + 1, j), ⟨by simp only; omega, k2, fun k h h' => j08 hs hy (by simp only at h; omega) (by omega) n1, k4⟩, by simp only; omega, les, leh⟩
  ·have n1 : jQ c (yy.getD q default) x = false := decide_eq_false (by omega)
   exact ⟨(i, q), ⟨by simp only; omega, by simp only; omega, k3, fun k h h' => Xj hs hy h h' n1⟩, by simp only; omega, les, leh⟩
 ·subst hij
  have hst := j02 hs hy k3 k4
  repeat' (first | refine sT ?_ | refine sQ ?_ ?_ | intro hc | exact trivial)
  all_goals first | (exfalso; omega) | skip
  refine jk (fun z : List Due × List Due => ([(0, .own 4), (4, .fn (.func fc) [] []), (10, .int .i64 (pp.length + 1 + i)), (13, .int .i64 (pp.length + z.1.length))], [(4, .row 60 2 ((pp ++ z.1 ++ x :: z.2 ++ yy.drop i ++ ss).map jD))]))
   (fun z => z.1 ++ z.2 = yy.take i) (fun z => z.2.length) ([], yy.take i) rfl les (by dsimp only; rw [hM, show pp ++ [] ++ x :: yy.take i ++ yy.drop i ++ ss = pp ++ [x] ++ (yy.take i ++ yy.drop i) ++ ss by simp, tdl]; exact leh) (fun z hz => ?_)
  obtain ⟨d1, d2⟩ := z
  simp only at hz ⊢
  have hlt : d1.length + d2.length = i := by have := congrArg List.length hz; rw [List.length_append, List.length_take] at this; omega
  match d2, hz, hlt with
  | [], hz, hlt =>
   rw [List.append_nil] at hz
   rw [List.length_nil] at hlt
   subst hz
   repeat' (first | refine sT ?_ | refine sQ ?_ ?_ | intro hc | exact trivial)
   all_goals first | (exfalso; omega) | skip
   refine jK rfl ⟨rfl, _, hst, ?_⟩
   rw [show pp ++ (yy.take i ++ x :: yy.drop i) ++ ss = pp ++ yy.take i ++ [x] ++ yy.drop i ++ ss by simp]
  | y :: d2, hz, hlt =>
   rw [List.length_cons] at hlt
   obtain ⟨M, hM⟩ : ∃ M, M = pp ++ d1 ++ x :: (y :: d2) ++ yy.drop i ++ ss := ⟨_, rfl⟩
   obtain ⟨k0, hk0⟩ : ∃ k0, k0 = pp.length + d1.length := ⟨_, rfl⟩
   obtain ⟨k1', hk1⟩ : ∃ k1, k1 = k0 + 1 := ⟨_, rfl⟩
   obtain ⟨q1, q2, q3, q4⟩ := adj (M := M) (p := pp ++ d1) (u := x) (v := y) (r := d2 ++ yy.drop i ++ ss) (k := k0) (by rw [hM]; simp) (by simp [hk0]) hk1
   have hlM : k1' < M.length := by
    rw [hM]; simp only [List.length_append, List.length_cons]; omega
   rw [<- hM]
   repeat' (first | refine ve rfl (by kernel_rfl) (by kernel_rfl) (by kernel_rfl) ?_ | refine sA ?_ | ((first | apply kM | apply kN); (iterate 3 (· exact rfl)); (· first | (show Y _ ⟨_, .indexAddr _ _ _, _, _, _, _⟩ _ _ _; first | exact jP (k1') rfl rfl rfl rfl rfl rfl (by omega) (by omega) | exact jP (k0) rfl rfl rfl rfl rfl rfl (by omega) (by omega)) | (show Y _ ⟨_, .load _ _, _, _, _, _⟩ _ _ _; first | exact jn q1 | exact jn q2))) | refine sY ?_ | (show F _ _ _ _ _ _ _ _ _ _ _; first | refine yj ?_ | (apply yn; (· exact rfl); (· exact rfl); (· first | exact jn q1 | exact jn q2 | exact yp)) | refine wI (x' := y) rfl rfl rfl rfl rfl rfl rfl rfl rfl (by (first | rfl | omega | (simp only [List.length_set]; omega) | simp only [List.length_set])) (by (first | rfl | omega | (simp only [List.length_set]; omega) | simp only [List.length_set])) ?_ | refine wI (x' := x) rfl rfl rfl rfl rfl rfl rfl rfl rfl (by (first | rfl | omega | (simp only [List.length_set]; omega) | simp only [List.length_set])) (by (first | rfl | omega | (simp only [List.length_set]; omega) | simp only [List.length_set])) ?_ | (apply f_k; (· exact rfl); (· intro y' hy'; first | (show Y _ ⟨_, .indexAddr _ _ _, _, _, _, _⟩ _ _ _; first | exact jP (k1') rfl rfl rfl rfl rfl rfl (by omega) (by omega) | exact jP (k0) rfl rfl rfl rfl rfl rfl (by omega) (by omega)) | (show Y _ ⟨_, .load _ _, _, _, _, _⟩ _ _ _; first | exact jn q1 | exact jn q2) | exact ya))) | refine sG ?_ | refine sQ ?_ ?_ | intro hc | exact trivial)
   all_goals first | (exfalso; omega) | skip
   rw [q4]
   exact ⟨(d1 ++ [y], d2), by rw [<- hz]; simp, by simp only [List.length_cons]; omega, les, by dsimp only; rw [show pp ++ (d1 ++ [y]) ++ x :: d2 ++ yy.drop i ++ ss = pp ++ d1 ++ y :: x :: (d2 ++ yy.drop i ++ ss) by simp]; exact leh⟩
theorem j5A (fc : FuncId) (c : Due -> Due -> Int) (p : Due -> Prop) (hs : SWO (jQ c)) (hF : ∀ x y, p x -> p y -> Fn Tryz.prog fc ([(fun x : Due => AV.agg (jD x)) x, (fun x : Due => AV.agg (jD x)) y] ++ []) (.int .i64 (c x y))) (pp xx ss : List Due) (y : Due) (hpy : p y) (hp : ∀ x ∈ xx, p x) (hx : Srt (jQ c) xx) (hn : xx.length ≠ 1) (a m b : Int) (ha : a = pp.length) (hm : m = pp.length + xx.length) (hb : b = pp.length + xx.length + 1) (hl : pp.length + xx.length + ss.length <= 1000000000) :
  FnH Tryz.prog 142 [.own 4, .int .i64 a, .int .i64 m, .int .i64 b, .fn (.func fc) [] []] [(4, .row 60 2 ((pp ++ xx ++ [y] ++ ss).map jD))]
  (fun r h' => r = .tup [] ∧ ∃ xx', StS (jQ c) (xx ++ [y]) xx' ∧ h' = [(4, .row 60 2 ((pp ++ xx' ++ ss).map jD))]) := by
 refine qo Tryz.func142 (j5 (by kernel_rfl)) rfl rfl ?_
 subst ha hm hb
 obtain ⟨M, hM⟩ : ∃ M, M = pp ++ xx ++ [y] ++ ss := ⟨_, rfl⟩
 have hlM : M.length = pp.length + xx.length + 1 + ss.length := by rw [hM]; simp; omega
 obtain ⟨ky, hky⟩ : ∃ k, k = pp.length + xx.length := ⟨_, rfl⟩
 have qy : M.getD ky default = y := by rw [hM, j0a (k := 0) (by simp) (by omega)]; rfl
 rw [<- hM]
 repeat' (first | refine sT ?_ | refine sQ ?_ ?_ | intro hc | exact trivial)
 all_goals first | (exfalso; omega) | skip
 refine jk (fun z : Nat × Nat => ([(0, .own 4), (1, .int .i64 pp.length), (2, .int .i64 (pp.length + xx.length)), (3, .int .i64 (pp.length + xx.length + 1)), (4, .fn (.func fc) [] []), (14, .int .i64 (pp.length + z.1)), (15, .int .i64 (pp.length + z.2))], [(4, .row 60 2 (M.map jD))]))
  (fun z => z.1 <= z.2 ∧ z.2 <= xx.length ∧ (∀ k, k < z.1 -> k < xx.length -> jQ c y (xx.getD k default) = false) ∧ (∀ k, z.2 <= k -> k < xx.length -> jQ c y (xx.getD k default) = true)) (fun z => z.2 - z.1) (0, xx.length)
  ⟨Nat.zero_le _, Nat.le_refl _, fun k h _ => absurd h (Nat.not_lt_zero _), fun k h h' => absurd h' (Nat.not_lt.2 h)⟩ les leh (fun z hz => ?_)
 obtain ⟨i, j⟩ := z
 obtain ⟨k1, k2, k3, k4⟩ := hz
 simp only at k1 k2 k3 k4 ⊢
 rcases Nat.lt_or_eq_of_le k1 with hij | hij
 ·obtain ⟨q, hq⟩ : ∃ q, q = (2 * pp.length + i + j) / 2 - pp.length := ⟨_, rfl⟩
  obtain ⟨kq, hkq⟩ : ∃ k, k = pp.length + q := ⟨_, rfl⟩
  have hqj : q < j := by omega
  have qq : M.getD kq default = xx.getD q default := by rw [hM]; exact Zn (by omega) (by omega)
  have hc1 := hF y (xx.getD q default) hpy (hp _ (qN (by omega)))
  repeat' (first | refine sA ?_ | ((first | apply kM | apply kN); (iterate 3 (· exact rfl)); (· first | (show Y _ ⟨_, .indexAddr _ _ _, _, _, _, _⟩ _ _ _; first | exact jP (kq) rfl rfl rfl rfl rfl rfl (by omega) (by omega) | exact jP (ky) rfl rfl rfl rfl rfl rfl (by omega) (by omega)) | (show Y _ ⟨_, .load _ _, _, _, _, _⟩ _ _ _; first | exact jn qq | exact jn qy) | (show Y _ ⟨_, .binOp .shr _ _ _ _, _, _, _, _⟩ _ _ _; first | exact vq kq rfl rfl (Or.inl rfl) (by omega) (by omega) | exact vq kq rfl rfl (Or.inr rfl) (by omega) (by omega)))) | refine sY ?_ | refine sC (hc1) ?_ | refine sG ?_ | refine sQ ?_ ?_ | intro hc | exact trivial)
  all_goals first | (exfalso; omega) | skip
  ·have n1 : jQ c y (xx.getD q default) = false := decide_eq_false (by omega)
   exact ⟨(q + 1, j), ⟨by simp only; omega, k2, fun k h h' => j06 hs hx (by simp only at h; omega) (by omega) n1, k4⟩, by simp only; omega, les, leh⟩
  ·have n1 : jQ c y (xx.getD q default) = true := decide_eq_true (by omega)
   exact ⟨(i, q), ⟨by simp only; omega, by simp only; omega, k3, fun k h h' => Xa hs hx h h' n1⟩, by simp only; omega, les, leh⟩
 ·subst hij
  have hst := j0B hs hx k3 k4
  repeat' (first | refine sT ?_ | refine sQ ?_ ?_ | intro hc | exact trivial)
  all_goals first | (exfalso; omega) | skip
  refine jk (fun z : List Due × List Due => ([(0, .own 4), (4, .fn (.func fc) [] []), (14, .int .i64 (pp.length + i)), (17, .int .i64 (pp.length + i + z.1.length))], [(4, .row 60 2 ((pp ++ xx.take i ++ z.1 ++ y :: z.2 ++ ss).map jD))]))
   (fun z => z.1 ++ z.2 = xx.drop i) (fun z => z.1.length) (xx.drop i, []) (List.append_nil _) les (by dsimp only; rw [hM, show pp ++ xx.take i ++ xx.drop i ++ y :: [] ++ ss = pp ++ (xx.take i ++ xx.drop i) ++ [y] ++ ss by simp, tdl]; exact leh) (fun z hz => ?_)
  obtain ⟨d1, d2⟩ := z
  simp only at hz ⊢
  have hlt : d1.length + d2.length = xx.length - i := by have := congrArg List.length hz; rwa [List.length_append, List.length_drop] at this
  rcases List.eq_nil_or_concat d1 with rfl | ⟨d1, x, rfl⟩
  ·rw [List.nil_append] at hz
   rw [List.length_nil] at hlt ⊢
   subst hz
   repeat' (first | refine sT ?_ | refine sQ ?_ ?_ | intro hc | exact trivial)
   all_goals first | (exfalso; omega) | skip
   refine jK rfl ⟨rfl, _, hst, ?_⟩
   rw [show pp ++ (xx.take i ++ y :: xx.drop i) ++ ss = pp ++ xx.take i ++ [] ++ y :: xx.drop i ++ ss by simp]
  ·rw [List.concat_eq_append] at *
   rw [List.length_append, List.length_cons, List.length_nil] at hlt
   rw [List.length_append, List.length_cons, List.length_nil]
   obtain ⟨M, hM⟩ : ∃ M, M = pp ++ xx.take i ++ (d1 ++ [x]) ++ y :: d2 ++ ss := ⟨_, rfl⟩
   obtain ⟨k0, hk0⟩ : ∃ k0, k0 = pp.length + i + d1.length := ⟨_, rfl⟩
   obtain ⟨k1', hk1⟩ : ∃ k1, k1 = k0 + 1 := ⟨_, rfl⟩
   obtain ⟨q1, q2, q3, q4⟩ := adj (M := M) (p := pp ++ xx.take i ++ d1) (u := x) (v := y) (r := d2 ++ ss) (k := k0) (by rw [hM]; simp) (by simp only [List.length_append, List.length_take]; omega) hk1
   have hlM : k1' < M.length := by
    rw [hM]; simp only [List.length_append, List.length_cons, List.length_nil, List.length_take]; omega
   rw [<- hM]
   repeat' (first | refine ve rfl (by kernel_rfl) (by kernel_rfl) (by kernel_rfl) ?_ | refine sA ?_ | ((first | apply kM | apply kN); (iterate 3 (· exact rfl)); (· first | (show Y _ ⟨_, .indexAddr _ _ _, _, _, _, _⟩ _ _ _; first | exact jP (k1') rfl rfl rfl rfl rfl rfl (by omega) (by omega) | exact jP (k0) rfl rfl rfl rfl rfl rfl (by omega) (by omega)) | (show Y _ ⟨_, .load _ _, _, _, _, _⟩ _ _ _; first | exact jn q1 | exact jn q2))) | refine sY ?_ | (show F _ _ _ _ _ _ _ _ _ _ _; first | refine yj ?_ | (apply yn; (· exact rfl); (· exact rfl); (· first | exact jn q1 | exact jn q2 | exact yp)) | refine wI (x' := x) rfl rfl rfl rfl rfl rfl rfl rfl rfl (by (first | rfl | omega | (simp only [List.length_set]; omega) | simp only [List.length_set])) (by (first | rfl | omega | (simp only [List.length_set]; omega) | simp only [List.length_set])) ?_ | refine wI (x' := y) rfl rfl rfl rfl rfl rfl rfl rfl rfl (by (first | rfl | omega | (simp only [List.length_set]; omega) | simp only [List.length_set])) (by (first | rfl | omega | (simp only [List.length_set]; omega) | simp only [List.length_set])) ?_ | (apply f_k; (· exact rfl); (· intro y' hy'; first | (show Y _ ⟨_, .indexAddr _ _ _, _, _, _, _⟩ _ _ _; first | exact jP (k1') rfl rfl rfl rfl rfl rfl (by omega) (by omega) | exact jP (k0) rfl rfl rfl rfl rfl rfl (by omega) (by omega)) | (show Y _ ⟨_, .load _ _, _, _, _, _⟩ _ _ _; first | exact jn q1 | exact jn q2) | exact ya))) | refine sG ?_ | refine sQ ?_ ?_ | intro hc | exact trivial)
   all_goals first | (exfalso; omega) | skip
   rw [q3]
   exact ⟨(d1, x :: d2), by rw [<- hz]; simp, by simp only [List.length_append, List.length_cons, List.length_nil]; omega, les, by dsimp only; rw [show pp ++ xx.take i ++ d1 ++ y :: (x :: d2) ++ ss = pp ++ xx.take i ++ d1 ++ y :: x :: (d2 ++ ss) by simp]; exact leh⟩
end Go.Proofs.YtfjoaeghnfkdlaaGreatDoor
