/- slices.SortStableFunc, with a closure. Printed by gensort.py. No condition. -/
import Derived.Test.YtfjoaeghnfkdlaaGreatDoorB13
import Derived.Test.YtfjoaeghnfkdlaaGreatDoorB8
set_option linter.unusedSimpArgs false
set_option linter.unusedVariables false
set_option maxHeartbeats 1000000
set_option maxRecDepth 100000
namespace Go.Proofs.YtfjoaeghnfkdlaaGreatDoor
open Go.RowKit
def jT (c : Int -> Int -> Int) (x y : Int) : Bool := decide (c x y < 0)
theorem XO (fc : FuncId) (prio : List Int) (pp xx zz yy ss : List Int) (a b n : Int) (ha : a = pp.length) (hb : b = pp.length + xx.length + zz.length) (hn : n = xx.length) (hXY : yy.length = xx.length) (hl : pp.length + xx.length + zz.length + yy.length + ss.length <= 1000000000000) :
  FnH Tryz.prog 173 [.own 4, .int .i64 a, .int .i64 b, .int .i64 n, .fn (.func fc) [] [.ref [.lst 1 (prio.map eI)]]] [(4, .row 3 1 ((pp ++ xx ++ zz ++ yy ++ ss).map eI))]
  (fun r h' => r = .tup [] ∧ h' = [(4, .row 3 1 ((pp ++ yy ++ zz ++ xx ++ ss).map eI))]) := by
 refine qo Tryz.func173 (j5 (by kernel_rfl)) rfl rfl ?_
 subst ha hb hn
 repeat' (first | refine sT ?_ | refine sQ ?_ ?_ | intro hc | exact trivial)
 refine jk (fun k : Nat => ([(0, .own 4), (1, .int .i64 pp.length), (2, .int .i64 (pp.length + xx.length + zz.length)), (3, .int .i64 xx.length), (10, .int .i64 k)], [(4, .row 3 1 ((swM pp xx zz yy ss k).map eI))])) (fun k => k <= xx.length) (fun k => xx.length - k) 0 (Nat.zero_le _) les (by rw [j5J]; exact leh) (fun k hk => ?_)
 have hlen := j01 (P := pp) (Z := zz) (S := ss) (k := k) hXY
 repeat' (first | refine ve rfl (by kernel_rfl) (by kernel_rfl) (by kernel_rfl) ?_ | refine sA ?_ | ((first | apply kM | apply kN); (iterate 3 (· exact rfl)); (· first | (show Y _ ⟨_, .indexAddr _ _ _, _, _, _, _⟩ _ _ _; first | exact jP (pp.length + k) rfl rfl rfl rfl rfl rfl (by omega) (by omega) | exact jP (pp.length + xx.length + zz.length + k) rfl rfl rfl rfl rfl rfl (by omega) (by omega)))) | refine sY ?_ | (show F _ _ _ _ _ _ _ _ _ _ _; first | refine yj ?_ | (apply yn; (· exact rfl); (· exact rfl); (· first | exact yp)) | refine wI (x' := (swM pp xx zz yy ss k).getD (pp.length + xx.length + zz.length + k) default) rfl rfl rfl rfl rfl rfl rfl rfl rfl (by (first | rfl | omega | (simp only [List.length_set]; omega) | simp only [List.length_set])) (by (first | rfl | omega | (simp only [List.length_set]; omega) | simp only [List.length_set])) ?_ | refine wI (x' := (swM pp xx zz yy ss k).getD (pp.length + k) default) rfl rfl rfl rfl rfl rfl rfl rfl rfl (by (first | rfl | omega | (simp only [List.length_set]; omega) | simp only [List.length_set])) (by (first | rfl | omega | (simp only [List.length_set]; omega) | simp only [List.length_set])) ?_ | (apply f_k; (· exact rfl); (· intro y' hy'; first | (show Y _ ⟨_, .indexAddr _ _ _, _, _, _, _⟩ _ _ _; first | exact jP (pp.length + k) rfl rfl rfl rfl rfl rfl (by omega) (by omega) | exact jP (pp.length + xx.length + zz.length + k) rfl rfl rfl rfl rfl rfl (by omega) (by omega)) | exact ya))) | refine sG ?_ | refine sQ ?_ ?_ | intro hc | exact trivial)
 ·rw [YC hXY (by omega) rfl rfl]
  exact ⟨k + 1, by omega, by omega, les, leh⟩
 ·obtain rfl : k = xx.length := by omega
  rw [j5H rfl hXY]
  exact vb rfl ⟨rfl, rfl⟩
theorem QM (fc : FuncId) (prio : List Int) (pp xx yy ss : List Int) (a m b : Int) (ha : a = pp.length) (hm : m = pp.length + xx.length) (hb : b = pp.length + xx.length + yy.length) (h1 : 0 < xx.length) (h2 : 0 < yy.length) (hl : pp.length + xx.length + yy.length + ss.length <= 1000000000000) :
  FnH Tryz.prog 172 [.own 4, .int .i64 a, .int .i64 m, .int .i64 b, .fn (.func fc) [] [.ref [.lst 1 (prio.map eI)]]] [(4, .row 3 1 ((pp ++ xx ++ yy ++ ss).map eI))]
  (fun r h' => r = .tup [] ∧ h' = [(4, .row 3 1 ((pp ++ yy ++ xx ++ ss).map eI))]) := by
 refine qo Tryz.func172 (j5 (by kernel_rfl)) rfl rfl ?_
 subst ha hm hb
 repeat' (first | refine sT ?_ | refine sQ ?_ ?_ | intro hc | exact trivial)
 refine jk (fun x : List Int × List Int × List Int × List Int => ([(0, .own 4), (2, .int .i64 (pp.length + xx.length)), (4, .fn (.func fc) [] [.ref [.lst 1 (prio.map eI)]]), (10, .int .i64 x.2.1.length), (11, .int .i64 x.2.2.1.length)], [(4, .row 3 1 ((x.1 ++ x.2.1 ++ x.2.2.1 ++ x.2.2.2).map eI))]))
  (fun x => 0 < x.2.1.length ∧ 0 < x.2.2.1.length ∧ x.1.length + x.2.1.length = pp.length + xx.length ∧ x.1 ++ x.2.2.1 ++ x.2.1 ++ x.2.2.2 = pp ++ yy ++ xx ++ ss) (fun x => x.2.1.length + x.2.2.1.length) (pp, xx, yy, ss) ⟨h1, h2, rfl, rfl⟩ les leh (fun x hx => ?_)
 obtain ⟨p, q, r, t⟩ := x
 obtain ⟨k1, k2, k3, k4⟩ := hx
 simp only at k1 k2 k3 k4 ⊢
 have k5 : p.length + r.length + q.length + t.length = pp.length + yy.length + xx.length + ss.length := by have := congrArg List.length k4; simp only [List.length_append] at this; omega
 rcases Nat.lt_trichotomy q.length r.length with hc | hc | hc
 ·obtain ⟨r1, r2, rfl, hr⟩ : ∃ r1 r2, r = r1 ++ r2 ∧ r2.length = q.length := ⟨r.take (r.length - q.length), r.drop (r.length - q.length), by rw [tdl], by rw [List.length_drop]; omega⟩
  rw [List.length_append] at hc k5
  rw [show p ++ q ++ (r1 ++ r2) ++ t = p ++ q ++ r1 ++ r2 ++ t by simp]
  rw [List.length_append]
  repeat' (first | refine sT ?_ | refine sQ ?_ ?_ | intro hc | exact trivial)
  refine jL (fun i => i) (XO fc prio p q r1 r2 t _ _ _ (by omega) (by omega) (by omega) hr (by omega)) rfl rfl leh rfl rfl rfl rfl rfl rfl (fun r h' hR => ?_)
  obtain ⟨rfl, rfl⟩ := hR
  refine ⟨rfl, rfl, ?_⟩
  repeat' (first | refine sT ?_ | refine sQ ?_ ?_ | intro hc | exact trivial)
  rw [show p ++ r2 ++ r1 ++ q ++ t = p ++ r2 ++ r1 ++ (q ++ t) by simp]
  exact ⟨(p, r2, r1, q ++ t), ⟨by simp only; omega, by simp only; omega, by simp only; omega, by rw [<- k4]; simp⟩, by simp only [List.length_append]; omega, les, leh⟩
 ·repeat' (first | refine sT ?_ | refine sQ ?_ ?_ | intro hc | exact trivial)
  rw [show p ++ q ++ r ++ t = p ++ q ++ [] ++ r ++ t by simp]
  refine jL (fun i => i) (XO fc prio p q [] r t _ _ _ (by omega) (by simp only [List.length_nil]; omega) (by omega) (by omega) (by simp only [List.length_nil]; omega)) rfl rfl leh rfl rfl rfl rfl rfl rfl (fun r h' hR => ?_)
  obtain ⟨rfl, rfl⟩ := hR
  refine ⟨rfl, rfl, ?_⟩
  repeat' (first | refine sT ?_ | refine sQ ?_ ?_ | intro hc | exact trivial)
  rw [show p ++ r ++ [] ++ q ++ t = p ++ r ++ q ++ t by simp, k4]
  exact vb rfl ⟨rfl, rfl⟩
 ·obtain ⟨q1, q2, rfl, hr⟩ : ∃ q1 q2, q = q1 ++ q2 ∧ q1.length = r.length := ⟨q.take r.length, q.drop r.length, by rw [tdl], by rw [List.length_take]; omega⟩
  rw [List.length_append] at hc k5 k3
  rw [show p ++ (q1 ++ q2) ++ r ++ t = p ++ q1 ++ q2 ++ r ++ t by simp]
  rw [List.length_append]
  repeat' (first | refine sT ?_ | refine sQ ?_ ?_ | intro hc | exact trivial)
  refine jL (fun i => i) (XO fc prio p q1 q2 r t _ _ _ (by omega) (by omega) (by omega) hr.symm (by omega)) rfl rfl leh rfl rfl rfl rfl rfl rfl (fun r h' hR => ?_)
  obtain ⟨rfl, rfl⟩ := hR
  refine ⟨rfl, rfl, ?_⟩
  repeat' (first | refine sT ?_ | refine sQ ?_ ?_ | intro hc | exact trivial)
  exact ⟨(p ++ r, q2, q1, t), ⟨by simp only; omega, by simp only; omega, by simp only [List.length_append]; omega, by rw [<- k4]; simp⟩, by simp only [List.length_append]; omega, les, leh⟩
theorem Zy (fc : FuncId) (prio : List Int) (c : Int -> Int -> Int) (p : Int -> Prop) (hs : SWO (jT c)) (hF : ∀ x y, p x -> p y -> Fn Tryz.prog fc ([(fun x : Int => AV.int .i64 x) x, (fun x : Int => AV.int .i64 x) y] ++ [.ref [.lst 1 (prio.map eI)]]) (.int .i64 (c x y))) (pp xx ss : List Int) (hp : ∀ x ∈ xx, p x) (a b : Int) (ha : a = pp.length) (hb : b = pp.length + xx.length) (hl : pp.length + xx.length + ss.length <= 1000000000000) :
  FnH Tryz.prog 170 [.own 4, .int .i64 a, .int .i64 b, .fn (.func fc) [] [.ref [.lst 1 (prio.map eI)]]] [(4, .row 3 1 ((pp ++ xx ++ ss).map eI))]
  (fun r h' => r = .tup [] ∧ ∃ xx', StS (jT c) xx xx' ∧ h' = [(4, .row 3 1 ((pp ++ xx' ++ ss).map eI))]) := by
 refine qo Tryz.func170 (j5 (by kernel_rfl)) rfl rfl ?_
 subst ha hb
 repeat' (first | refine sT ?_ | refine sQ ?_ ?_ | intro hc | exact trivial)
 refine jk (fun x : List Int × List Int × Nat => ([(0, .own 4), (1, .int .i64 pp.length), (2, .int .i64 (pp.length + xx.length)), (3, .fn (.func fc) [] [.ref [.lst 1 (prio.map eI)]]), (8, .int .i64 (pp.length + x.2.2))], [(4, .row 3 1 ((pp ++ (x.1 ++ x.2.1) ++ ss).map eI))]))
  (fun x => Rch (jT c) xx (x.1 ++ x.2.1) ∧ Srt (jT c) x.1 ∧ (x.1.length = x.2.2 ∨ (x.2.1 = [] ∧ x.1.length <= x.2.2))) (fun x => xx.length + 1 - x.2.2) (xx.take 1, xx.drop 1, 1)
  ⟨by rw [tdl]; exact .refl, .of_len (by rw [List.length_take]; omega), by
   rcases Nat.eq_zero_or_pos xx.length with h | h
   ·exact .inr ⟨List.drop_of_length_le (by omega), by rw [List.length_take]; omega⟩
   ·exact .inl (by simp only [List.length_take]; omega)⟩ les (by dsimp only; rw [tdl]; exact leh) (fun x hx => ?_)
 obtain ⟨dd, ee, i⟩ := x
 obtain ⟨k1, k2, k3⟩ := hx
 simp only at k1 k2 k3 ⊢
 have k4 : dd.length + ee.length = xx.length := by have := k1.len; rwa [List.length_append] at this
 rcases Nat.lt_or_ge i xx.length with hi | hi
 ·have k5 : dd.length = i := by
   rcases k3 with k3 | ⟨rfl, k3⟩
   ·exact k3
   ·simp only [List.length_nil] at k4; omega
  subst k5
  clear k3
  match ee, k1, k4 with
  | [], k1, k4 => simp only [List.length_nil] at k4; omega
  | x :: ee, k1, k4 =>
  have hpx : p x := hp x (k1.mem.1 (List.mem_append_right _ List.mem_cons_self))
  have hpd : ∀ y ∈ dd, p y := fun y hy => hp y (k1.mem.1 (List.mem_append_left _ hy))
  rw [List.length_cons] at k4
  repeat' (first | refine sT ?_ | refine sQ ?_ ?_ | intro hc | exact trivial)
  refine jk (fun z : List Int × List Int => ([(0, .own 4), (1, .int .i64 pp.length), (2, .int .i64 (pp.length + xx.length)), (3, .fn (.func fc) [] [.ref [.lst 1 (prio.map eI)]]), (8, .int .i64 (pp.length + dd.length)), (9, .int .i64 (pp.length + z.1.length))], [(4, .row 3 1 ((pp ++ (z.1 ++ x :: z.2 ++ ee) ++ ss).map eI))]))
   (fun z => z.1 ++ z.2 = dd ∧ ∀ y ∈ z.2, jT c x y = true) (fun z => z.1.length) (dd, []) ⟨List.append_nil _, fun y hy => by cases hy⟩ les (by dsimp only; rw [show dd ++ x :: [] ++ ee = dd ++ x :: ee by simp]; exact leh) (fun z hz => ?_)
  obtain ⟨d1, d2⟩ := z
  obtain ⟨m1, m2⟩ := hz
  simp only at m1 m2 ⊢
  subst m1
  have m3 : Rch (jT c) xx (d1 ++ x :: d2 ++ ee) := by
   have := (Rch.left x d2 m2).ctx d1 ee
   refine k1.trans ?_
   simpa using this
  rcases List.eq_nil_or_concat d1 with rfl | ⟨d1, y, rfl⟩
  ·repeat' (first | refine sT ?_ | refine sQ ?_ ?_ | intro hc | exact trivial)
   all_goals first | (exfalso; simp only [List.length_nil] at *; omega) | skip
   rw [show ([] ++ x :: d2 ++ ee) = (x :: d2) ++ ee by simp]
   refine ⟨(x :: d2, ee, d2.length + 1), ⟨by simpa using m3, List.pairwise_cons.2 ⟨fun y hy => hs.asym (m2 y hy), k2⟩, .inl rfl⟩, ?_, les, leh⟩
   simp only [List.nil_append] at *; omega
  ·rw [List.concat_eq_append] at *
   have hpy : p y := hpd y (by simp)
   obtain ⟨M, hM⟩ : ∃ M, M = pp ++ (d1 ++ [y] ++ x :: d2 ++ ee) ++ ss := ⟨_, rfl⟩
   obtain ⟨k0, hk0⟩ : ∃ k0, k0 = pp.length + d1.length := ⟨_, rfl⟩
   obtain ⟨k1', hk1⟩ : ∃ k1, k1 = k0 + 1 := ⟨_, rfl⟩
   obtain ⟨q1, q2, q3, q4⟩ := adj (M := M) (p := pp ++ d1) (u := y) (v := x) (r := d2 ++ ee ++ ss) (k := k0) (by rw [hM]; simp) (by simp [hk0]) hk1
   have hlM : M.length = pp.length + xx.length + ss.length := by
    have := m3.len
    rw [hM]; simp only [List.length_append, List.length_cons, List.length_nil] at this ⊢; omega
   rw [<- hM]
   have hc1 := hF x y hpx hpy
   simp only [List.length_append, List.length_cons, List.length_nil] at *
   repeat' (first | refine ve rfl (by kernel_rfl) (by kernel_rfl) (by kernel_rfl) ?_ | refine sA ?_ | ((first | apply kM | apply kN); (iterate 3 (· exact rfl)); (· first | (show Y _ ⟨_, .indexAddr _ _ _, _, _, _, _⟩ _ _ _; first | exact jP (k1') rfl rfl rfl rfl rfl rfl (by omega) (by omega) | exact jP (k0) rfl rfl rfl rfl rfl rfl (by omega) (by omega)) | (show Y _ ⟨_, .load _ _, _, _, _, _⟩ _ _ _; first | exact jn q1 | exact jn q2))) | refine sY ?_ | refine sC (hc1) ?_ | (show F _ _ _ _ _ _ _ _ _ _ _; first | refine yj ?_ | (apply yn; (· exact rfl); (· exact rfl); (· first | exact jn q1 | exact jn q2 | exact yp)) | refine wI (x' := y) rfl rfl rfl rfl rfl rfl rfl rfl rfl (by (first | rfl | omega | (simp only [List.length_set]; omega) | simp only [List.length_set])) (by (first | rfl | omega | (simp only [List.length_set]; omega) | simp only [List.length_set])) ?_ | refine wI (x' := x) rfl rfl rfl rfl rfl rfl rfl rfl rfl (by (first | rfl | omega | (simp only [List.length_set]; omega) | simp only [List.length_set])) (by (first | rfl | omega | (simp only [List.length_set]; omega) | simp only [List.length_set])) ?_ | (apply f_k; (· exact rfl); (· intro y' hy'; first | (show Y _ ⟨_, .indexAddr _ _ _, _, _, _, _⟩ _ _ _; first | exact jP (k1') rfl rfl rfl rfl rfl rfl (by omega) (by omega) | exact jP (k0) rfl rfl rfl rfl rfl rfl (by omega) (by omega)) | (show Y _ ⟨_, .load _ _, _, _, _, _⟩ _ _ _; first | exact jn q1 | exact jn q2) | exact ya | exact q_c (hc1) rfl))) | refine sG ?_ | refine sQ ?_ ?_ | intro hc | exact trivial)
   all_goals first | (exfalso; omega) | skip
   ·rw [q3]
    refine ⟨(d1, y :: d2), ⟨by simp, fun z hz => ?_⟩, by simp only; omega, les, ?_⟩
    ·rcases List.mem_cons.1 hz with rfl | hz
     ·exact decide_eq_true (by assumption)
     ·exact m2 z hz
    ·rw [show pp ++ (d1 ++ x :: (y :: d2) ++ ee) ++ ss = pp ++ d1 ++ x :: y :: (d2 ++ ee ++ ss) by simp]
     exact leh
   ·rw [hM]
    refine ⟨(d1 ++ [y] ++ x :: d2, ee, d1.length + 1 + d2.length + 1), ⟨m3, ?_, .inl (by simp only [List.length_append, List.length_cons, List.length_nil]; omega)⟩, by simp only; omega, les, leh⟩
    have n1 : jT c x y = false := decide_eq_false (by omega)
    rw [Srt.app] at k2 ⊢
    refine ⟨k2.1, List.pairwise_cons.2 ⟨fun z hz => hs.asym (m2 z hz), k2.2.1⟩, fun u hu v hv => ?_⟩
    rcases List.mem_cons.1 hv with rfl | hv
    ·rcases List.mem_append.1 hu with hu | hu
     ·exact hs.nt _ _ _ n1 ((Srt.app.1 k2.1).2.2 u hu y List.mem_cons_self)
     ·rw [List.mem_singleton.1 hu]; exact n1
    ·exact k2.2.2 u hu v hv
 ·have k5 : ee = [] := by
   rcases k3 with k3 | k3
   ·exact List.eq_nil_of_length_eq_zero (by omega)
   ·exact k3.1
  subst k5
  rw [List.append_nil] at k1 ⊢
  repeat' (first | refine sT ?_ | refine sQ ?_ ?_ | intro hc | exact trivial)
  exact vb rfl ⟨rfl, dd, ⟨k1, k2⟩, rfl⟩
theorem j4R (fc : FuncId) (prio : List Int) (c : Int -> Int -> Int) (p : Int -> Prop) (hs : SWO (jT c)) (hF : ∀ x y, p x -> p y -> Fn Tryz.prog fc ([(fun x : Int => AV.int .i64 x) x, (fun x : Int => AV.int .i64 x) y] ++ [.ref [.lst 1 (prio.map eI)]]) (.int .i64 (c x y))) (pp yy ss : List Int) (x : Int) (hpx : p x) (hp : ∀ x ∈ yy, p x) (hy : Srt (jT c) yy) (a m b : Int) (ha : a = pp.length) (hm : m = pp.length + 1) (hb : b = pp.length + 1 + yy.length) (hl : pp.length + yy.length + ss.length <= 1000000000) :
  FnH Tryz.prog 171 [.own 4, .int .i64 a, .int .i64 m, .int .i64 b, .fn (.func fc) [] [.ref [.lst 1 (prio.map eI)]]] [(4, .row 3 1 ((pp ++ [x] ++ yy ++ ss).map eI))]
  (fun r h' => r = .tup [] ∧ ∃ xx', StS (jT c) ([x] ++ yy) xx' ∧ h' = [(4, .row 3 1 ((pp ++ xx' ++ ss).map eI))]) := by
 refine qo Tryz.func171 (j5 (by kernel_rfl)) rfl rfl ?_
 subst ha hm hb
 obtain ⟨M, hM⟩ : ∃ M, M = pp ++ [x] ++ yy ++ ss := ⟨_, rfl⟩
 have hlM : M.length = pp.length + 1 + yy.length + ss.length := by rw [hM]; simp; omega
 obtain ⟨kx, hkx⟩ : ∃ k, k = pp.length := ⟨_, rfl⟩
 have qx : M.getD kx default = x := by rw [hM, Zn (k := 0) (by simp) (by omega)]; rfl
 rw [<- hM]
 repeat' (first | refine sT ?_ | refine sQ ?_ ?_ | intro hc | exact trivial)
 all_goals first | (exfalso; omega) | skip
 refine jk (fun z : Nat × Nat => ([(0, .own 4), (1, .int .i64 pp.length), (2, .int .i64 (pp.length + 1)), (3, .int .i64 (pp.length + 1 + yy.length)), (4, .fn (.func fc) [] [.ref [.lst 1 (prio.map eI)]]), (10, .int .i64 (pp.length + 1 + z.1)), (11, .int .i64 (pp.length + 1 + z.2))], [(4, .row 3 1 (M.map eI))]))
  (fun z => z.1 <= z.2 ∧ z.2 <= yy.length ∧ (∀ k, k < z.1 -> k < yy.length -> jT c (yy.getD k default) x = true) ∧ (∀ k, z.2 <= k -> k < yy.length -> jT c (yy.getD k default) x = false)) (fun z => z.2 - z.1) (0, yy.length)
  ⟨Nat.zero_le _, Nat.le_refl _, fun k h _ => absurd h (Nat.not_lt_zero _), fun k h h' => absurd h' (Nat.not_lt.2 h)⟩ les leh (fun z hz => ?_)
 obtain ⟨i, j⟩ := z
 obtain ⟨k1, k2, k3, k4⟩ := hz
 simp only at k1 k2 k3 k4 ⊢
 rcases Nat.lt_or_eq_of_le k1 with hij | hij
 ·obtain ⟨q, hq⟩ : ∃ q, q = (i + j) / 2 := ⟨_, rfl⟩
  obtain ⟨kq, hkq⟩ : ∃ k, k = pp.length + 1 + q := ⟨_, rfl⟩
  have hqj : q < j := by omega
  have qq : M.getD kq default = yy.getD q default := by rw [hM]; exact j0a (by omega) (by simp only [List.length_cons, List.length_nil]; omega)
  have hc1 := hF (yy.getD q default) x (hp _ (qN (by omega))) hpx
  repeat' (first | refine sA ?_ | ((first | apply kM | apply kN); (iterate 3 (· exact rfl)); (· first | (show Y _ ⟨_, .indexAddr _ _ _, _, _, _, _⟩ _ _ _; first | exact jP (kq) rfl rfl rfl rfl rfl rfl (by omega) (by omega) | exact jP (kx) rfl rfl rfl rfl rfl rfl (by omega) (by omega)) | (show Y _ ⟨_, .load _ _, _, _, _, _⟩ _ _ _; first | exact jn qq | exact jn qx) | (show Y _ ⟨_, .binOp .shr _ _ _ _, _, _, _, _⟩ _ _ _; first | exact vq kq rfl rfl (Or.inl rfl) (by omega) (by omega) | exact vq kq rfl rfl (Or.inr rfl) (by omega) (by omega)))) | refine sY ?_ | refine sC (hc1) ?_ | refine sG ?_ | refine sQ ?_ ?_ | intro hc | exact trivial)
  all_goals first | (exfalso; omega) | skip
  ·have n1 : jT c (yy.getD q default) x = true := decide_eq_true (by assumption)
   exact ⟨(q + 1, j), ⟨by simp only; omega, k2, fun k h h' => j08 hs hy (by simp only at h; omega) (by omega) n1, k4⟩, by simp only; omega, les, leh⟩
  ·have n1 : jT c (yy.getD q default) x = false := decide_eq_false (by omega)
   exact ⟨(i, q), ⟨by simp only; omega, by simp only; omega, k3, fun k h h' => Xj hs hy h h' n1⟩, by simp only; omega, les, leh⟩
 ·subst hij
  have hst := j02 hs hy k3 k4
  repeat' (first | refine sT ?_ | refine sQ ?_ ?_ | intro hc | exact trivial)
  all_goals first | (exfalso; omega) | skip
  refine jk (fun z : List Int × List Int => ([(0, .own 4), (4, .fn (.func fc) [] [.ref [.lst 1 (prio.map eI)]]), (10, .int .i64 (pp.length + 1 + i)), (13, .int .i64 (pp.length + z.1.length))], [(4, .row 3 1 ((pp ++ z.1 ++ x :: z.2 ++ yy.drop i ++ ss).map eI))]))
   (fun z => z.1 ++ z.2 = yy.take i) (fun z => z.2.length) ([], yy.take i) rfl les (by dsimp only; rw [hM, show pp ++ [] ++ x :: yy.take i ++ yy.drop i ++ ss = pp ++ [x] ++ (yy.take i ++ yy.drop i) ++ ss by simp, tdl]; exact leh) (fun z hz => ?_)
  obtain ⟨d1, d2⟩ := z
  simp only at hz ⊢
  have hlt : d1.length + d2.length = i := by have := congrArg List.length hz; rw [List.length_append, List.length_take] at this; omega
  match d2, hz, hlt with
  | [], hz, hlt =>
   rw [List.append_nil] at hz
   rw [List.length_nil] at hlt
   subst hz
   repeat' (first | refine sT ?_ | refine sQ ?_ ?_ | intro hc | exact trivial)
   all_goals first | (exfalso; omega) | skip
   refine jK rfl ⟨rfl, _, hst, ?_⟩
   rw [show pp ++ (yy.take i ++ x :: yy.drop i) ++ ss = pp ++ yy.take i ++ [x] ++ yy.drop i ++ ss by simp]
  | y :: d2, hz, hlt =>
   rw [List.length_cons] at hlt
   obtain ⟨M, hM⟩ : ∃ M, M = pp ++ d1 ++ x :: (y :: d2) ++ yy.drop i ++ ss := ⟨_, rfl⟩
   obtain ⟨k0, hk0⟩ : ∃ k0, k0 = pp.length + d1.length := ⟨_, rfl⟩
   obtain ⟨k1', hk1⟩ : ∃ k1, k1 = k0 + 1 := ⟨_, rfl⟩
   obtain ⟨q1, q2, q3, q4⟩ := adj (M := M) (p := pp ++ d1) (u := x) (v := y) (r := d2 ++ yy.drop i ++ ss) (k := k0) (by rw [hM]; simp) (by simp [hk0]) hk1
   have hlM : k1' < M.length := by
    rw [hM]; simp only [List.length_append, List.length_cons]; omega
   rw [<- hM]
   repeat' (first | refine ve rfl (by kernel_rfl) (by kernel_rfl) (by kernel_rfl) ?_ | refine sA ?_ | ((first | apply kM | apply kN); (iterate 3 (· exact rfl)); (· first | (show Y _ ⟨_, .indexAddr _ _ _, _, _, _, _⟩ _ _ _; first | exact jP (k1') rfl rfl rfl rfl rfl rfl (by omega) (by omega) | exact jP (k0) rfl rfl rfl rfl rfl rfl (by omega) (by omega)) | (show Y _ ⟨_, .load _ _, _, _, _, _⟩ _ _ _; first | exact jn q1 | exact jn q2))) | refine sY ?_ | (show F _ _ _ _ _ _ _ _ _ _ _; first | refine yj ?_ | (apply yn; (· exact rfl); (· exact rfl); (· first | exact jn q1 | exact jn q2 | exact yp)) | refine wI (x' := y) rfl rfl rfl rfl rfl rfl rfl rfl rfl (by (first | rfl | omega | (simp only [List.length_set]; omega) | simp only [List.length_set])) (by (first | rfl | omega | (simp only [List.length_set]; omega) | simp only [List.length_set])) ?_ | refine wI (x' := x) rfl rfl rfl rfl rfl rfl rfl rfl rfl (by (first | rfl | omega | (simp only [List.length_set]; omega) | simp only [List.length_set])) (by (first | rfl | omega | (simp only [List.length_set]; omega) | simp only [List.length_set])) ?_ | (apply f_k; (· exact rfl); (· intro y' hy'; first | (show Y _ ⟨_, .indexAddr _ _ _, _, _, _, _⟩ _ _ _; first | exact jP (k1') rfl rfl rfl rfl rfl rfl (by omega) (by omega) | exact jP (k0) rfl rfl rfl rfl rfl rfl (by omega) (by omega)) | (show Y _ ⟨_, .load _ _, _, _, _, _⟩ _ _ _; first | exact jn q1 | exact jn q2) | exact ya))) | refine sG ?_ | refine sQ ?_ ?_ | intro hc | exact trivial)
   all_goals first | (exfalso; omega) | skip
   rw [q4]
   exact ⟨(d1 ++ [y], d2), by rw [<- hz]; simp, by simp only [List.length_cons]; omega, les, by dsimp only; rw [show pp ++ (d1 ++ [y]) ++ x :: d2 ++ yy.drop i ++ ss = pp ++ d1 ++ y :: x :: (d2 ++ yy.drop i ++ ss) by simp]; exact leh⟩
theorem j4A (fc : FuncId) (prio : List Int) (c : Int -> Int -> Int) (p : Int -> Prop) (hs : SWO (jT c)) (hF : ∀ x y, p x -> p y -> Fn Tryz.prog fc ([(fun x : Int => AV.int .i64 x) x, (fun x : Int => AV.int .i64 x) y] ++ [.ref [.lst 1 (prio.map eI)]]) (.int .i64 (c x y))) (pp xx ss : List Int) (y : Int) (hpy : p y) (hp : ∀ x ∈ xx, p x) (hx : Srt (jT c) xx) (hn : xx.length ≠ 1) (a m b : Int) (ha : a = pp.length) (hm : m = pp.length + xx.length) (hb : b = pp.length + xx.length + 1) (hl : pp.length + xx.length + ss.length <= 1000000000) :
  FnH Tryz.prog 171 [.own 4, .int .i64 a, .int .i64 m, .int .i64 b, .fn (.func fc) [] [.ref [.lst 1 (prio.map eI)]]] [(4, .row 3 1 ((pp ++ xx ++ [y] ++ ss).map eI))]
  (fun r h' => r = .tup [] ∧ ∃ xx', StS (jT c) (xx ++ [y]) xx' ∧ h' = [(4, .row 3 1 ((pp ++ xx' ++ ss).map eI))]) := by
 refine qo Tryz.func171 (j5 (by kernel_rfl)) rfl rfl ?_
 subst ha hm hb
 obtain ⟨M, hM⟩ : ∃ M, M = pp ++ xx ++ [y] ++ ss := ⟨_, rfl⟩
 have hlM : M.length = pp.length + xx.length + 1 + ss.length := by rw [hM]; simp; omega
 obtain ⟨ky, hky⟩ : ∃ k, k = pp.length + xx.length := ⟨_, rfl⟩
 have qy : M.getD ky default = y := by rw [hM, j0a (k := 0) (by simp) (by omega)]; rfl
 rw [<- hM]
 repeat' (first | refine sT ?_ | refine sQ ?_ ?_ | intro hc | exact trivial)
 all_goals first | (exfalso; omega) | skip
 refine jk (fun z : Nat × Nat => ([(0, .own 4), (1, .int .i64 pp.length), (2, .int .i64 (pp.length + xx.length)), (3, .int .i64 (pp.length + xx.length + 1)), (4, .fn (.func fc) [] [.ref [.lst 1 (prio.map eI)]]), (14, .int .i64 (pp.length + z.1)), (15, .int .i64 (pp.length + z.2))], [(4, .row 3 1 (M.map eI))]))
  (fun z => z.1 <= z.2 ∧ z.2 <= xx.length ∧ (∀ k, k < z.1 -> k < xx.length -> jT c y (xx.getD k default) = false) ∧ (∀ k, z.2 <= k -> k < xx.length -> jT c y (xx.getD k default) = true)) (fun z => z.2 - z.1) (0, xx.length)
  ⟨Nat.zero_le _, Nat.le_refl _, fun k h _ => absurd h (Nat.not_lt_zero _), fun k h h' => absurd h' (Nat.not_lt.2 h)⟩ les leh (fun z hz => ?_)
 obtain ⟨i, j⟩ := z
 obtain ⟨k1, k2, k3, k4⟩ := hz
 simp only at k1 k2 k3 k4 ⊢
 rcases Nat.lt_or_eq_of_le k1 with hij | hij
 ·obtain ⟨q, hq⟩ : ∃ q, q = (2 * pp.length + i + j) / 2 - pp.length := ⟨_, rfl⟩
  obtain ⟨kq, hkq⟩ : ∃ k, k = pp.length + q := ⟨_, rfl⟩
  have hqj : q < j := by omega
  have qq : M.getD kq default = xx.getD q default := by rw [hM]; exact Zn (by omega) (by omega)
  have hc1 := hF y (xx.getD q default) hpy (hp _ (qN (by omega)))
  repeat' (first | refine sA ?_ | ((first | apply kM | apply kN); (iterate 3 (· exact rfl)); (· first | (show Y _ ⟨_, .indexAddr _ _ _, _, _, _, _⟩ _ _ _; first | exact jP (kq) rfl rfl rfl rfl rfl rfl (by omega) (by omega) | exact jP (ky) rfl rfl rfl rfl rfl rfl (by omega) (by omega)) | (show Y _ ⟨_, .load _ _, _, _, _, _⟩ _ _ _; first | exact jn qq | exact jn qy) | (show Y _ ⟨_, .binOp .shr _ _ _ _, _, _, _, _⟩ _ _ _; first | exact vq kq rfl rfl (Or.inl rfl) (by omega) (by omega) | exact vq kq rfl rfl (Or.inr rfl) (by omega) (by omega)))) | refine sY ?_ | refine sC (hc1) ?_ | refine sG ?_ | refine sQ ?_ ?_ | intro hc | exact trivial)
  all_goals first | (exfalso; omega) | skip
  ·have n1 : jT c y (xx.getD q default) = false := decide_eq_false (by omega)
   exact ⟨(q + 1, j), ⟨by simp only; omega, k2, fun k h h' => j06 hs hx (by simp only at h; omega) (by omega) n1, k4⟩, by simp only; omega, les, leh⟩
  ·have n1 : jT c y (xx.getD q default) = true := decide_eq_true (by omega)
   exact ⟨(i, q), ⟨by simp only; omega, by simp only; omega, k3, fun k h h' => Xa hs hx h h' n1⟩, by simp only; omega, les, leh⟩
 ·subst hij
  have hst := j0B hs hx k3 k4
  repeat' (first | refine sT ?_ | refine sQ ?_ ?_ | intro hc | exact trivial)
  all_goals first | (exfalso; omega) | skip
  refine jk (fun z : List Int × List Int => ([(0, .own 4), (4, .fn (.func fc) [] [.ref [.lst 1 (prio.map eI)]]), (14, .int .i64 (pp.length + i)), (17, .int .i64 (pp.length + i + z.1.length))], [(4, .row 3 1 ((pp ++ xx.take i ++ z.1 ++ y :: z.2 ++ ss).map eI))]))
   (fun z => z.1 ++ z.2 = xx.drop i) (fun z => z.1.length) (xx.drop i, []) (List.append_nil _) les (by dsimp only; rw [hM, show pp ++ xx.take i ++ xx.drop i ++ y :: [] ++ ss = pp ++ (xx.take i ++ xx.drop i) ++ [y] ++ ss by simp, tdl]; exact leh) (fun z hz => ?_)
  obtain ⟨d1, d2⟩ := z
  simp only at hz ⊢
  have hlt : d1.length + d2.length = xx.length - i := by have := congrArg List.length hz; rwa [List.length_append, List.length_drop] at this
  rcases List.eq_nil_or_concat d1 with rfl | ⟨d1, x, rfl⟩
  ·rw [List.nil_append] at hz
   rw [List.length_nil] at hlt ⊢
   subst hz
   repeat' (first | refine sT ?_ | refine sQ ?_ ?_ | intro hc | exact trivial)
   all_goals first | (exfalso; omega) | skip
   refine jK rfl ⟨rfl, _, hst, ?_⟩
   rw [show pp ++ (xx.take i ++ y :: xx.drop i) ++ ss = pp ++ xx.take i ++ [] ++ y :: xx.drop i ++ ss by simp]
  ·rw [List.concat_eq_append] at *
   rw [List.length_append, List.length_cons, List.length_nil] at hlt
   rw [List.length_append, List.length_cons, List.length_nil]
   obtain ⟨M, hM⟩ : ∃ M, M = pp ++ xx.take i ++ (d1 ++ [x]) ++ y :: d2 ++ ss := ⟨_, rfl⟩
   obtain ⟨k0, hk0⟩ : ∃ k0, k0 = pp.length + i + d1.length := ⟨_, rfl⟩
   obtain ⟨k1', hk1⟩ : ∃ k1, k1 = k0 + 1 := ⟨_, rfl⟩
   obtain ⟨q1, q2, q3, q4⟩ := adj (M := M) (p := pp ++ xx.take i ++ d1) (u := x) (v := y) (r := d2 ++ ss) (k := k0) (by rw [hM]; simp) (by simp only [List.length_append, List.length_take]; omega) hk1
   have hlM : k1' < M.length := by
    rw [hM]; simp only [List.length_append, List.length_cons, List.length_nil, List.length_take]; omega
   rw [<- hM]
   repeat' (first | refine ve rfl (by kernel_rfl) (by kernel_rfl) (by kernel_rfl) ?_ | refine sA ?_ | ((first | apply kM | apply kN); (iterate 3 (· exact rfl)); (· first | (show Y _ ⟨_, .indexAddr _ _ _, _, _, _, _⟩ _ _ _; first | exact jP (k1') rfl rfl rfl rfl rfl rfl (by omega) (by omega) | exact jP (k0) rfl rfl rfl rfl rfl rfl (by omega) (by omega)) | (show Y _ ⟨_, .load _ _, _, _, _, _⟩ _ _ _; first | exact jn q1 | exact jn q2))) | refine sY ?_ | (show F _ _ _ _ _ _ _ _ _ _ _; first | refine yj ?_ | (apply yn; (· exact rfl); (· exact rfl); (· first | exact jn q1 | exact jn q2 | exact yp)) | refine wI (x' := x) rfl rfl rfl rfl rfl rfl rfl rfl rfl (by (first | rfl | omega | (simp only [List.length_set]; omega) | simp only [List.length_set])) (by (first | rfl | omega | (simp only [List.length_set]; omega) | simp only [List.length_set])) ?_ | refine wI (x' := y) rfl rfl rfl rfl rfl rfl rfl rfl rfl (by (first | rfl | omega | (simp only [List.length_set]; omega) | simp only [List.length_set])) (by (first | rfl | omega | (simp only [List.length_set]; omega) | simp only [List.length_set])) ?_ | (apply f_k; (· exact rfl); (· intro y' hy'; first | (show Y _ ⟨_, .indexAddr _ _ _, _, _, _, _⟩ _ _ _; first | exact jP (k1') rfl rfl rfl rfl rfl rfl (by omega) (by omega) | exact jP (k0) rfl rfl rfl rfl rfl rfl (by omega) (by omega)) | (show Y _ ⟨_, .load _ _, _, _, _, _⟩ _ _ _; first | exact jn q1 | exact jn q2) | exact ya))) | refine sG ?_ | refine sQ ?_ ?_ | intro hc | exact trivial)
   all_goals first | (exfalso; omega) | skip
   rw [q3]
   exact ⟨(d1, x :: d2), by rw [<- hz]; simp, by simp only [List.length_append, List.length_cons, List.length_nil]; omega, les, by dsimp only; rw [show pp ++ xx.take i ++ d1 ++ y :: (x :: d2) ++ ss = pp ++ xx.take i ++ d1 ++ y :: x :: (d2 ++ ss) by simp]; exact leh⟩
set_option maxHeartbeats 8000000 in
theorem j3b (fc : FuncId) (prio : List Int) (c : Int -> Int -> Int) (p : Int -> Prop) (hs : SWO (jT c)) (hF : ∀ x y, p x -> p y -> Fn Tryz.prog fc ([(fun x : Int => AV.int .i64 x) x, (fun x : Int => AV.int .i64 x) y] ++ [.ref [.lst 1 (prio.map eI)]]) (.int .i64 (c x y))) : ∀ (N : Nat) (pp xx yy ss : List Int), xx.length + yy.length <= N -> (∀ x ∈ xx, p x) -> (∀ x ∈ yy, p x) -> Srt (jT c) xx -> Srt (jT c) yy -> 0 < xx.length -> 0 < yy.length -> ∀ (a m b : Int), a = pp.length -> m = pp.length + xx.length -> b = pp.length + xx.length + yy.length -> pp.length + xx.length + yy.length + ss.length <= 1000000000 ->
  FnH Tryz.prog 171 [.own 4, .int .i64 a, .int .i64 m, .int .i64 b, .fn (.func fc) [] [.ref [.lst 1 (prio.map eI)]]] [(4, .row 3 1 ((pp ++ xx ++ yy ++ ss).map eI))]
  (fun r h' => r = .tup [] ∧ ∃ xx', StS (jT c) (xx ++ yy) xx' ∧ h' = [(4, .row 3 1 ((pp ++ xx' ++ ss).map eI))]) := by
 intro N
 induction N with
 | zero => intro pp xx yy ss hN _ _ _ _ h1 h2; omega
 | succ N ih =>
 intro pp xx yy ss hN hp hp' hx hy h1 h2 a m b ha hm hb hl
 by_cases hx1 : xx.length = 1
 ·match xx, hx1 with
  | [x], hx1 => exact j4R fc prio c p hs hF pp yy ss x (hp x List.mem_cons_self) hp' hy a m b ha (by simpa using hm) (by simpa using hb) (by simp only [List.length_cons, List.length_nil] at hl; omega)
 by_cases hy1 : yy.length = 1
 ·match yy, hy1 with
  | [y], hy1 => exact j4A fc prio c p hs hF pp xx ss y (hp' y List.mem_cons_self) hp hx hx1 a m b ha hm (by simpa using hb) (by simp only [List.length_cons, List.length_nil] at hl; omega)
 refine qo Tryz.func171 (j5 (by kernel_rfl)) rfl rfl ?_
 subst ha hm hb
 obtain ⟨M, hM⟩ : ∃ M, M = pp ++ xx ++ yy ++ ss := ⟨_, rfl⟩
 have hlM : M.length = pp.length + xx.length + yy.length + ss.length := by rw [hM]; simp; omega
 obtain ⟨h, hh⟩ : ∃ h, h = (xx.length + yy.length) / 2 := ⟨_, rfl⟩
 obtain ⟨mid, hmid⟩ : ∃ mid, mid = pp.length + h := ⟨_, rfl⟩
 rw [<- hM]
 rcases Nat.lt_or_ge h xx.length with hcs | hcs
 all_goals
  repeat' (first | refine sA ?_ | ((first | apply kM | apply kN); (iterate 3 (· exact rfl)); (· first | (show Y _ ⟨_, .binOp .shr _ _ _ _, _, _, _, _⟩ _ _ _; first | exact vq mid rfl rfl (Or.inl rfl) (by omega) (by omega) | exact vq mid rfl rfl (Or.inr rfl) (by omega) (by omega)))) | refine sY ?_ | refine sG ?_ | refine sQ ?_ ?_ | intro hc | exact trivial)
  all_goals first | (exfalso; omega) | skip
  refine jk (fun z : Nat × Nat => ([(0, .own 4), (1, .int .i64 pp.length), (2, .int .i64 (pp.length + xx.length)), (3, .int .i64 (pp.length + xx.length + yy.length)), (4, .fn (.func fc) [] [.ref [.lst 1 (prio.map eI)]]), (18, .int .i64 mid), (19, .int .i64 (mid + (pp.length + xx.length))), (20, .int .i64 (pp.length + z.1)), (21, .int .i64 (pp.length + z.2)), (22, .int .i64 (mid + (pp.length + xx.length) - 1))], [(4, .row 3 1 (M.map eI))]))
   (fun z => z.1 <= z.2 ∧ z.2 <= h ∧ z.2 <= xx.length ∧ h - yy.length <= z.1 ∧ (∀ k, k < z.1 -> h - yy.length <= k -> jT c (yy.getD (h - 1 - k) default) (xx.getD k default) = false) ∧ (∀ k, z.2 <= k -> k < h -> k < xx.length -> jT c (yy.getD (h - 1 - k) default) (xx.getD k default) = true)) (fun z => z.2 - z.1) (h - yy.length, min h xx.length)
   ⟨by simp only; omega, by simp only; omega, by simp only; omega, Nat.le_refl _, fun k h h' => absurd h' (Nat.not_le.2 h), fun k q q' q'' => by simp only at q; omega⟩ les leh (fun z hz => ?_)
  obtain ⟨i, j⟩ := z
  obtain ⟨k1, k2, k2', k2'', k3, k4⟩ := hz
  simp only at k1 k2 k2' k2'' k3 k4 ⊢
  rcases Nat.lt_or_eq_of_le k1 with hij | hij
  ·obtain ⟨q, hq⟩ : ∃ q, q = (2 * pp.length + i + j) / 2 - pp.length := ⟨_, rfl⟩
   obtain ⟨kq, hkq⟩ : ∃ k, k = pp.length + q := ⟨_, rfl⟩
   obtain ⟨kp, hkp⟩ : ∃ k, k = pp.length + xx.length + (h - 1 - q) := ⟨_, rfl⟩
   have hqj : q < j := by omega
   have qq : M.getD kq default = xx.getD q default := by rw [hM]; exact Zn (by omega) hkq
   have qp : M.getD kp default = yy.getD (h - 1 - q) default := by rw [hM]; exact j0a (by omega) hkp
   have hc1 := hF (yy.getD (h - 1 - q) default) (xx.getD q default) (hp' _ (qN (by omega))) (hp _ (qN (by omega)))
   repeat' (first | refine sA ?_ | ((first | apply kM | apply kN); (iterate 3 (· exact rfl)); (· first | (show Y _ ⟨_, .indexAddr _ _ _, _, _, _, _⟩ _ _ _; first | exact jP (kq) rfl rfl rfl rfl rfl rfl (by omega) (by omega) | exact jP (kp) rfl rfl rfl rfl rfl rfl (by omega) (by omega)) | (show Y _ ⟨_, .load _ _, _, _, _, _⟩ _ _ _; first | exact jn qq | exact jn qp) | (show Y _ ⟨_, .binOp .shr _ _ _ _, _, _, _, _⟩ _ _ _; first | exact vq kq rfl rfl (Or.inl rfl) (by omega) (by omega) | exact vq kq rfl rfl (Or.inr rfl) (by omega) (by omega)))) | refine sY ?_ | refine sC (hc1) ?_ | refine sG ?_ | refine sQ ?_ ?_ | intro hc | exact trivial)
   all_goals first | (exfalso; omega) | skip
   ·have n1 : jT c (yy.getD (h - 1 - q) default) (xx.getD q default) = false := decide_eq_false (by omega)
    exact ⟨(q + 1, j), ⟨by simp only; omega, k2, k2', by simp only; omega, fun k h5 h6 => Xj hs hy (i := h - 1 - q) (by simp only at h5; omega) (by omega) (j06 hs hx (j := q) (by simp only at h5; omega) (by omega) n1), k4⟩, by simp only; omega, les, leh⟩
   ·have n1 : jT c (yy.getD (h - 1 - q) default) (xx.getD q default) = true := decide_eq_true (by omega)
    exact ⟨(i, q), ⟨by simp only; omega, by simp only; omega, by simp only; omega, k2'', k3, fun k h5 h6 h7 => j08 hs hy (j := h - 1 - q) (by simp only at h5; omega) (by omega) (Xa hs hx (i := q) h5 h7 n1)⟩, by simp only; omega, les, leh⟩
  ·subst hij
   obtain ⟨x1, x2, e1, l1, hx1', hx2', px1, px2⟩ : ∃ x1 x2, xx = x1 ++ x2 ∧ x1.length = i ∧ x1 = xx.take i ∧ x2 = xx.drop i ∧ (∀ x ∈ x1, p x) ∧ (∀ x ∈ x2, p x) :=
    ⟨xx.take i, xx.drop i, (tdl _ _).symm, by rw [List.length_take]; omega, rfl, rfl, fun x hx => hp x (List.mem_of_mem_take hx), fun x hx => hp x (List.mem_of_mem_drop hx)⟩
   obtain ⟨y1, y2, e2, l2, hy1', hy2', py1, py2⟩ : ∃ y1 y2, yy = y1 ++ y2 ∧ y1.length = h - i ∧ y1 = yy.take (h - i) ∧ y2 = yy.drop (h - i) ∧ (∀ x ∈ y1, p x) ∧ (∀ x ∈ y2, p x) :=
    ⟨yy.take (h - i), yy.drop (h - i), (tdl _ _).symm, by rw [List.length_take]; omega, rfl, rfl, fun x hx => hp' x (List.mem_of_mem_take hx), fun x hx => hp' x (List.mem_of_mem_drop hx)⟩
   have sx1 : Srt (jT c) x1 := hx1' ▸ hx.take i
   have sx2 : Srt (jT c) x2 := hx2' ▸ hx.drop i
   have sy1 : Srt (jT c) y1 := hy1' ▸ hy.take _
   have sy2 : Srt (jT c) y2 := hy2' ▸ hy.drop _
   have hparts : ∀ L R, StS (jT c) (x1 ++ y1) L -> StS (jT c) (x2 ++ y2) R -> StS (jT c) (xx ++ yy) (L ++ R) := fun L R hL hR => by
    rw [hx1', hy1'] at hL
    rw [hx2', hy2'] at hR
    exact ZB hs hx hy hh k2'' k2 k2' k3 k4 hL hR
   have n1 : x1.length + x2.length = xx.length := by rw [e1]; simp
   have n2 : y1.length + y2.length = yy.length := by rw [e2]; simp
   have eM : M = pp ++ x1 ++ x2 ++ y1 ++ (y2 ++ ss) := by rw [hM, e1, e2]; simp
   clear hM e1 e2 hx1' hx2' hy1' hy2'
   subst eM
   rcases Decidable.em (0 < x2.length ∧ 0 < y1.length) with hR0 | hR0
   ·rcases Decidable.em (0 < x1.length ∧ 0 < y1.length) with hA0 | hA0
    ·rcases Decidable.em (0 < x2.length ∧ 0 < y2.length) with hB0 | hB0
     ·first
      | (exfalso; omega)
      | (repeat' (first | refine sT ?_ | refine sQ ?_ ?_ | intro hc | exact trivial)
         all_goals first | (exfalso; omega) | skip
         refine jL (fun i => i) (QM fc prio (pp ++ x1) x2 y1 (y2 ++ ss) _ _ _ (by simp only [List.length_append]; omega) (by simp only [List.length_append]; omega) (by simp only [List.length_append]; omega) (by omega) (by omega) (by simp only [List.length_append]; omega)) rfl rfl leh rfl rfl rfl rfl rfl rfl (fun r h' hR => ?_)
         obtain ⟨rfl, rfl⟩ := hR
         refine ⟨rfl, rfl, ?_⟩
         rw [show pp ++ x1 ++ y1 ++ x2 ++ (y2 ++ ss) = pp ++ x1 ++ y1 ++ (x2 ++ (y2 ++ ss)) by simp]
         repeat' (first | refine sT ?_ | refine sQ ?_ ?_ | intro hc | exact trivial)
         all_goals first | (exfalso; omega) | skip
         refine jL (fun i => i) (ih pp x1 y1 (x2 ++ (y2 ++ ss)) (by omega) px1 py1 sx1 sy1 (by omega) (by omega) _ _ _ (by omega) (by omega) (by omega) (by simp only [List.length_append]; omega)) rfl rfl leh rfl rfl rfl rfl rfl rfl (fun r h' hR => ?_)
         obtain ⟨rfl, M1, hM1, rfl⟩ := hR
         refine ⟨rfl, rfl, ?_⟩
         have lM1 : M1.length = x1.length + y1.length := by have := hM1.1.len; rwa [List.length_append] at this
         rw [show pp ++ M1 ++ (x2 ++ (y2 ++ ss)) = pp ++ M1 ++ x2 ++ y2 ++ ss by simp]
         repeat' (first | refine sT ?_ | refine sQ ?_ ?_ | intro hc | exact trivial)
         all_goals first | (exfalso; omega) | skip
         refine jL (fun i => i) (ih (pp ++ M1) x2 y2 ss (by omega) px2 py2 sx2 sy2 (by omega) (by omega) _ _ _ (by simp only [List.length_append]; omega) (by simp only [List.length_append]; omega) (by simp only [List.length_append]; omega) (by simp only [List.length_append]; omega)) rfl rfl leh rfl rfl rfl rfl rfl rfl (fun r h' hR => ?_)
         obtain ⟨rfl, M2, hM2, rfl⟩ := hR
         refine ⟨rfl, rfl, ?_⟩
         rw [show pp ++ M1 ++ M2 ++ ss = pp ++ (M1 ++ M2) ++ ss by simp]
         repeat' (first | refine sT ?_ | refine sQ ?_ ?_ | intro hc | exact trivial)
         all_goals first | (exfalso; omega) | skip
         all_goals first | exact vb rfl ⟨rfl, M1 ++ M2, hparts _ _ hM1 hM2, rfl⟩ | exact jK rfl ⟨rfl, M1 ++ M2, hparts _ _ hM1 hM2, rfl⟩)
     ·first
      | (exfalso; omega)
      | (repeat' (first | refine sT ?_ | refine sQ ?_ ?_ | intro hc | exact trivial)
         all_goals first | (exfalso; omega) | skip
         refine jL (fun i => i) (QM fc prio (pp ++ x1) x2 y1 (y2 ++ ss) _ _ _ (by simp only [List.length_append]; omega) (by simp only [List.length_append]; omega) (by simp only [List.length_append]; omega) (by omega) (by omega) (by simp only [List.length_append]; omega)) rfl rfl leh rfl rfl rfl rfl rfl rfl (fun r h' hR => ?_)
         obtain ⟨rfl, rfl⟩ := hR
         refine ⟨rfl, rfl, ?_⟩
         rw [show pp ++ x1 ++ y1 ++ x2 ++ (y2 ++ ss) = pp ++ x1 ++ y1 ++ (x2 ++ (y2 ++ ss)) by simp]
         repeat' (first | refine sT ?_ | refine sQ ?_ ?_ | intro hc | exact trivial)
         all_goals first | (exfalso; omega) | skip
         refine jL (fun i => i) (ih pp x1 y1 (x2 ++ (y2 ++ ss)) (by omega) px1 py1 sx1 sy1 (by omega) (by omega) _ _ _ (by omega) (by omega) (by omega) (by simp only [List.length_append]; omega)) rfl rfl leh rfl rfl rfl rfl rfl rfl (fun r h' hR => ?_)
         obtain ⟨rfl, M1, hM1, rfl⟩ := hR
         refine ⟨rfl, rfl, ?_⟩
         have lM1 : M1.length = x1.length + y1.length := by have := hM1.1.len; rwa [List.length_append] at this
         obtain ⟨M2, hM2, eB⟩ : ∃ M2, StS (jT c) (x2 ++ y2) M2 ∧ pp ++ M1 ++ (x2 ++ (y2 ++ ss)) = pp ++ (M1 ++ M2) ++ ss := by
          refine ⟨x2 ++ y2, .self ?_, by simp⟩
          rcases Nat.eq_zero_or_pos x2.length with z | z
          ·rw [List.eq_nil_of_length_eq_zero z]; exact sy2
          ·rw [List.eq_nil_of_length_eq_zero (show y2.length = 0 by omega), List.append_nil]; exact sx2
         rw [eB]
         repeat' (first | refine sT ?_ | refine sQ ?_ ?_ | intro hc | exact trivial)
         all_goals first | (exfalso; omega) | skip
         all_goals first | exact vb rfl ⟨rfl, M1 ++ M2, hparts _ _ hM1 hM2, rfl⟩ | exact jK rfl ⟨rfl, M1 ++ M2, hparts _ _ hM1 hM2, rfl⟩)
    ·rcases Decidable.em (0 < x2.length ∧ 0 < y2.length) with hB0 | hB0
     ·first
      | (exfalso; omega)
      | (repeat' (first | refine sT ?_ | refine sQ ?_ ?_ | intro hc | exact trivial)
         all_goals first | (exfalso; omega) | skip
         refine jL (fun i => i) (QM fc prio (pp ++ x1) x2 y1 (y2 ++ ss) _ _ _ (by simp only [List.length_append]; omega) (by simp only [List.length_append]; omega) (by simp only [List.length_append]; omega) (by omega) (by omega) (by simp only [List.length_append]; omega)) rfl rfl leh rfl rfl rfl rfl rfl rfl (fun r h' hR => ?_)
         obtain ⟨rfl, rfl⟩ := hR
         refine ⟨rfl, rfl, ?_⟩
         obtain ⟨M1, hM1, eA⟩ : ∃ M1, StS (jT c) (x1 ++ y1) M1 ∧ pp ++ x1 ++ y1 ++ x2 ++ (y2 ++ ss) = pp ++ M1 ++ (x2 ++ (y2 ++ ss)) := by
          refine ⟨x1 ++ y1, .self ?_, by simp⟩
          rcases Nat.eq_zero_or_pos x1.length with z | z
          ·rw [List.eq_nil_of_length_eq_zero z]; exact sy1
          ·rw [List.eq_nil_of_length_eq_zero (show y1.length = 0 by omega), List.append_nil]; exact sx1
         rw [eA]
         have lM1 : M1.length = x1.length + y1.length := by have := hM1.1.len; rwa [List.length_append] at this
         rw [show pp ++ M1 ++ (x2 ++ (y2 ++ ss)) = pp ++ M1 ++ x2 ++ y2 ++ ss by simp]
         repeat' (first | refine sT ?_ | refine sQ ?_ ?_ | intro hc | exact trivial)
         all_goals first | (exfalso; omega) | skip
         refine jL (fun i => i) (ih (pp ++ M1) x2 y2 ss (by omega) px2 py2 sx2 sy2 (by omega) (by omega) _ _ _ (by simp only [List.length_append]; omega) (by simp only [List.length_append]; omega) (by simp only [List.length_append]; omega) (by simp only [List.length_append]; omega)) rfl rfl leh rfl rfl rfl rfl rfl rfl (fun r h' hR => ?_)
         obtain ⟨rfl, M2, hM2, rfl⟩ := hR
         refine ⟨rfl, rfl, ?_⟩
         rw [show pp ++ M1 ++ M2 ++ ss = pp ++ (M1 ++ M2) ++ ss by simp]
         repeat' (first | refine sT ?_ | refine sQ ?_ ?_ | intro hc | exact trivial)
         all_goals first | (exfalso; omega) | skip
         all_goals first | exact vb rfl ⟨rfl, M1 ++ M2, hparts _ _ hM1 hM2, rfl⟩ | exact jK rfl ⟨rfl, M1 ++ M2, hparts _ _ hM1 hM2, rfl⟩)
     ·first
      | (exfalso; omega)
      | (repeat' (first | refine sT ?_ | refine sQ ?_ ?_ | intro hc | exact trivial)
         all_goals first | (exfalso; omega) | skip
         refine jL (fun i => i) (QM fc prio (pp ++ x1) x2 y1 (y2 ++ ss) _ _ _ (by simp only [List.length_append]; omega) (by simp only [List.length_append]; omega) (by simp only [List.length_append]; omega) (by omega) (by omega) (by simp only [List.length_append]; omega)) rfl rfl leh rfl rfl rfl rfl rfl rfl (fun r h' hR => ?_)
         obtain ⟨rfl, rfl⟩ := hR
         refine ⟨rfl, rfl, ?_⟩
         obtain ⟨M1, hM1, eA⟩ : ∃ M1, StS (jT c) (x1 ++ y1) M1 ∧ pp ++ x1 ++ y1 ++ x2 ++ (y2 ++ ss) = pp ++ M1 ++ (x2 ++ (y2 ++ ss)) := by
          refine ⟨x1 ++ y1, .self ?_, by simp⟩
          rcases Nat.eq_zero_or_pos x1.length with z | z
          ·rw [List.eq_nil_of_length_eq_zero z]; exact sy1
          ·rw [List.eq_nil_of_length_eq_zero (show y1.length = 0 by omega), List.append_nil]; exact sx1
         rw [eA]
         have lM1 : M1.length = x1.length + y1.length := by have := hM1.1.len; rwa [List.length_append] at this
         obtain ⟨M2, hM2, eB⟩ : ∃ M2, StS (jT c) (x2 ++ y2) M2 ∧ pp ++ M1 ++ (x2 ++ (y2 ++ ss)) = pp ++ (M1 ++ M2) ++ ss := by
          refine ⟨x2 ++ y2, .self ?_, by simp⟩
          rcases Nat.eq_zero_or_pos x2.length with z | z
          ·rw [List.eq_nil_of_length_eq_zero z]; exact sy2
          ·rw [List.eq_nil_of_length_eq_zero (show y2.length = 0 by omega), List.append_nil]; exact sx2
         rw [eB]
         repeat' (first | refine sT ?_ | refine sQ ?_ ?_ | intro hc | exact trivial)
         all_goals first | (exfalso; omega) | skip
         all_goals first | exact vb rfl ⟨rfl, M1 ++ M2, hparts _ _ hM1 hM2, rfl⟩ | exact jK rfl ⟨rfl, M1 ++ M2, hparts _ _ hM1 hM2, rfl⟩)
   ·rcases Decidable.em (0 < x1.length ∧ 0 < y1.length) with hA0 | hA0
    ·rcases Decidable.em (0 < x2.length ∧ 0 < y2.length) with hB0 | hB0
     ·first
      | (exfalso; omega)
      | (have eR : pp ++ x1 ++ x2 ++ y1 ++ (y2 ++ ss) = pp ++ x1 ++ y1 ++ x2 ++ (y2 ++ ss) := by
          rcases Nat.eq_zero_or_pos x2.length with z | z
          ·rw [List.eq_nil_of_length_eq_zero z]; simp
          ·rw [List.eq_nil_of_length_eq_zero (show y1.length = 0 by omega)]; simp
         rw [eR]
         rw [show pp ++ x1 ++ y1 ++ x2 ++ (y2 ++ ss) = pp ++ x1 ++ y1 ++ (x2 ++ (y2 ++ ss)) by simp]
         repeat' (first | refine sT ?_ | refine sQ ?_ ?_ | intro hc | exact trivial)
         all_goals first | (exfalso; omega) | skip
         refine jL (fun i => i) (ih pp x1 y1 (x2 ++ (y2 ++ ss)) (by omega) px1 py1 sx1 sy1 (by omega) (by omega) _ _ _ (by omega) (by omega) (by omega) (by simp only [List.length_append]; omega)) rfl rfl leh rfl rfl rfl rfl rfl rfl (fun r h' hR => ?_)
         obtain ⟨rfl, M1, hM1, rfl⟩ := hR
         refine ⟨rfl, rfl, ?_⟩
         have lM1 : M1.length = x1.length + y1.length := by have := hM1.1.len; rwa [List.length_append] at this
         rw [show pp ++ M1 ++ (x2 ++ (y2 ++ ss)) = pp ++ M1 ++ x2 ++ y2 ++ ss by simp]
         repeat' (first | refine sT ?_ | refine sQ ?_ ?_ | intro hc | exact trivial)
         all_goals first | (exfalso; omega) | skip
         refine jL (fun i => i) (ih (pp ++ M1) x2 y2 ss (by omega) px2 py2 sx2 sy2 (by omega) (by omega) _ _ _ (by simp only [List.length_append]; omega) (by simp only [List.length_append]; omega) (by simp only [List.length_append]; omega) (by simp only [List.length_append]; omega)) rfl rfl leh rfl rfl rfl rfl rfl rfl (fun r h' hR => ?_)
         obtain ⟨rfl, M2, hM2, rfl⟩ := hR
         refine ⟨rfl, rfl, ?_⟩
         rw [show pp ++ M1 ++ M2 ++ ss = pp ++ (M1 ++ M2) ++ ss by simp]
         repeat' (first | refine sT ?_ | refine sQ ?_ ?_ | intro hc | exact trivial)
         all_goals first | (exfalso; omega) | skip
         all_goals first | exact vb rfl ⟨rfl, M1 ++ M2, hparts _ _ hM1 hM2, rfl⟩ | exact jK rfl ⟨rfl, M1 ++ M2, hparts _ _ hM1 hM2, rfl⟩)
     ·first
      | (exfalso; omega)
      | (have eR : pp ++ x1 ++ x2 ++ y1 ++ (y2 ++ ss) = pp ++ x1 ++ y1 ++ x2 ++ (y2 ++ ss) := by
          rcases Nat.eq_zero_or_pos x2.length with z | z
          ·rw [List.eq_nil_of_length_eq_zero z]; simp
          ·rw [List.eq_nil_of_length_eq_zero (show y1.length = 0 by omega)]; simp
         rw [eR]
         rw [show pp ++ x1 ++ y1 ++ x2 ++ (y2 ++ ss) = pp ++ x1 ++ y1 ++ (x2 ++ (y2 ++ ss)) by simp]
         repeat' (first | refine sT ?_ | refine sQ ?_ ?_ | intro hc | exact trivial)
         all_goals first | (exfalso; omega) | skip
         refine jL (fun i => i) (ih pp x1 y1 (x2 ++ (y2 ++ ss)) (by omega) px1 py1 sx1 sy1 (by omega) (by omega) _ _ _ (by omega) (by omega) (by omega) (by simp only [List.length_append]; omega)) rfl rfl leh rfl rfl rfl rfl rfl rfl (fun r h' hR => ?_)
         obtain ⟨rfl, M1, hM1, rfl⟩ := hR
         refine ⟨rfl, rfl, ?_⟩
         have lM1 : M1.length = x1.length + y1.length := by have := hM1.1.len; rwa [List.length_append] at this
         obtain ⟨M2, hM2, eB⟩ : ∃ M2, StS (jT c) (x2 ++ y2) M2 ∧ pp ++ M1 ++ (x2 ++ (y2 ++ ss)) = pp ++ (M1 ++ M2) ++ ss := by
          refine ⟨x2 ++ y2, .self ?_, by simp⟩
          rcases Nat.eq_zero_or_pos x2.length with z | z
          ·rw [List.eq_nil_of_length_eq_zero z]; exact sy2
          ·rw [List.eq_nil_of_length_eq_zero (show y2.length = 0 by omega), List.append_nil]; exact sx2
         rw [eB]
         repeat' (first | refine sT ?_ | refine sQ ?_ ?_ | intro hc | exact trivial)
         all_goals first | (exfalso; omega) | skip
         all_goals first | exact vb rfl ⟨rfl, M1 ++ M2, hparts _ _ hM1 hM2, rfl⟩ | exact jK rfl ⟨rfl, M1 ++ M2, hparts _ _ hM1 hM2, rfl⟩)
    ·rcases Decidable.em (0 < x2.length ∧ 0 < y2.length) with hB0 | hB0
     ·first
      | (exfalso; omega)
      | (have eR : pp ++ x1 ++ x2 ++ y1 ++ (y2 ++ ss) = pp ++ x1 ++ y1 ++ x2 ++ (y2 ++ ss) := by
          rcases Nat.eq_zero_or_pos x2.length with z | z
          ·rw [List.eq_nil_of_length_eq_zero z]; simp
          ·rw [List.eq_nil_of_length_eq_zero (show y1.length = 0 by omega)]; simp
         rw [eR]
         obtain ⟨M1, hM1, eA⟩ : ∃ M1, StS (jT c) (x1 ++ y1) M1 ∧ pp ++ x1 ++ y1 ++ x2 ++ (y2 ++ ss) = pp ++ M1 ++ (x2 ++ (y2 ++ ss)) := by
          refine ⟨x1 ++ y1, .self ?_, by simp⟩
          rcases Nat.eq_zero_or_pos x1.length with z | z
          ·rw [List.eq_nil_of_length_eq_zero z]; exact sy1
          ·rw [List.eq_nil_of_length_eq_zero (show y1.length = 0 by omega), List.append_nil]; exact sx1
         rw [eA]
         have lM1 : M1.length = x1.length + y1.length := by have := hM1.1.len; rwa [List.length_append] at this
         rw [show pp ++ M1 ++ (x2 ++ (y2 ++ ss)) = pp ++ M1 ++ x2 ++ y2 ++ ss by simp]
         repeat' (first | refine sT ?_ | refine sQ ?_ ?_ | intro hc | exact trivial)
         all_goals first | (exfalso; omega) | skip
         refine jL (fun i => i) (ih (pp ++ M1) x2 y2 ss (by omega) px2 py2 sx2 sy2 (by omega) (by omega) _ _ _ (by simp only [List.length_append]; omega) (by simp only [List.length_append]; omega) (by simp only [List.length_append]; omega) (by simp only [List.length_append]; omega)) rfl rfl leh rfl rfl rfl rfl rfl rfl (fun r h' hR => ?_)
         obtain ⟨rfl, M2, hM2, rfl⟩ := hR
         refine ⟨rfl, rfl, ?_⟩
         rw [show pp ++ M1 ++ M2 ++ ss = pp ++ (M1 ++ M2) ++ ss by simp]
         repeat' (first | refine sT ?_ | refine sQ ?_ ?_ | intro hc | exact trivial)
         all_goals first | (exfalso; omega) | skip
         all_goals first | exact vb rfl ⟨rfl, M1 ++ M2, hparts _ _ hM1 hM2, rfl⟩ | exact jK rfl ⟨rfl, M1 ++ M2, hparts _ _ hM1 hM2, rfl⟩)
     ·first
      | (exfalso; omega)
      | (have eR : pp ++ x1 ++ x2 ++ y1 ++ (y2 ++ ss) = pp ++ x1 ++ y1 ++ x2 ++ (y2 ++ ss) := by
          rcases Nat.eq_zero_or_pos x2.length with z | z
          ·rw [List.eq_nil_of_length_eq_zero z]; simp
          ·rw [List.eq_nil_of_length_eq_zero (show y1.length = 0 by omega)]; simp
         rw [eR]
         obtain ⟨M1, hM1, eA⟩ : ∃ M1, StS (jT c) (x1 ++ y1) M1 ∧ pp ++ x1 ++ y1 ++ x2 ++ (y2 ++ ss) = pp ++ M1 ++ (x2 ++ (y2 ++ ss)) := by
          refine ⟨x1 ++ y1, .self ?_, by simp⟩
          rcases Nat.eq_zero_or_pos x1.length with z | z
          ·rw [List.eq_nil_of_length_eq_zero z]; exact sy1
          ·rw [List.eq_nil_of_length_eq_zero (show y1.length = 0 by omega), List.append_nil]; exact sx1
         rw [eA]
         have lM1 : M1.length = x1.length + y1.length := by have := hM1.1.len; rwa [List.length_append] at this
         obtain ⟨M2, hM2, eB⟩ : ∃ M2, StS (jT c) (x2 ++ y2) M2 ∧ pp ++ M1 ++ (x2 ++ (y2 ++ ss)) = pp ++ (M1 ++ M2) ++ ss := by
          refine ⟨x2 ++ y2, .self ?_, by simp⟩
          rcases Nat.eq_zero_or_pos x2.length with z | z
          ·rw [List.eq_nil_of_length_eq_zero z]; exact sy2
          ·rw [List.eq_nil_of_length_eq_zero (show y2.length = 0 by omega), List.append_nil]; exact sx2
         rw [eB]
         repeat' (first | refine sT ?_ | refine sQ ?_ ?_ | intro hc | exact trivial)
         all_goals first | (exfalso; omega) | skip
         all_goals first | exact vb rfl ⟨rfl, M1 ++ M2, hparts _ _ hM1 hM2, rfl⟩ | exact jK rfl ⟨rfl, M1 ++ M2, hparts _ _ hM1 hM2, rfl⟩)
end Go.Proofs.YtfjoaeghnfkdlaaGreatDoor
