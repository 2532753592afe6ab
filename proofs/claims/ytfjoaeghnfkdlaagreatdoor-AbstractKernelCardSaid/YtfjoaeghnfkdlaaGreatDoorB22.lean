/- slices.SortStableFunc, with a closure: the whole. Printed by gensort.py. No condition. -/
import Derived.Test.YtfjoaeghnfkdlaaGreatDoorB21
set_option linter.unusedSimpArgs false
set_option linter.unusedVariables false
set_option maxHeartbeats 1000000
set_option maxRecDepth 100000
namespace Go.Proofs.YtfjoaeghnfkdlaaGreatDoor
open Go.RowKit
set_option maxHeartbeats 8000000 in
theorem j26 (fc : FuncId) (c : Due -> Due -> Int) (p : Due -> Prop) (hs : SWO (jQ c)) (hF : ∀ x y, p x -> p y -> Fn Tryz.prog fc ([(fun x : Due => AV.agg (jD x)) x, (fun x : Due => AV.agg (jD x)) y] ++ []) (.int .i64 (c x y))) : ∀ (N : Nat) (pp xx yy ss : List Due), xx.length + yy.length <= N -> (∀ x ∈ xx, p x) -> (∀ x ∈ yy, p x) -> Srt (jQ c) xx -> Srt (jQ c) yy -> 0 < xx.length -> 0 < yy.length -> ∀ (a m b : Int), a = pp.length -> m = pp.length + xx.length -> b = pp.length + xx.length + yy.length -> pp.length + xx.length + yy.length + ss.length <= 1000000000 ->
  FnH Tryz.prog 142 [.own 4, .int .i64 a, .int .i64 m, .int .i64 b, .fn (.func fc) [] []] [(4, .row 60 2 ((pp ++ xx ++ yy ++ ss).map jD))]
  (fun r h' => r = .tup [] ∧ ∃ xx', StS (jQ c) (xx ++ yy) xx' ∧ h' = [(4, .row 60 2 ((pp ++ xx' ++ ss).map jD))]) := by
 intro N
 induction N with
 | zero => intro pp xx yy ss hN _ _ _ _ h1 h2; omega
 | succ N ih =>
 intro pp xx yy ss hN hp hp' hx hy h1 h2 a m b ha hm hb hl
 by_cases hx1 : xx.length = 1
 ·match xx, hx1 with
  | [x], hx1 => exact j4c fc  c p hs hF pp yy ss x (hp x List.mem_cons_self) hp' hy a m b ha (by simpa using hm) (by simpa using hb) (by simp only [List.length_cons, List.length_nil] at hl; omega)
 by_cases hy1 : yy.length = 1
 ·match yy, hy1 with
  | [y], hy1 => exact j5A fc  c p hs hF pp xx ss y (hp' y List.mem_cons_self) hp hx hx1 a m b ha hm (by simpa using hb) (by simp only [List.length_cons, List.length_nil] at hl; omega)
 refine qo Tryz.func142 (j5 (by kernel_rfl)) rfl rfl ?_
 subst ha hm hb
 obtain ⟨M, hM⟩ : ∃ M, M = pp ++ xx ++ yy ++ ss := ⟨_, rfl⟩
 have hlM : M.length = pp.length + xx.length + yy.length + ss.length := by rw [hM]; simp; omega
 obtain ⟨h, hh⟩ : ∃ h, h = (xx.length + yy.length) / 2 := ⟨_, rfl⟩
 obtain ⟨mid, hmid⟩ : ∃ mid, mid = pp.length + h := ⟨_, rfl⟩
 rw [<- hM]
 rcases Nat.lt_or_ge h xx.length with hcs | hcs
 all_goals
  repeat' (first | refine sA ?_ | ((first | apply kM | apply kN); (iterate 3 (· exact rfl)); (· first | (show Y _ ⟨_, .binOp .shr _ _ _ _, _, _, _, _⟩ _ _ _; first | exact vq mid rfl rfl (Or.inl rfl) (by omega) (by omega) | exact vq mid rfl rfl (Or.inr rfl) (by omega) (by omega)))) | refine sY ?_ | refine sG ?_ | refine sQ ?_ ?_ | intro hc | exact trivial)
  all_goals first | (exfalso; omega) | skip
  refine jk (fun z : Nat × Nat => ([(0, .own 4), (1, .int .i64 pp.length), (2, .int .i64 (pp.length + xx.length)), (3, .int .i64 (pp.length + xx.length + yy.length)), (4, .fn (.func fc) [] []), (18, .int .i64 mid), (19, .int .i64 (mid + (pp.length + xx.length))), (20, .int .i64 (pp.length + z.1)), (21, .int .i64 (pp.length + z.2)), (22, .int .i64 (mid + (pp.length + xx.length) - 1))], [(4, .row 60 2 (M.map jD))]))
   (fun z => z.1 <= z.2 ∧ z.2 <= h ∧ z.2 <= xx.length ∧ h - yy.length <= z.1 ∧ (∀ k, k < z.1 -> h - yy.length <= k -> jQ c (yy.getD (h - 1 - k) default) (xx.getD k default) = false) ∧ (∀ k, z.2 <= k -> k < h -> k < xx.length -> jQ c (yy.getD (h - 1 - k) default) (xx.getD k default) = true)) (fun z => z.2 - z.1) (h - yy.length, min h xx.length)
   ⟨by simp only; omega, by simp only; omega, by simp only; omega, Nat.le_refl _, fun k h h' => absurd h' (Nat.not_le.2 h), fun k q q' q'' => by simp only at q; omega⟩ les leh (fun z hz => ?_)
  obtain ⟨i, j⟩ := z
  obtain ⟨k1, k2, k2', k2'', k3, k4⟩ := hz
  simp only at k1 k2 k2' k2'' k3 k4 ⊢
  rcases Nat.lt_or_eq_of_le k1 with hij | hij
  ·obtain ⟨q, hq⟩ : ∃ q, q = (2 * pp.length + i + j) / 2 - pp.length := ⟨_, rfl⟩
   obtain ⟨kq, hkq⟩ : ∃ k, k = pp.length + q := ⟨_, rfl⟩
   obtain ⟨kp, hkp⟩ : ∃ k, k = pp.length + xx.length + (h - 1 - q) := ⟨_, rfl⟩
   have hqj : q < j := by omega
   have qq : M.getD kq default = xx.getD q default := by rw [hM]; exact Zn (by omega) hkq
   have qp : M.getD kp default = yy.getD (h - 1 - q) default := by rw [hM]; exact j0a (by omega) hkp
   have hc1 := hF (yy.getD (h - 1 - q) default) (xx.getD q default) (hp' _ (qN (by omega))) (hp _ (qN (by omega)))
   repeat' (first | refine sA ?_ | ((first | apply kM | apply kN); (iterate 3 (· exact rfl)); (· first | (show Y _ ⟨_, .indexAddr _ _ _, _, _, _, _⟩ _ _ _; first | exact jP (kq) rfl rfl rfl rfl rfl rfl (by omega) (by omega) | exact jP (kp) rfl rfl rfl rfl rfl rfl (by omega) (by omega)) | (show Y _ ⟨_, .load _ _, _, _, _, _⟩ _ _ _; first | exact jn qq | exact jn qp) | (show Y _ ⟨_, .binOp .shr _ _ _ _, _, _, _, _⟩ _ _ _; first | exact vq kq rfl rfl (Or.inl rfl) (by omega) (by omega) | exact vq kq rfl rfl (Or.inr rfl) (by omega) (by omega)))) | refine sY ?_ | refine sC (hc1) ?_ | refine sG ?_ | refine sQ ?_ ?_ | intro hc | exact trivial)
   all_goals first | (exfalso; omega) | skip
   ·have n1 : jQ c (yy.getD (h - 1 - q) default) (xx.getD q default) = false := decide_eq_false (by omega)
    exact ⟨(q + 1, j), ⟨by simp only; omega, k2, k2', by simp only; omega, fun k h5 h6 => Xj hs hy (i := h - 1 - q) (by simp only at h5; omega) (by omega) (j06 hs hx (j := q) (by simp only at h5; omega) (by omega) n1), k4⟩, by simp only; omega, les, leh⟩
   ·have n1 : jQ c (yy.getD (h - 1 - q) default) (xx.getD q default) = true := decide_eq_true (by omega)
    exact ⟨(i, q), ⟨by simp only; omega, by simp only; omega, by simp only; omega, k2'', k3, fun k h5 h6 h7 => j08 hs hy (j := h - 1 - q) (by simp only at h5; omega) (by omega) (Xa hs hx (i := q) h5 h7 n1)⟩, by simp only; omega, les, leh⟩
  ·subst hij
   obtain ⟨x1, x2, e1, l1, hx1', hx2', px1, px2⟩ : ∃ x1 x2, xx = x1 ++ x2 ∧ x1.length = i ∧ x1 = xx.take i ∧ x2 = xx.drop i ∧ (∀ x ∈ x1, p x) ∧ (∀ x ∈ x2, p x) :=
    ⟨xx.take i, xx.drop i, (tdl _ _).symm, by rw [List.length_take]; omega, rfl, rfl, fun x hx => hp x (List.mem_of_mem_take hx), fun x hx => hp x (List.mem_of_mem_drop hx)⟩
   obtain ⟨y1, y2, e2, l2, hy1', hy2', py1, py2⟩ : ∃ y1 y2, yy = y1 ++ y2 ∧ y1.length = h - i ∧ y1 = yy.take (h - i) ∧ y2 = yy.drop (h - i) ∧ (∀ x ∈ y1, p x) ∧ (∀ x ∈ y2, p x) :=
    ⟨yy.take (h - i), yy.drop (h - i), (tdl _ _).symm, by rw [List.length_take]; omega, rfl, rfl, fun x hx => hp' x (List.mem_of_mem_take hx), fun x hx => hp' x (List.mem_of_mem_drop hx)⟩
   have sx1 : Srt (jQ c) x1 := hx1' ▸ hx.take i
   have sx2 : Srt (jQ c) x2 := hx2' ▸ hx.drop i
   have sy1 : Srt (jQ c) y1 := hy1' ▸ hy.take _
   have sy2 : Srt (jQ c) y2 := hy2' ▸ hy.drop _
   have hparts : ∀ L R, StS (jQ c) (x1 ++ y1) L -> StS (jQ c) (x2 ++ y2) R -> StS (jQ c) (xx ++ yy) (L ++ R) := fun L R hL hR => by
    rw [hx1', hy1'] at hL
    rw [hx2', hy2'] at hR
    exact ZB hs hx hy hh k2'' k2 k2' k3 k4 hL hR
   have n1 : x1.length + x2.length = xx.length := by rw [e1]; simp
   have n2 : y1.length + y2.length = yy.length := by rw [e2]; simp
   have eM : M = pp ++ x1 ++ x2 ++ y1 ++ (y2 ++ ss) := by rw [hM, e1, e2]; simp
   clear hM e1 e2 hx1' hx2' hy1' hy2'
   subst eM
   rcases Decidable.em (0 < x2.length ∧ 0 < y1.length) with hR0 | hR0
   ·rcases Decidable.em (0 < x1.length ∧ 0 < y1.length) with hA0 | hA0
    ·rcases Decidable.em (0 < x2.length ∧ 0 < y2.length) with hB0 | hB0
     ·first
      | (exfalso; omega)
      | (repeat' (first | refine sT ?_ | refine sQ ?_ ?_ | intro hc | exact trivial)
         all_goals first | (exfalso; omega) | skip
         refine jL (fun i => i) (QQ fc  (pp ++ x1) x2 y1 (y2 ++ ss) _ _ _ (by simp only [List.length_append]; omega) (by simp only [List.length_append]; omega) (by simp only [List.length_append]; omega) (by omega) (by omega) (by simp only [List.length_append]; omega)) rfl rfl leh rfl rfl rfl rfl rfl rfl (fun r h' hR => ?_)
         obtain ⟨rfl, rfl⟩ := hR
         refine ⟨rfl, rfl, ?_⟩
         rw [show pp ++ x1 ++ y1 ++ x2 ++ (y2 ++ ss) = pp ++ x1 ++ y1 ++ (x2 ++ (y2 ++ ss)) by simp]
         repeat' (first | refine sT ?_ | refine sQ ?_ ?_ | intro hc | exact trivial)
         all_goals first | (exfalso; omega) | skip
         refine jL (fun i => i) (ih pp x1 y1 (x2 ++ (y2 ++ ss)) (by omega) px1 py1 sx1 sy1 (by omega) (by omega) _ _ _ (by omega) (by omega) (by omega) (by simp only [List.length_append]; omega)) rfl rfl leh rfl rfl rfl rfl rfl rfl (fun r h' hR => ?_)
         obtain ⟨rfl, M1, hM1, rfl⟩ := hR
         refine ⟨rfl, rfl, ?_⟩
         have lM1 : M1.length = x1.length + y1.length := by have := hM1.1.len; rwa [List.length_append] at this
         rw [show pp ++ M1 ++ (x2 ++ (y2 ++ ss)) = pp ++ M1 ++ x2 ++ y2 ++ ss by simp]
         repeat' (first | refine sT ?_ | refine sQ ?_ ?_ | intro hc | exact trivial)
         all_goals first | (exfalso; omega) | skip
         refine jL (fun i => i) (ih (pp ++ M1) x2 y2 ss (by omega) px2 py2 sx2 sy2 (by omega) (by omega) _ _ _ (by simp only [List.length_append]; omega) (by simp only [List.length_append]; omega) (by simp only [List.length_append]; omega) (by simp only [List.length_append]; omega)) rfl rfl leh rfl rfl rfl rfl rfl rfl (fun r h' hR => ?_)
         obtain ⟨rfl, M2, hM2, rfl⟩ := hR
         refine ⟨rfl, rfl, ?_⟩
         rw [show pp ++ M1 ++ M2 ++ ss = pp ++ (M1 ++ M2) ++ ss by simp]
         repeat' (first | refine sT ?_ | refine sQ ?_ ?_ | intro hc | exact trivial)
         all_goals first | (exfalso; omega) | skip
         all_goals first | exact vb rfl ⟨rfl, M1 ++ M2, hparts _ _ hM1 hM2, rfl⟩ | exact jK rfl ⟨rfl, M1 ++ M2, hparts _ _ hM1 hM2, rfl⟩)
     ·first
      | (exfalso; omega)
      | (repeat' (first | refine sT ?_ | refine sQ ?_ ?_ | intro hc | exact trivial)
         all_goals first | (exfalso; omega) | skip
         refine jL (fun i => i) (QQ fc  (pp ++ x1) x2 y1 (y2 ++ ss) _ _ _ (by simp only [List.length_append]; omega) (by simp only [List.length_append]; omega) (by simp only [List.length_append]; omega) (by omega) (by omega) (by simp only [List.length_append]; omega)) rfl rfl leh rfl rfl rfl rfl rfl rfl (fun r h' hR => ?_)
         obtain ⟨rfl, rfl⟩ := hR
         refine ⟨rfl, rfl, ?_⟩
         rw [show pp ++ x1 ++ y1 ++ x2 ++ (y2 ++ ss) = pp ++ x1 ++ y1 ++ (x2 ++ (y2 ++ ss)) by simp]
         repeat' (first | refine sT ?_ | refine sQ ?_ ?_ | intro hc | exact trivial)
         all_goals first | (exfalso; omega) | skip
         refine jL (fun i => i) (ih pp x1 y1 (x2 ++ (y2 ++ ss)) (by omega) px1 py1 sx1 sy1 (by omega) (by omega) _ _ _ (by omega) (by omega) (by omega) (by simp only [List.length_append]; omega)) rfl rfl leh rfl rfl rfl rfl rfl rfl (fun r h' hR => ?_)
         obtain ⟨rfl, M1, hM1, rfl⟩ := hR
         refine ⟨rfl, rfl, ?_⟩
         have lM1 : M1.length = x1.length + y1.length := by have := hM1.1.len; rwa [List.length_append] at this
         obtain ⟨M2, hM2, eB⟩ : ∃ M2, StS (jQ c) (x2 ++ y2) M2 ∧ pp ++ M1 ++ (x2 ++ (y2 ++ ss)) = pp ++ (M1 ++ M2) ++ ss := by
          refine ⟨x2 ++ y2, .self ?_, by simp⟩
          rcases Nat.eq_zero_or_pos x2.length with z | z
          ·rw [List.eq_nil_of_length_eq_zero z]; exact sy2
          ·rw [List.eq_nil_of_length_eq_zero (show y2.length = 0 by omega), List.append_nil]; exact sx2
         rw [eB]
         repeat' (first | refine sT ?_ | refine sQ ?_ ?_ | intro hc | exact trivial)
         all_goals first | (exfalso; omega) | skip
         all_goals first | exact vb rfl ⟨rfl, M1 ++ M2, hparts _ _ hM1 hM2, rfl⟩ | exact jK rfl ⟨rfl, M1 ++ M2, hparts _ _ hM1 hM2, rfl⟩)
    ·rcases Decidable.em (0 < x2.length ∧ 0 < y2.length) with hB0 | hB0
     ·first
      | (exfalso; omega)
      | (repeat' (first | refine sT ?_ | refine sQ ?_ ?_ | intro hc | exact trivial)
         all_goals first | (exfalso; omega) | skip
         refine jL (fun i => i) (QQ fc  (pp ++ x1) x2 y1 (y2 ++ ss) _ _ _ (by simp only [List.length_append]; omega) (by simp only [List.length_append]; omega) (by simp only [List.length_append]; omega) (by omega) (by omega) (by simp only [List.length_append]; omega)) rfl rfl leh rfl rfl rfl rfl rfl rfl (fun r h' hR => ?_)
         obtain ⟨rfl, rfl⟩ := hR
         refine ⟨rfl, rfl, ?_⟩
         obtain ⟨M1, hM1, eA⟩ : ∃ M1, StS (jQ c) (x1 ++ y1) M1 ∧ pp ++ x1 ++ y1 ++ x2 ++ (y2 ++ ss) = pp ++ M1 ++ (x2 ++ (y2 ++ ss)) := by
          refine ⟨x1 ++ y1, .self ?_, by simp⟩
          rcases Nat.eq_zero_or_pos x1.length with z | z
          ·rw [List.eq_nil_of_length_eq_zero z]; exact sy1
          ·rw [List.eq_nil_of_length_eq_zero (show y1.length = 0 by omega), List.append_nil]; exact sx1
         rw [eA]
         have lM1 : M1.length = x1.length + y1.length := by have := hM1.1.len; rwa [List.length_append] at this
         rw [show pp ++ M1 ++ (x2 ++ (y2 ++ ss)) = pp ++ M1 ++ x2 ++ y2 ++ ss by simp]
         repeat' (first | refine sT ?_ | refine sQ ?_ ?_ | intro hc | exact trivial)
         all_goals first | (exfalso; omega) | skip
         refine jL (fun i => i) (ih (pp ++ M1) x2 y2 ss (by omega) px2 py2 sx2 sy2 (by omega) (by omega) _ _ _ (by simp only [List.length_append]; omega) (by simp only [List.length_append]; omega) (by simp only [List.length_append]; omega) (by simp only [List.length_append]; omega)) rfl rfl leh rfl rfl rfl rfl rfl rfl (fun r h' hR => ?_)
         obtain ⟨rfl, M2, hM2, rfl⟩ := hR
         refine ⟨rfl, rfl, ?_⟩
         rw [show pp ++ M1 ++ M2 ++ ss = pp ++ (M1 ++ M2) ++ ss by simp]
         repeat' (first | refine sT ?_ | refine sQ ?_ ?_ | intro hc | exact trivial)
         all_goals first | (exfalso; omega) | skip
         all_goals first | exact vb rfl ⟨rfl, M1 ++ M2, hparts _ _ hM1 hM2, rfl⟩ | exact jK rfl ⟨rfl, M1 ++ M2, hparts _ _ hM1 hM2, rfl⟩)
     ·first
      | (exfalso; omega)
      | (repeat' (first | refine sT ?_ | refine sQ ?_ ?_ | intro hc | exact trivial)
         all_goals first | (exfalso; omega) | skip
         refine jL (fun i => i) (QQ fc  (pp ++ x1) x2 y1 (y2 ++ ss) _ _ _ (by simp only [List.length_append]; omega) (by simp only [List.length_append]; omega) (by simp only [List.length_append]; omega) (by omega) (by omega) (by simp only [List.length_append]; omega)) rfl rfl leh rfl rfl rfl rfl rfl rfl (fun r h' hR => ?_)
         obtain ⟨rfl, rfl⟩ := hR
         refine ⟨rfl, rfl, ?_⟩
         obtain ⟨M1, hM1, eA⟩ : ∃ M1, StS (jQ c) (x1 ++ y1) M1 ∧ pp ++ x1 ++ y1 ++ x2 ++ (y2 ++ ss) = pp ++ M1 ++ (x2 ++ (y2 ++ ss)) := by
          refine ⟨x1 ++ y1, .self ?_, by simp⟩
          rcases Nat.eq_zero_or_pos x1.length with z | z
          ·rw [List.eq_nil_of_length_eq_zero z]; exact sy1
          ·rw [List.eq_nil_of_length_eq_zero (show y1.length = 0 by omega), List.append_nil]; exact sx1
         rw [eA]
         have lM1 : M1.length = x1.length + y1.length := by have := hM1.1.len; rwa [List.length_append] at this
         obtain ⟨M2, hM2, eB⟩ : ∃ M2, StS (jQ c) (x2 ++ y2) M2 ∧ pp ++ M1 ++ (x2 ++ (y2 ++ ss)) = pp ++ (M1 ++ M2) ++ ss := by
          refine ⟨x2 ++ y2, .self ?_, by simp⟩
          rcases Nat.eq_zero_or_pos x2.length with z | z
          ·rw [List.eq_nil_of_length_eq_zero z]; exact sy2
          ·rw [List.eq_nil_of_length_eq_zero (show y2.length = 0 by omega), List.append_nil]; exact sx2
         rw [eB]
         repeat' (first | refine sT ?_ | refine sQ ?_ ?_ | intro hc | exact trivial)
         all_goals first | (exfalso; omega) | skip
         all_goals first | exact vb rfl ⟨rfl, M1 ++ M2, hparts _ _ hM1 hM2, rfl⟩ | exact jK rfl ⟨rfl, M1 ++ M2, hparts _ _ hM1 hM2, rfl⟩)
   ·rcases Decidable.em (0 < x1.length ∧ 0 < y1.length) with hA0 | hA0
    ·rcases Decidable.em (0 < x2.length ∧ 0 < y2.length) with hB0 | hB0
     ·first
      | (exfalso; omega)
      | (have eR : pp ++ x1 ++ x2 ++ y1 ++ (y2 ++ ss) = pp ++ x1 ++ y1 ++ x2 ++ (y2 ++ ss) := by
          rcases Nat.eq_zero_or_pos x2.length with z | z
          ·rw [List.eq_nil_of_length_eq_zero z]; simp
          ·rw [List.eq_nil_of_length_eq_zero (show y1.length = 0 by omega)]; simp
         rw [eR]
         rw [show pp ++ x1 ++ y1 ++ x2 ++ (y2 ++ ss) = pp ++ x1 ++ y1 ++ (x2 ++ (y2 ++ ss)) by simp]
         repeat' (first | refine sT ?_ | refine sQ ?_ ?_ | intro hc | exact trivial)
         all_goals first | (exfalso; omega) | skip
         refine jL (fun i => i) (ih pp x1 y1 (x2 ++ (y2 ++ ss)) (by omega) px1 py1 sx1 sy1 (by omega) (by omega) _ _ _ (by omega) (by omega) (by omega) (by simp only [List.length_append]; omega)) rfl rfl leh rfl rfl rfl rfl rfl rfl (fun r h' hR => ?_)
         obtain ⟨rfl, M1, hM1, rfl⟩ := hR
         refine ⟨rfl, rfl, ?_⟩
         have lM1 : M1.length = x1.length + y1.length := by have := hM1.1.len; rwa [List.length_append] at this
         rw [show pp ++ M1 ++ (x2 ++ (y2 ++ ss)) = pp ++ M1 ++ x2 ++ y2 ++ ss by simp]
         repeat' (first | refine sT ?_ | refine sQ ?_ ?_ | intro hc | exact trivial)
         all_goals first | (exfalso; omega) | skip
         refine jL (fun i => i) (ih (pp ++ M1) x2 y2 ss (by omega) px2 py2 sx2 sy2 (by omega) (by omega) _ _ _ (by simp only [List.length_append]; omega) (by simp only [List.length_append]; omega) (by simp only [List.length_append]; omega) (by simp only [List.length_append]; omega)) rfl rfl leh rfl rfl rfl rfl rfl rfl (fun r h' hR => ?_)
         obtain ⟨rfl, M2, hM2, rfl⟩ := hR
         refine ⟨rfl, rfl, ?_⟩
         rw [show pp ++ M1 ++ M2 ++ ss = pp ++ (M1 ++ M2) ++ ss by simp]
         repeat' (first | refine sT ?_ | refine sQ ?_ ?_ | intro hc | exact trivial)
         all_goals first | (exfalso; omega) | skip
         all_goals first | exact vb rfl ⟨rfl, M1 ++ M2, hparts _ _ hM1 hM2, rfl⟩ | exact jK rfl ⟨rfl, M1 ++ M2, hparts _ _ hM1 hM2, rfl⟩)
     ·first
      | (exfalso; omega)
      | (have eR : pp ++ x1 ++ x2 ++ y1 ++ (y2 ++ ss) = pp ++ x1 ++ y1 ++ x2 ++ (y2 ++ ss) := by
          rcases Nat.eq_zero_or_pos x2.length with z | z
          ·rw [List.eq_nil_of_length_eq_zero z]; simp
          ·rw [List.eq_nil_of_length_eq_zero (show y1.length = 0 by omega)]; simp
         rw [eR]
         rw [show pp ++ x1 ++ y1 ++ x2 ++ (y2 ++ ss) = pp ++ x1 ++ y1 ++ (x2 ++ (y2 ++ ss)) by simp]
         repeat' (first | refine sT ?_ | refine sQ ?_ ?_ | intro hc | exact trivial)
         all_goals first | (exfalso; omega) | skip
         refine jL (fun i => i) (ih pp x1 y1 (x2 ++ (y2 ++ ss)) (by omega) px1 py1 sx1 sy1 (by omega) (by omega) _ _ _ (by omega) (by omega) (by omega) (by simp only [List.length_append]; omega)) rfl rfl leh rfl rfl rfl rfl rfl rfl (fun r h' hR => ?_)
         obtain ⟨rfl, M1, hM1, rfl⟩ := hR
         refine ⟨rfl, rfl, ?_⟩
         have lM1 : M1.length = x1.length + y1.length := by have := hM1.1.len; rwa [List.length_append] at this
         obtain ⟨M2, hM2, eB⟩ : ∃ M2, StS (jQ c) (x2 ++ y2) M2 ∧ pp ++ M1 ++ (x2 ++ (y2 ++ ss)) = pp ++ (M1 ++ M2) ++ ss := by
          refine ⟨x2 ++ y2, .self ?_, by simp⟩
          rcases Nat.eq_zero_or_pos x2.length with z | z
          ·rw [List.eq_nil_of_length_eq_zero z]; exact sy2
          ·rw [List.eq_nil_of_length_eq_zero (show y2.length = 0 by omega), List.append_nil]; exact sx2
         rw [eB]
         repeat' (first | refine sT ?_ | refine sQ ?_ ?_ | intro hc | exact trivial)
         all_goals first | (exfalso; omega) | skip
         all_goals first | exact vb rfl ⟨rfl, M1 ++ M2, hparts _ _ hM1 hM2, rfl⟩ | exact jK rfl ⟨rfl, M1 ++ M2, hparts _ _ hM1 hM2, rfl⟩)
    ·rcases Decidable.em (0 < x2.length ∧ 0 < y2.length) with hB0 | hB0
     ·first
      | (exfalso; omega)
      | (have eR : pp ++ x1 ++ x2 ++ y1 ++ (y2 ++ ss) = pp ++ x1 ++ y1 ++ x2 ++ (y2 ++ ss) := by
          rcases Nat.eq_zero_or_pos x2.length with z | z
          ·rw [List.eq_nil_of_length_eq_zero z]; simp
          ·rw [List.eq_nil_of_length_eq_zero (show y1.length = 0 by omega)]; simp
         rw [eR]
         obtain ⟨M1, hM1, eA⟩ : ∃ M1, StS (jQ c) (x1 ++ y1) M1 ∧ pp ++ x1 ++ y1 ++ x2 ++ (y2 ++ ss) = pp ++ M1 ++ (x2 ++ (y2 ++ ss)) := by
          refine ⟨x1 ++ y1, .self ?_, by simp⟩
          rcases Nat.eq_zero_or_pos x1.length with z | z
          ·rw [List.eq_nil_of_length_eq_zero z]; exact sy1
          ·rw [List.eq_nil_of_length_eq_zero (show y1.length = 0 by omega), List.append_nil]; exact sx1
         rw [eA]
         have lM1 : M1.length = x1.length + y1.length := by have := hM1.1.len; rwa [List.length_append] at this
         rw [show pp ++ M1 ++ (x2 ++ (y2 ++ ss)) = pp ++ M1 ++ x2 ++ y2 ++ ss by simp]
         repeat' (first | refine sT ?_ | refine sQ ?_ ?_ | intro hc | exact trivial)
         all_goals first | (exfalso; omega) | skip
         refine jL (fun i => i) (ih (pp ++ M1) x2 y2 ss (by omega) px2 py2 sx2 sy2 (by omega) (by omega) _ _ _ (by simp only [List.length_append]; omega) (by simp only [List.length_append]; omega) (by simp only [List.length_append]; omega) (by simp only [List.length_append]; omega)) rfl rfl leh rfl rfl rfl rfl rfl rfl (fun r h' hR => ?_)
         obtain ⟨rfl, M2, hM2, rfl⟩ := hR
         refine ⟨rfl, rfl, ?_⟩
         rw [show pp ++ M1 ++ M2 ++ ss = pp ++ (M1 ++ M2) ++ ss by simp]
         repeat' (first | refine sT ?_ | refine sQ ?_ ?_ | intro hc | exact trivial)
         all_goals first | (exfalso; omega) | skip
         all_goals first | exact vb rfl ⟨rfl, M1 ++ M2, hparts _ _ hM1 hM2, rfl⟩ | exact jK rfl ⟨rfl, M1 ++ M2, hparts _ _ hM1 hM2, rfl⟩)
     ·first
      | (exfalso; omega)
      | (have eR : pp ++ x1 ++ x2 ++ y1 ++ (y2 ++ ss) = pp ++ x1 ++ y1 ++ x2 ++ (y2 ++ ss) := by
          rcases Nat.eq_zero_or_pos x2.length with z | z
          ·rw [List.eq_nil_of_length_eq_zero z]; simp
          ·rw [List.eq_nil_of_length_eq_zero (show y1.length = 0 by omega)]; simp
         rw [eR]
         obtain ⟨M1, hM1, eA⟩ : ∃ M1, StS (jQ c) (x1 ++ y1) M1 ∧ pp ++ x1 ++ y1 ++ x2 ++ (y2 ++ ss) = pp ++ M1 ++ (x2 ++ (y2 ++ ss)) := by
          refine ⟨x1 ++ y1, .self ?_, by simp⟩
          rcases Nat.eq_zero_or_pos x1.length with z | z
          ·rw [List.eq_nil_of_length_eq_zero z]; exact sy1
          ·rw [List.eq_nil_of_length_eq_zero (show y1.length = 0 by omega), List.append_nil]; exact sx1
         rw [eA]
         have lM1 : M1.length = x1.length + y1.length := by have := hM1.1.len; rwa [List.length_append] at this
         obtain ⟨M2, hM2, eB⟩ : ∃ M2, StS (jQ c) (x2 ++ y2) M2 ∧ pp ++ M1 ++ (x2 ++ (y2 ++ ss)) = pp ++ (M1 ++ M2) ++ ss := by
          refine ⟨x2 ++ y2, .self ?_, by simp⟩
          rcases Nat.eq_zero_or_pos x2.length with z | z
          ·rw [List.eq_nil_of_length_eq_zero z]; exact sy2
          ·rw [List.eq_nil_of_length_eq_zero (show y2.length = 0 by omega), List.append_nil]; exact sx2
         rw [eB]
         repeat' (first | refine sT ?_ | refine sQ ?_ ?_ | intro hc | exact trivial)
         all_goals first | (exfalso; omega) | skip
         all_goals first | exact vb rfl ⟨rfl, M1 ++ M2, hparts _ _ hM1 hM2, rfl⟩ | exact jK rfl ⟨rfl, M1 ++ M2, hparts _ _ hM1 hM2, rfl⟩)
set_option maxHeartbeats 8000000 in
theorem j4X (fc : FuncId) (c : Due -> Due -> Int) (p : Due -> Prop) (hs : SWO (jQ c)) (hF : ∀ x y, p x -> p y -> Fn Tryz.prog fc ([(fun x : Due => AV.agg (jD x)) x, (fun x : Due => AV.agg (jD x)) y] ++ []) (.int .i64 (c x y))) (xx : List Due) (hp : ∀ x ∈ xx, p x) (n : Int) (hn : n = xx.length) (hl : xx.length <= 500000000) :
  FnH Tryz.prog 120 [.own 4, .int .i64 n, .fn (.func fc) [] []] [(4, .row 60 2 (xx.map jD))]
  (fun r h' => r = .tup [] ∧ ∃ xx', StS (jQ c) xx xx' ∧ h' = [(4, .row 60 2 (xx'.map jD))]) := by
 refine qo Tryz.func120 (j5 (by kernel_rfl)) rfl rfl ?_
 subst hn
 repeat' (first | refine sT ?_ | refine sQ ?_ ?_ | intro hc | exact trivial)
 refine jk (fun z : List (List Due) × List Due × List Due => ([(0, .own 4), (1, .int .i64 xx.length), (2, .fn (.func fc) [] []), (6, .int .i64 20), (7, .int .i64 z.2.1.length), (8, .int .i64 (z.2.1.length + 20))], [(4, .row 60 2 ((z.2.1 ++ z.2.2).map jD))]))
  (fun z => Rch (jQ c) xx (z.2.1 ++ z.2.2) ∧ z.2.1 = z.1.flatten ∧ ∀ x ∈ z.1, x.length = 20 ∧ Srt (jQ c) x) (fun z => z.2.2.length) ([], [], xx)
  ⟨.refl, rfl, fun x hx => by cases hx⟩ les leh (fun z hz => ?_)
 obtain ⟨cs, dd, ee⟩ := z
 obtain ⟨k1, k2, k3⟩ := hz
 simp only at k1 k2 k3 ⊢
 have k4 : dd.length + ee.length = xx.length := by have := k1.len; rwa [List.length_append] at this
 have hpe : ∀ x ∈ ee, p x := fun x hx => hp x (k1.mem.1 (List.mem_append_right _ hx))
 rcases Nat.lt_or_ge ee.length 20 with h20 | h20
 ·rw [show dd ++ ee = dd ++ ee ++ [] by simp]
  repeat' (first | refine sT ?_ | refine sQ ?_ ?_ | intro hc | exact trivial)
  all_goals first | (exfalso; omega) | skip
  refine jL (fun i => i) (j09 fc  c p hs hF dd ee [] hpe _ _ (by omega) (by omega) (by simp only [List.length_nil]; omega)) rfl rfl leh rfl rfl rfl rfl rfl rfl (fun r h' hR => ?_)
  obtain ⟨rfl, e', he', rfl⟩ := hR
  refine ⟨rfl, rfl, ?_⟩
  have l1 := he'.1.len
  repeat' (first | refine sT ?_ | refine sQ ?_ ?_ | intro hc | exact trivial)
  refine jk (fun z : Nat × List (List Due) × List Due × List Due => ([(0, .own 4), (1, .int .i64 xx.length), (2, .fn (.func fc) [] []), (6, .int .i64 z.1)], [(4, .row 60 2 (z.2.2.1.map jD))]))
   (fun z => 0 < z.1 ∧ z.1 <= 40 + 2 * xx.length ∧ Rch (jQ c) xx z.2.2.1 ∧ BS (jQ c) z.1 z.2.2.1 z.2.1 z.2.2.2) (fun z => xx.length - z.1) (20, cs, dd ++ e', e')
   ⟨by simp only; omega, by simp only; omega, k1.trans ((Rch.refl (lt := jQ c) (l := dd)).app he'.1), ⟨by rw [<- k2], k3, by simp only; omega, he'.2⟩⟩ les (by dsimp only; rw [List.append_nil]; exact leh) (fun z hz => ?_)
  obtain ⟨k, cs, bb, e'⟩ := z
  obtain ⟨m1, m2, m3, m4⟩ := hz
  simp only at m1 m2 m3 m4 ⊢
  have m5 : bb.length = xx.length := m3.len
  clear k1 k2 k3 k4 hpe he' l1 h20
  rcases Nat.lt_or_ge k xx.length with hk | hk
  ·repeat' (first | refine sT ?_ | refine sQ ?_ ?_ | intro hc | exact trivial)
   all_goals first | (exfalso; omega) | skip
   refine jk (fun z : List (List Due) × List (List Due) × List Due × List Due × List Due => ([(0, .own 4), (1, .int .i64 xx.length), (2, .fn (.func fc) [] []), (6, .int .i64 k), (7, .int .i64 z.2.2.1.length), (8, .int .i64 (z.2.2.1.length + 2 * k))], [(4, .row 60 2 ((z.2.2.1 ++ z.2.2.2.1).map jD))]))
    (fun z => Rch (jQ c) xx (z.2.2.1 ++ z.2.2.2.1) ∧ z.2.2.1 = z.1.flatten ∧ (∀ x ∈ z.1, x.length = 2 * k ∧ Srt (jQ c) x) ∧ BS (jQ c) k z.2.2.2.1 z.2.1 z.2.2.2.2) (fun z => z.2.2.2.1.length) ([], cs, [], bb, e')
    ⟨m3, rfl, fun x hx => (by cases hx), m4⟩ les leh (fun z hz => ?_)
   obtain ⟨cs2, cs, dd, bb, e'⟩ := z
   obtain ⟨n1, n2, n3, n4⟩ := hz
   simp only at n1 n2 n3 n4 ⊢
   clear m3 m4 m5
   have n5 : dd.length + bb.length = xx.length := by have := n1.len; rwa [List.length_append] at this
   have hpb : ∀ x ∈ bb, p x := fun x hx => hp x (n1.mem.1 (List.mem_append_right _ hx))
   rcases Nat.lt_or_ge bb.length (2 * k) with h2k | h2k
   ·rcases n4.last m1 h2k with ⟨o1, o2⟩ | ⟨o1, c1, c2, rfl, o2, o3, o4⟩
    ·repeat' (first | refine sT ?_ | refine sQ ?_ ?_ | intro hc | exact trivial)
     all_goals first | (exfalso; omega) | skip
     exact ⟨(k * 2, cs2, dd ++ bb, bb), ⟨by simp only; omega, by simp only; omega, n1, ⟨by rw [n2], fun x hx => by have := n3 x hx; exact ⟨by simp only; omega, this.2⟩, by simp only; omega, o2⟩⟩, by simp only; omega, les, leh⟩
    ·rw [List.length_append] at h2k n5 o1
     rw [show dd ++ (c1 ++ c2) = dd ++ c1 ++ c2 ++ [] by simp]
     repeat' (first | refine sT ?_ | refine sQ ?_ ?_ | intro hc | exact trivial)
     all_goals first | (exfalso; omega) | skip
     refine jL (fun i => i) (j26 fc  c p hs hF _ dd c1 c2 [] (Nat.le_refl _) (fun x hx => hpb x (List.mem_append_left _ hx)) (fun x hx => hpb x (List.mem_append_right _ hx)) o3 o4 (by omega) (by omega) _ _ _ (by omega) (by omega) (by omega) (by simp only [List.length_nil]; omega)) rfl rfl leh rfl rfl rfl rfl rfl rfl (fun r h' hR => ?_)
     obtain ⟨rfl, mm, hmm, rfl⟩ := hR
     refine ⟨rfl, rfl, ?_⟩
     have l1 := hmm.1.len
     rw [List.length_append] at l1
     repeat' (first | refine sT ?_ | refine sQ ?_ ?_ | intro hc | exact trivial)
     all_goals first | (exfalso; omega) | skip
     exact ⟨(k * 2, cs2, dd ++ mm, mm), ⟨by simp only; omega, by simp only; omega, n1.trans ((Rch.refl (lt := jQ c) (l := dd)).app hmm.1), ⟨by rw [n2], fun x hx => by have := n3 x hx; exact ⟨by simp only; omega, this.2⟩, by simp only; omega, hmm.2⟩⟩, by simp only; omega, les, by dsimp only; rw [List.append_nil]; exact leh⟩
   ·obtain ⟨c1, c2, b', cs', c', rfl, o1, o2, o3, o4, o5⟩ := n4.two m1 h2k
    rw [List.length_append, List.length_append] at h2k n5
    rw [show dd ++ (c1 ++ c2 ++ b') = dd ++ c1 ++ c2 ++ b' by simp]
    repeat' (first | refine sT ?_ | refine sQ ?_ ?_ | intro hc | exact trivial)
    all_goals first | (exfalso; omega) | skip
    refine jL (fun i => i) (j26 fc  c p hs hF _ dd c1 c2 b' (Nat.le_refl _) (fun x hx => hpb x (List.mem_append_left _ (List.mem_append_left _ hx))) (fun x hx => hpb x (List.mem_append_left _ (List.mem_append_right _ hx))) o3 o4 (by omega) (by omega) _ _ _ (by omega) (by omega) (by omega) (by omega)) rfl rfl leh rfl rfl rfl rfl rfl rfl (fun r h' hR => ?_)
    obtain ⟨rfl, mm, hmm, rfl⟩ := hR
    refine ⟨rfl, rfl, ?_⟩
    have l1 := hmm.1.len
    rw [List.length_append] at l1
    repeat' (first | refine sT ?_ | refine sQ ?_ ?_ | intro hc | exact trivial)
    all_goals first | (exfalso; omega) | skip
    have hb := BS.snoc (lt := jQ c) (A := dd) (c := mm) n2 n3 (by omega) hmm.2
    exact ⟨(cs2 ++ [mm], cs', dd ++ mm, b', c'), ⟨by
     have := n1.trans (((Rch.refl (lt := jQ c) (l := dd)).app hmm.1).app (Rch.refl (lt := jQ c) (l := b')) |> fun h => by simpa using h)
     simpa using this, hb.1, hb.2, o5⟩, by simp only [List.length_append]; omega, les, leh⟩
  ·have m6 := m4.whole m1 (by omega)
   repeat' (first | refine sT ?_ | refine sQ ?_ ?_ | intro hc | exact trivial)
   all_goals first | (exfalso; omega) | skip
   first | exact vb rfl ⟨rfl, bb, ⟨m3, m6⟩, rfl⟩ | exact jK rfl ⟨rfl, bb, ⟨m3, m6⟩, rfl⟩
 ·obtain ⟨e1, e2, rfl, he1⟩ : ∃ e1 e2, ee = e1 ++ e2 ∧ e1.length = 20 := ⟨ee.take 20, ee.drop 20, (tdl _ _).symm, by rw [List.length_take]; omega⟩
  rw [List.length_append] at k4
  rw [show dd ++ (e1 ++ e2) = dd ++ e1 ++ e2 by simp]
  repeat' (first | refine sT ?_ | refine sQ ?_ ?_ | intro hc | exact trivial)
  all_goals first | (exfalso; omega) | skip
  refine jL (fun i => i) (j09 fc  c p hs hF dd e1 e2 (fun x hx => hpe x (List.mem_append_left _ hx)) _ _ (by omega) (by omega) (by omega)) rfl rfl leh rfl rfl rfl rfl rfl rfl (fun r h' hR => ?_)
  obtain ⟨rfl, mm, hmm, rfl⟩ := hR
  refine ⟨rfl, rfl, ?_⟩
  have l1 := hmm.1.len
  repeat' (first | refine sT ?_ | refine sQ ?_ ?_ | intro hc | exact trivial)
  all_goals first | (exfalso; omega) | skip
  have hb := BS.snoc (lt := jQ c) (A := dd) (c := mm) k2 k3 (by omega) hmm.2
  exact ⟨(cs ++ [mm], dd ++ mm, e2), ⟨by
   have := k1.trans (((Rch.refl (lt := jQ c) (l := dd)).app hmm.1).app (Rch.refl (lt := jQ c) (l := e2)) |> fun h => by simpa using h)
   simpa using this, hb.1, hb.2⟩, by simp only [List.length_append]; omega, les, leh⟩
theorem YS (fc : FuncId) (c : Due -> Due -> Int) (p : Due -> Prop) (hs : SWO (jQ c)) (hF : ∀ x y, p x -> p y -> Fn Tryz.prog fc ([(fun x : Due => AV.agg (jD x)) x, (fun x : Due => AV.agg (jD x)) y] ++ []) (.int .i64 (c x y))) (xx : List Due) (hp : ∀ x ∈ xx, p x) (hl : xx.length <= 500000000) :
  FnH Tryz.prog 94 [.own 4, .fn (.func fc) [] []] [(4, .row 60 2 (xx.map jD))]
  (fun r h' => r = .tup [] ∧ ∃ xx', StS (jQ c) xx xx' ∧ h' = [(4, .row 60 2 (xx'.map jD))]) := by
 refine qo Tryz.func94 (j5 (by kernel_rfl)) rfl rfl ?_
 repeat' (first | refine sT ?_ | refine sQ ?_ ?_ | intro hc | exact trivial)
 refine jL (fun i => i) (j4X fc  c p hs hF xx hp _ rfl hl) rfl rfl leh rfl rfl rfl rfl rfl rfl (fun r h' hR => ?_)
 obtain ⟨rfl, mm, hmm, rfl⟩ := hR
 refine ⟨rfl, rfl, ?_⟩
 repeat' (first | refine sT ?_ | refine sQ ?_ ?_ | intro hc | exact trivial)
 first | exact vb rfl ⟨rfl, mm, hmm, rfl⟩ | exact jK rfl ⟨rfl, mm, hmm, rfl⟩
--BEGIN
def ltD (a b : Due) : Bool := decide (a.at_ < b.at_ ∨ a.at_ = b.at_ ∧ a.task < b.task)
def leD (a b : Due) : Prop := a.at_ < b.at_ ∨ a.at_ = b.at_ ∧ a.task <= b.task
theorem j1t {a b : Due} (h1 : leD a b) (h2 : leD b a) : a = b := by
 apply Due.ext_
 unfold leD at h1 h2
 omega
def zb : List Due -> Due -> List Due
 | [], d => [d]
 | x :: r, d => if ltD d x then d :: x :: r else x :: zb r d
def jO (l : List Due) : List Due := l.foldl zb []
theorem Zv : ∀ (l : List Due) (d : Due) (k : Nat), (∀ j, j < k -> ltD d (l.getD j default) = false) -> (k = l.length ∨ k < l.length ∧ ltD d (l.getD k default) = true) -> zb l d = l.take k ++ d :: l.drop k
 | [], d, k, _, h => by
  rcases h with rfl | ⟨h, _⟩
  ·rfl
  ·simp at h
 | x :: r, d, 0, _, h => by
  rcases h with h | ⟨_, h⟩
  ·simp at h
  ·rw [zb, if_pos (by simpa using h)]; rfl
 | x :: r, d, k + 1, h1, h => by
  have h0 := h1 0 (by omega)
  simp only [List.getD_cons_zero] at h0
  rw [zb, if_neg (by rw [h0]; exact Bool.false_ne_true), Zv r d k (fun j hj => by have := h1 (j + 1) (by omega); simpa using this) (by simpa using h)]
  rfl
theorem Jg : ∀ (l : List Due) (d : Due), (zb l d).Perm (d :: l)
 | [], d => List.Perm.refl _
 | x :: r, d => by
  rw [zb]
  split
  ·exact List.Perm.refl _
  ·exact ((Jg r d).cons x).trans (List.Perm.swap d x r)
theorem Yy : ∀ (l : List Due) (d : Due), l.Pairwise leD -> (zb l d).Pairwise leD
 | [], d, _ => by simp [zb]
 | x :: r, d, h => by
  rw [List.pairwise_cons] at h
  rw [zb]
  split
  ·rename_i hlt
   simp only [ltD, decide_eq_true_eq] at hlt
   refine List.pairwise_cons.2 ⟨fun y hy => ?_, List.pairwise_cons.2 h⟩
   rcases List.mem_cons.1 hy with rfl | hy
   ·unfold leD; omega
   ·have := h.1 y hy; unfold leD at *; omega
  ·rename_i hlt
   simp only [ltD, decide_eq_true_eq] at hlt
   refine List.pairwise_cons.2 ⟨fun y hy => ?_, Yy r d h.2⟩
   rcases List.mem_cons.1 ((Jg r d).mem_iff.1 hy) with rfl | hy
   ·unfold leD; omega
   ·exact h.1 y hy
theorem zw : ∀ (l a : List Due), a.Pairwise leD -> (l.foldl zb a).Perm (l ++ a) ∧ (l.foldl zb a).Pairwise leD
 | [], a, h => ⟨List.Perm.refl _, h⟩
 | x :: l, a, h => by
  obtain ⟨h1, h2⟩ := zw l (zb a x) (Yy a x h)
  refine ⟨h1.trans (((Jg a x).append_left l).trans ?_), h2⟩
  exact List.perm_middle
theorem qK (l : List Due) : (jO l).Perm l := by simpa [jO] using (zw l [] List.Pairwise.nil).1
theorem wD (l : List Due) : (jO l).Pairwise leD := (zw l [] List.Pairwise.nil).2
theorem xf {l r : List Due} (h1 : r.Perm l) (h2 : r.Pairwise leD) : r = jO l :=
 List.Perm.eq_of_pairwise (le := leD) (fun a b _ _ h3 h4 => j1t h3 h4) h2 (wD l) (h1.trans (qK l).symm)
theorem wC (l : List Due) : (jO l).length = l.length := (qK l).length_eq
theorem ZM (l : List Due) (k : Nat) (h : k < l.length) : jO (l.take (k + 1)) = zb (jO (l.take k)) (l.getD k default) := by
 rw [List.take_succ_eq_append_getElem h, jO, List.foldl_append]
 simp [jO, h]
structure Gt where
 per : Int
 last : Int
 op : Bool
instance : Inhabited Gt := ⟨⟨0, 0, false⟩⟩
def J8 (t : Task) : Int := if jt t = true ∧ t.kind = 2 then t.period else 0
def JY (g : Gt) (x : Int) : Bool := decide (0 <= x ∧ 1 <= g.per) && (!g.op || decide (g.last <= x ∧ g.per <= x - g.last))
def qz (l : List Task) : List Gt := l.map fun t => ⟨J8 t, 0, false⟩
structure S27 where
 gs : List Gt
 lt : List Due
 rf : List Due
def okA (ticks : Int) (s : S27) (d : Due) : Bool := decide (0 <= d.task ∧ d.task < s.gs.length ∧ d.at_ < ticks) && JY (s.gs.getD d.task.toNat default) d.at_
def vR (ticks : Int) (s : S27) (d : Due) : S27 := if okA ticks s d then ⟨s.gs.set d.task.toNat ⟨(s.gs.getD d.task.toNat default).per, d.at_, true⟩, s.lt ++ [d], s.rf⟩ else ⟨s.gs, s.lt, s.rf ++ [d]⟩
def wH (t : Task) (lim : Int) : Nat := if jt t = true ∧ t.kind = 1 then (vg (lim - t.offset) t.period).toNat else 0
def VC (t : Task) (i k : Nat) : Due := ⟨t.offset + k * t.period, i⟩
def xT (t : Task) (i n : Nat) : List Due := (List.range n).map (VC t i)
def xZ (l : List Task) (lim : Int) (i : Nat) : List Due := (List.range i).flatMap fun j => xT (l.getD j default) j (wH (l.getD j default) lim)
def yg (l : List Task) (asks : List Due) (ticks : Int) : S27 := asks.foldl (vR ticks) ⟨qz l, xZ l ticks l.length, []⟩
def zj (l : List Task) (asks : List Due) (ticks : Int) : List Due × List Due := (jO (yg l (jO asks) ticks).lt, (yg l (jO asks) ticks).rf)
theorem j16 (t : Task) (i n : Nat) : xT t i (n + 1) = xT t i n ++ [VC t i n] := by simp [xT, List.range_succ]
theorem Ye (t : Task) (i n : Nat) : (xT t i n).length = n := by simp [xT]
theorem Vf (l : List Task) (lim : Int) (i : Nat) : xZ l lim (i + 1) = xZ l lim i ++ xT (l.getD i default) i (wH (l.getD i default) lim) := by simp [xZ, List.range_succ]
theorem xW {t : Task} {lim : Int} (h : jt t = true) (hk : t.kind = 1) (k : Nat) : k < wH t lim ↔ t.offset + k * t.period < lim := by
 obtain ⟨_, _, h3, h4, _, _⟩ := qL h
 rw [wH, if_pos ⟨h, hk⟩, vg]
 split
 ·rename_i hc
  have h5 : 0 <= (k : Int) * t.period := Int.mul_nonneg (by omega) (by omega)
  constructor
  ·intro h; simp at h
  ·intro h; omega
 ·rename_i hc
  have h6 := Int.ediv_nonneg (show 0 <= lim - t.offset - 1 by omega) (show 0 <= t.period by omega)
  have h7 : (k : Int) <= (lim - t.offset - 1) / t.period ↔ (k : Int) * t.period <= lim - t.offset - 1 := Int.le_ediv_iff_mul_le (by omega)
  omega
theorem xH {t : Task} {lim : Int} (h : ¬(jt t = true ∧ t.kind = 1)) : wH t lim = 0 := by rw [wH, if_neg h]
theorem Jo (t : Task) (lim : Int) (m : Nat) (hm : lim <= m) : wH t lim <= m := by
 by_cases h : jt t = true ∧ t.kind = 1
 ·have h1 := xW (lim := lim) h.1 h.2 m
  obtain ⟨_, _, h3, h4, _, _⟩ := qL h.1
  have h5 : (m : Int) <= (m : Int) * t.period := by
   have := Int.mul_le_mul_of_nonneg_left (show (1 : Int) <= t.period by omega) (show (0 : Int) <= m by omega)
   omega
  omega
 ·rw [xH h]; omega
theorem YN (l : List Task) (lim : Int) (m : Nat) (hm : lim <= m) : ∀ i, (xZ l lim i).length <= i * m
 | 0 => by simp [xZ]
 | i + 1 => by
  have h1 := YN l lim m hm i
  have h2 := Jo (l.getD i default) lim m hm
  rw [Vf, List.length_append, Ye, Nat.add_mul]
  omega
theorem j3P {t : Task} (h : jt t = true) (hk : t.kind = 1) (k : Nat) (hl : t.offset + k * t.period <= 1000000) : qs t (t.offset + k * t.period + 1) = t.offset + (k + 1 : Nat) * t.period := by
 obtain ⟨_, _, h3, h4, _, _⟩ := qL h
 have h5 : 0 <= (k : Int) * t.period := Int.mul_nonneg (by omega) (by omega)
 have e1 : vg (t.offset + k * t.period + 1 - t.offset) t.period = k + 1 := by
  rw [vg, if_neg (by omega), show t.offset + k * t.period + 1 - t.offset - 1 = k * t.period by omega, Int.mul_ediv_cancel _ (by omega)]
 have e2 : ((k + 1 : Nat) : Int) * t.period = k * t.period + t.period := by
  rw [show ((k + 1 : Nat) : Int) = (k : Int) + 1 by omega, Int.add_mul, Int.one_mul]
 have e3 : ¬ (t.offset + k * t.period + 1 <= t.offset) := by omega
 rw [qs, if_pos ⟨h, hk, by omega⟩]
 simp only [if_neg e3]
 rw [e1, show ((k : Int) + 1) * t.period = ((k + 1 : Nat) : Int) * t.period by rfl, e2, if_neg (by omega)]
theorem j5D {t : Task} (h : jt t = true) (hk : t.kind = 1) : qs t 0 = t.offset := by
 obtain ⟨_, _, h3, h4, _, _⟩ := qL h
 have e3 : (0 : Int) <= t.offset := by omega
 rw [qs, if_pos ⟨h, hk, by omega⟩]
 simp only [if_pos e3]
 rw [if_neg (by omega)]
theorem j2f {t : Task} (h : ¬(jt t = true ∧ t.kind = 1)) (x : Int) : qs t x = -1 := by
 rw [qs, if_neg fun h' => h ⟨h'.1, h'.2.1⟩]
theorem j2X (l : List Task) (asks : List Due) (ticks : Int) (k : Nat) (h : k < asks.length) : yg l (asks.take (k + 1)) ticks = vR ticks (yg l (asks.take k) ticks) (asks.getD k default) := by
 rw [List.take_succ_eq_append_getElem h, yg, List.foldl_append]
 simp [yg, h]
theorem j3F (ticks : Int) (s : S27) (d : Due) : (vR ticks s d).lt.length + (vR ticks s d).rf.length = s.lt.length + s.rf.length + 1 := by
 unfold vR; split <;> simp <;> omega
structure Inv (l : List Task) (ticks : Int) (s : S27) : Prop where
 len : s.gs.length = l.length
 per : ∀ j, j < l.length -> (s.gs.getD j default).per = J8 (l.getD j default)
 low : ∀ j, j < l.length -> 0 <= (s.gs.getD j default).last ∧ ((s.gs.getD j default).op = true -> (s.gs.getD j default).last < ticks)
 mem : ∀ d ∈ s.lt, 0 <= d.task ∧ d.task < l.length ∧ 0 <= d.at_ ∧ d.at_ < ticks ∧ 1 <= (l.getD d.task.toNat default).period
 gate : ∀ d ∈ s.lt, 1 <= J8 (l.getD d.task.toNat default) -> (s.gs.getD d.task.toNat default).op = true ∧ d.at_ <= (s.gs.getD d.task.toNat default).last
 apart : s.lt.Pairwise fun a b => a.task = b.task -> a.at_ + (l.getD a.task.toNat default).period <= b.at_
theorem j0N (t : Task) : J8 t = 0 ∨ J8 t = t.period ∧ 1 <= t.period ∧ t.period <= 1048576 ∧ jt t = true ∧ t.kind = 2 := by
 unfold J8
 split
 ·rename_i h; have := qL h.1; exact .inr ⟨rfl, by omega, by omega, h.1, h.2⟩
 ·exact .inl rfl
theorem j6q (l : List Task) (ticks : Int) : Inv l ticks ⟨qz l, xZ l ticks l.length, []⟩ := by
 have hg : ∀ j, j < l.length -> (qz l).getD j default = ⟨J8 (l.getD j default), 0, false⟩ := fun j hj => by simp [qz, hj]
 have hm : ∀ j d, d ∈ xT (l.getD j default) j (wH (l.getD j default) ticks) -> d.task = j ∧ ∃ k, d.at_ = (l.getD j default).offset + (k : Nat) * (l.getD j default).period ∧ (jt (l.getD j default) = true ∧ (l.getD j default).kind = 1) ∧ d.at_ < ticks := fun j d hd => by
  obtain ⟨k, hk, rfl⟩ := List.mem_map.1 hd
  rw [List.mem_range] at hk
  by_cases hp : jt (l.getD j default) = true ∧ (l.getD j default).kind = 1
  ·exact ⟨rfl, k, rfl, hp, (xW hp.1 hp.2 k).1 hk⟩
  ·rw [xH hp] at hk; omega
 have hmm : ∀ d, d ∈ xZ l ticks l.length -> ∃ j, j < l.length ∧ d ∈ xT (l.getD j default) j (wH (l.getD j default) ticks) := fun d hd => by
  obtain ⟨j, hj, hd⟩ := List.mem_flatMap.1 hd
  exact ⟨j, List.mem_range.1 hj, hd⟩
 refine ⟨by simp [qz], fun j hj => by rw [hg j hj], fun j hj => by rw [hg j hj]; exact ⟨Int.le_refl 0, fun h => by cases h⟩, fun d hd => ?_, fun d hd h1 => ?_, ?_⟩
 ·obtain ⟨j, hj, hd⟩ := hmm d hd
  obtain ⟨e1, k, e2, hp, e3⟩ := hm j d hd
  obtain ⟨_, _, h3, h4, _, _⟩ := qL hp.1
  have h5 : 0 <= (k : Int) * (l.getD j default).period := Int.mul_nonneg (by omega) (by omega)
  rw [e1, show ((j : Int).toNat) = j by omega]
  exact ⟨by omega, by omega, by omega, e3, h3.1⟩
 ·exfalso
  obtain ⟨j, hj, hd⟩ := hmm d hd
  obtain ⟨e1, k, e2, hp, e3⟩ := hm j d hd
  rw [e1, show ((j : Int).toNat) = j by omega] at h1
  rcases j0N (l.getD j default) with h2 | h2
  ·omega
  ·omega
 ·show (xZ l ticks l.length).Pairwise _
  rw [xZ, List.pairwise_flatMap]
  refine ⟨fun j hj => ?_, List.pairwise_lt_range.imp_of_mem fun {a b} ha hb hab x hx y hy he => ?_⟩
  ·by_cases hp : jt (l.getD j default) = true ∧ (l.getD j default).kind = 1
   ·obtain ⟨_, _, h3, h4, _, _⟩ := qL hp.1
    rw [xT, List.pairwise_map]
    refine List.pairwise_lt_range.imp fun {a b} hab _ => ?_
    simp only [VC]
    rw [show ((j : Int).toNat) = j by omega]
    have h5 := Int.mul_le_mul_of_nonneg_right (show ((a : Int) + 1) <= b by omega) (show 0 <= (l.getD j default).period by omega)
    rw [Int.add_mul, Int.one_mul] at h5
    omega
   ·rw [xH hp]; simp [xT]
  ·have h1 := (hm a x hx).1
   have h2 := (hm b y hy).1
   omega
theorem j3I {l : List Task} {ticks : Int} {s : S27} (h : Inv l ticks s) (d : Due) : Inv l ticks (vR ticks s d) := by
 unfold vR
 split
 case isFalse => exact ⟨h.len, h.per, h.low, h.mem, h.gate, h.apart⟩
 rename_i hok
 simp only [okA, JY, Bool.and_eq_true, decide_eq_true_eq, Bool.or_eq_true, Bool.not_eq_true'] at hok
 obtain ⟨⟨h1, h2, h3⟩, ⟨h4, h5⟩, h6⟩ := hok
 rw [h.len] at h2
 obtain ⟨j, hj⟩ : ∃ j : Nat, d.task = j := ⟨d.task.toNat, by omega⟩
 have hjn : d.task.toNat = j := by omega
 have hjl : j < l.length := by omega
 rw [hjn] at h5 h6 ⊢
 have hp := h.per j hjl
 rw [hp] at h5
 have hset : ∀ i, i < l.length -> (s.gs.set j ⟨(s.gs.getD j default).per, d.at_, true⟩).getD i default = if i = j then ⟨(s.gs.getD j default).per, d.at_, true⟩ else s.gs.getD i default := fun i hi => by
  have hi' : i < s.gs.length := by rw [h.len]; exact hi
  simp only [List.getD_eq_getElem?_getD, List.getElem?_set, hi']
  split
  ·rename_i e; subst e; simp [hi']
  ·rename_i e; rw [if_neg (fun e' => e e'.symm)]
 have hpp : 1 <= (l.getD j default).period ∧ J8 (l.getD j default) = (l.getD j default).period := by
  rcases j0N (l.getD j default) with h8 | h8
  ·omega
  ·exact ⟨h8.2.1, h8.1⟩
 refine ⟨by simp [h.len], fun i hi => ?_, fun i hi => ?_, fun e he => ?_, fun e he h8 => ?_, ?_⟩
 ·simp only
  rw [hset i hi]
  split
  ·rename_i e; subst e; exact hp
  ·exact h.per i hi
 ·simp only
  rw [hset i hi]
  split
  ·exact ⟨h4, fun _ => h3⟩
  ·exact h.low i hi
 ·simp only at he
  rcases List.mem_append.1 he with he | he
  ·exact h.mem e he
  ·rw [List.mem_singleton] at he
   subst he
   rw [hjn]
   exact ⟨h1, by omega, h4, h3, hpp.1⟩
 ·simp only at he ⊢
  rcases List.mem_append.1 he with he | he
  ·have h9 := h.mem e he
   have h10 := h.gate e he h8
   rw [hset _ (by omega)]
   split
   ·rename_i e2
    refine ⟨rfl, ?_⟩
    simp only
    rw [e2] at h10
    rcases h6 with h6 | h6
    ·rw [h6] at h10; exact absurd h10.1 Bool.false_ne_true
    ·omega
   ·exact h10
  ·rw [List.mem_singleton] at he
   subst he
   rw [hset _ (by omega), if_pos hjn]
   exact ⟨rfl, Int.le_refl _⟩
 ·simp only
  refine List.pairwise_append.2 ⟨h.apart, List.pairwise_singleton _ _, fun a ha b hb hab => ?_⟩
  rw [List.mem_singleton] at hb
  subst hb
  rw [hab, hjn]
  have h9 := h.gate a ha (by rw [hab, hjn]; omega)
  rw [hab, hjn] at h9
  rcases h6 with h6 | h6
  ·rw [h6] at h9; exact absurd h9.1 Bool.false_ne_true
  ·rw [hp] at h6; omega
theorem YK {l : List Task} {ticks : Int} : ∀ (asks : List Due) (s : S27), Inv l ticks s -> Inv l ticks (asks.foldl (vR ticks) s)
 | [], s, h => h
 | d :: r, s, h => YK r _ (j3I h d)
theorem j54 (l : List Task) (asks : List Due) (ticks : Int) : Inv l ticks (yg l asks ticks) := YK asks _ (j6q l ticks)
theorem j0A (l : List Task) (ticks : Int) : ∀ (asks : List Due) (s : S27), (asks.foldl (vR ticks) s).lt.length + (asks.foldl (vR ticks) s).rf.length = s.lt.length + s.rf.length + asks.length
 | [], s => rfl
 | d :: r, s => by
  have h1 := j0A l ticks r (vR ticks s d)
  have h2 := j3F ticks s d
  rw [List.foldl_cons, h1, List.length_cons]
  omega
end Go.Proofs.YtfjoaeghnfkdlaaGreatDoor
