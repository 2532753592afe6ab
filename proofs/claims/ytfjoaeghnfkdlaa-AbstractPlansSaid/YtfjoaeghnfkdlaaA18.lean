/- slices.SortStableFunc, with a closure: the whole. Printed by gensort.py. No condition. -/
import Derived.Test.YtfjoaeghnfkdlaaA17
import Derived.Test.YtfjoaeghnfkdlaaA13
import Derived.Test.YtfjoaeghnfkdlaaA8
import Derived.Test.YtfjoaeghnfkdlaaA9
set_option linter.unusedSimpArgs false
set_option linter.unusedVariables false
set_option maxHeartbeats 1000000
namespace Go.Proofs.Ytfjoaeghnfkdlaa
set_option maxRecDepth 100000
set_option maxRecDepth 100000
open Go.RowKit
set_option maxHeartbeats 8000000 in
theorem sm_Due (fc : FuncId) (c : Due → Due → Int) (p : Due → Prop) (hs : SWO (ltcDue c)) (hF : ∀ x y, p x → p y → Fn Try.prog fc ([(fun x : Due => AV.agg (eDue x)) x, (fun x : Due => AV.agg (eDue x)) y] ++ []) (.int .i64 (c x y))) : ∀ (N : Nat) (pp xx yy ss : List Due), xx.length + yy.length ≤ N → (∀ x ∈ xx, p x) → (∀ x ∈ yy, p x) → Srt (ltcDue c) xx → Srt (ltcDue c) yy → 0 < xx.length → 0 < yy.length → ∀ (a m b : Int), a = pp.length → m = pp.length + xx.length → b = pp.length + xx.length + yy.length → pp.length + xx.length + yy.length + ss.length ≤ 1000000000 →
    FnH Try.prog 111 [.own 4, .int .i64 a, .int .i64 m, .int .i64 b, .fn (.func fc) [] []] [(4, .row 41 2 ((pp ++ xx ++ yy ++ ss).map eDue))]
    (fun r h' => r = .tup [] ∧ ∃ xx', StS (ltcDue c) (xx ++ yy) xx' ∧ h' = [(4, .row 41 2 ((pp ++ xx' ++ ss).map eDue))]) := by
  intro N
  induction N with
  | zero => intro pp xx yy ss hN _ _ _ _ h1 h2; omega
  | succ N ih =>
  intro pp xx yy ss hN hp hp' hx hy h1 h2 a m b ha hm hb hl
  by_cases hx1 : xx.length = 1
  · match xx, hx1 with
    | [x], hx1 => exact sm1_Due fc  c p hs hF pp yy ss x (hp x List.mem_cons_self) hp' hy a m b ha (by simpa using hm) (by simpa using hb) (by simp only [List.length_cons, List.length_nil] at hl; omega)
  by_cases hy1 : yy.length = 1
  · match yy, hy1 with
    | [y], hy1 => exact sm2_Due fc  c p hs hF pp xx ss y (hp' y List.mem_cons_self) hp hx hx1 a m b ha hm (by simpa using hb) (by simp only [List.length_cons, List.length_nil] at hl; omega)
  refine fnhb Try.func111 (entered_of (by kernel_rfl)) rfl rfl ?_
  subst ha hm hb
  obtain ⟨M, hM⟩ : ∃ M, M = pp ++ xx ++ yy ++ ss := ⟨_, rfl⟩
  have hlM : M.length = pp.length + xx.length + yy.length + ss.length := by rw [hM]; simp; omega
  obtain ⟨h, hh⟩ : ∃ h, h = (xx.length + yy.length) / 2 := ⟨_, rfl⟩
  obtain ⟨mid, hmid⟩ : ∃ mid, mid = pp.length + h := ⟨_, rfl⟩
  rw [← hM]
  rcases Nat.lt_or_ge h xx.length with hcs | hcs
  all_goals
    repeat' (first | refine sA ?_ | ((first | apply kM | apply kN); (iterate 3 (· exact rfl)); (· first | (show Y _ ⟨_, .binOp .shr _ _ _ _, _, _, _, _⟩ _ _ _; first | exact q_half mid rfl rfl (Or.inl rfl) (by omega) (by omega) | exact q_half mid rfl rfl (Or.inr rfl) (by omega) (by omega)) | exact ya)) | refine sG ?_ | (refine sK ?_ ?_ <;> intro hc <;> (try simp only [KL, sL, reduceCtorEq] at hc) <;> (try (have hT : True := hc; clear hT hc)) <;> (try (exfalso; omega))))
    all_goals first | (exfalso; omega) | skip
    refine wloop (fun z : Nat × Nat => ([(0, .own 4), (1, .int .i64 pp.length), (2, .int .i64 (pp.length + xx.length)), (3, .int .i64 (pp.length + xx.length + yy.length)), (4, .fn (.func fc) [] []), (18, .int .i64 mid), (19, .int .i64 (mid + (pp.length + xx.length))), (20, .int .i64 (pp.length + z.1)), (21, .int .i64 (pp.length + z.2)), (22, .int .i64 (mid + (pp.length + xx.length) - 1))], [(4, .row 41 2 (M.map eDue))]))
      (fun z => z.1 ≤ z.2 ∧ z.2 ≤ h ∧ z.2 ≤ xx.length ∧ h - yy.length ≤ z.1 ∧ (∀ k, k < z.1 → h - yy.length ≤ k → ltcDue c (yy.getD (h - 1 - k) default) (xx.getD k default) = false) ∧ (∀ k, z.2 ≤ k → k < h → k < xx.length → ltcDue c (yy.getD (h - 1 - k) default) (xx.getD k default) = true)) (fun z => z.2 - z.1) (h - yy.length, min h xx.length)
      ⟨by simp only; omega, by simp only; omega, by simp only; omega, Nat.le_refl _, fun k h h' => absurd h' (Nat.not_le.2 h), fun k q q' q'' => by simp only at q; omega⟩ les leh (fun z hz => ?_)
    obtain ⟨i, j⟩ := z
    obtain ⟨k1, k2, k2', k2'', k3, k4⟩ := hz
    simp only at k1 k2 k2' k2'' k3 k4 ⊢
    rcases Nat.lt_or_eq_of_le k1 with hij | hij
    · obtain ⟨q, hq⟩ : ∃ q, q = (2 * pp.length + i + j) / 2 - pp.length := ⟨_, rfl⟩
      obtain ⟨kq, hkq⟩ : ∃ k, k = pp.length + q := ⟨_, rfl⟩
      obtain ⟨kp, hkp⟩ : ∃ k, k = pp.length + xx.length + (h - 1 - q) := ⟨_, rfl⟩
      have hqj : q < j := by omega
      have qq : M.getD kq default = xx.getD q default := by rw [hM]; exact seg1 (by omega) hkq
      have qp : M.getD kp default = yy.getD (h - 1 - q) default := by rw [hM]; exact seg2 (by omega) hkp
      have hc1 := hF (yy.getD (h - 1 - q) default) (xx.getD q default) (hp' _ (getD_mem (by omega))) (hp _ (getD_mem (by omega)))
      repeat' (first | refine sA ?_ | ((first | apply kM | apply kN); (iterate 3 (· exact rfl)); (· first | (show Y _ ⟨_, .indexAddr _ _ _, _, _, _, _⟩ _ _ _; first | exact q_ioE (kq) rfl rfl rfl rfl rfl rfl (by omega) (by omega) | exact q_ioE (kp) rfl rfl rfl rfl rfl rfl (by omega) (by omega)) | (show Y _ ⟨_, .load _ _, _, _, _, _⟩ _ _ _; first | exact q_pE' qq | exact q_pE' qp) | (show Y _ ⟨_, .binOp .shr _ _ _ _, _, _, _, _⟩ _ _ _; first | exact q_half kq rfl rfl (Or.inl rfl) (by omega) (by omega) | exact q_half kq rfl rfl (Or.inr rfl) (by omega) (by omega)) | exact ya | exact q_c (hc1) rfl)) | refine sG ?_ | (refine sK ?_ ?_ <;> intro hc <;> (try simp only [KL, sL, reduceCtorEq] at hc) <;> (try (have hT : True := hc; clear hT hc)) <;> (try (exfalso; omega))))
      all_goals first | (exfalso; omega) | skip
      · have n1 : ltcDue c (yy.getD (h - 1 - q) default) (xx.getD q default) = false := decide_eq_false (by omega)
        exact ⟨(q + 1, j), ⟨by simp only; omega, k2, k2', by simp only; omega, fun k h5 h6 => mono1' hs hy (i := h - 1 - q) (by simp only at h5; omega) (by omega) (mono2 hs hx (j := q) (by simp only at h5; omega) (by omega) n1), k4⟩, by simp only; omega, les, leh⟩
      · have n1 : ltcDue c (yy.getD (h - 1 - q) default) (xx.getD q default) = true := decide_eq_true (by omega)
        exact ⟨(i, q), ⟨by simp only; omega, by simp only; omega, by simp only; omega, k2'', k3, fun k h5 h6 h7 => mono1 hs hy (j := h - 1 - q) (by simp only at h5; omega) (by omega) (mono2' hs hx (i := q) h5 h7 n1)⟩, by simp only; omega, les, leh⟩
    · subst hij
      obtain ⟨x1, x2, e1, l1, hx1', hx2', px1, px2⟩ : ∃ x1 x2, xx = x1 ++ x2 ∧ x1.length = i ∧ x1 = xx.take i ∧ x2 = xx.drop i ∧ (∀ x ∈ x1, p x) ∧ (∀ x ∈ x2, p x) :=
        ⟨xx.take i, xx.drop i, (tdl _ _).symm, by rw [List.length_take]; omega, rfl, rfl, fun x hx => hp x (List.mem_of_mem_take hx), fun x hx => hp x (List.mem_of_mem_drop hx)⟩
      obtain ⟨y1, y2, e2, l2, hy1', hy2', py1, py2⟩ : ∃ y1 y2, yy = y1 ++ y2 ∧ y1.length = h - i ∧ y1 = yy.take (h - i) ∧ y2 = yy.drop (h - i) ∧ (∀ x ∈ y1, p x) ∧ (∀ x ∈ y2, p x) :=
        ⟨yy.take (h - i), yy.drop (h - i), (tdl _ _).symm, by rw [List.length_take]; omega, rfl, rfl, fun x hx => hp' x (List.mem_of_mem_take hx), fun x hx => hp' x (List.mem_of_mem_drop hx)⟩
      have sx1 : Srt (ltcDue c) x1 := hx1' ▸ hx.take i
      have sx2 : Srt (ltcDue c) x2 := hx2' ▸ hx.drop i
      have sy1 : Srt (ltcDue c) y1 := hy1' ▸ hy.take _
      have sy2 : Srt (ltcDue c) y2 := hy2' ▸ hy.drop _
      have hparts : ∀ L R, StS (ltcDue c) (x1 ++ y1) L → StS (ltcDue c) (x2 ++ y2) R → StS (ltcDue c) (xx ++ yy) (L ++ R) := fun L R hL hR => by
        rw [hx1', hy1'] at hL
        rw [hx2', hy2'] at hR
        exact sm_parts hs hx hy hh k2'' k2 k2' k3 k4 hL hR
      have n1 : x1.length + x2.length = xx.length := by rw [e1]; simp
      have n2 : y1.length + y2.length = yy.length := by rw [e2]; simp
      have eM : M = pp ++ x1 ++ x2 ++ y1 ++ (y2 ++ ss) := by rw [hM, e1, e2]; simp
      clear hM e1 e2 hx1' hx2' hy1' hy2'
      subst eM
      rcases Decidable.em (0 < x2.length ∧ 0 < y1.length) with hR0 | hR0
      · rcases Decidable.em (0 < x1.length ∧ 0 < y1.length) with hA0 | hA0
        · rcases Decidable.em (0 < x2.length ∧ 0 < y2.length) with hB0 | hB0
          · first
            | (exfalso; omega)
            | (repeat' (first | refine sA ?_ | ((first | apply kM | apply kN); (iterate 3 (· exact rfl)); (· first | exact ya)) | refine sG ?_ | (refine sK ?_ ?_ <;> intro hc <;> (try simp only [KL, sL, reduceCtorEq] at hc) <;> (try (have hT : True := hc; clear hT hc)) <;> (try (exfalso; omega))))
               all_goals first | (exfalso; omega) | skip
               refine zcall (fun i => i) (rot_Due fc  (pp ++ x1) x2 y1 (y2 ++ ss) _ _ _ (by simp only [List.length_append]; omega) (by simp only [List.length_append]; omega) (by simp only [List.length_append]; omega) (by omega) (by omega) (by simp only [List.length_append]; omega)) rfl rfl leh rfl rfl rfl rfl rfl rfl (fun r h' hR => ?_)
               obtain ⟨rfl, rfl⟩ := hR
               refine ⟨rfl, rfl, ?_⟩
               rw [show pp ++ x1 ++ y1 ++ x2 ++ (y2 ++ ss) = pp ++ x1 ++ y1 ++ (x2 ++ (y2 ++ ss)) by simp]
               repeat' (first | refine sA ?_ | ((first | apply kM | apply kN); (iterate 3 (· exact rfl)); (· first | exact ya)) | refine sG ?_ | (refine sK ?_ ?_ <;> intro hc <;> (try simp only [KL, sL, reduceCtorEq] at hc) <;> (try (have hT : True := hc; clear hT hc)) <;> (try (exfalso; omega))))
               all_goals first | (exfalso; omega) | skip
               refine zcall (fun i => i) (ih pp x1 y1 (x2 ++ (y2 ++ ss)) (by omega) px1 py1 sx1 sy1 (by omega) (by omega) _ _ _ (by omega) (by omega) (by omega) (by simp only [List.length_append]; omega)) rfl rfl leh rfl rfl rfl rfl rfl rfl (fun r h' hR => ?_)
               obtain ⟨rfl, M1, hM1, rfl⟩ := hR
               refine ⟨rfl, rfl, ?_⟩
               have lM1 : M1.length = x1.length + y1.length := by have := hM1.1.len; rwa [List.length_append] at this
               rw [show pp ++ M1 ++ (x2 ++ (y2 ++ ss)) = pp ++ M1 ++ x2 ++ y2 ++ ss by simp]
               repeat' (first | refine sA ?_ | ((first | apply kM | apply kN); (iterate 3 (· exact rfl)); (· first | exact ya)) | refine sG ?_ | (refine sK ?_ ?_ <;> intro hc <;> (try simp only [KL, sL, reduceCtorEq] at hc) <;> (try (have hT : True := hc; clear hT hc)) <;> (try (exfalso; omega))))
               all_goals first | (exfalso; omega) | skip
               refine zcall (fun i => i) (ih (pp ++ M1) x2 y2 ss (by omega) px2 py2 sx2 sy2 (by omega) (by omega) _ _ _ (by simp only [List.length_append]; omega) (by simp only [List.length_append]; omega) (by simp only [List.length_append]; omega) (by simp only [List.length_append]; omega)) rfl rfl leh rfl rfl rfl rfl rfl rfl (fun r h' hR => ?_)
               obtain ⟨rfl, M2, hM2, rfl⟩ := hR
               refine ⟨rfl, rfl, ?_⟩
               rw [show pp ++ M1 ++ M2 ++ ss = pp ++ (M1 ++ M2) ++ ss by simp]
               repeat' (first | refine sA ?_ | ((first | apply kM | apply kN); (iterate 3 (· exact rfl)); (· first | exact ya)) | refine sG ?_ | (refine sK ?_ ?_ <;> intro hc <;> (try simp only [KL, sL, reduceCtorEq] at hc) <;> (try (have hT : True := hc; clear hT hc)) <;> (try (exfalso; omega))))
               all_goals first | (exfalso; omega) | skip
               all_goals first | exact retn rfl ⟨rfl, M1 ++ M2, hparts _ _ hM1 hM2, rfl⟩ | exact retq rfl ⟨rfl, M1 ++ M2, hparts _ _ hM1 hM2, rfl⟩)
          · first
            | (exfalso; omega)
            | (repeat' (first | refine sA ?_ | ((first | apply kM | apply kN); (iterate 3 (· exact rfl)); (· first | exact ya)) | refine sG ?_ | (refine sK ?_ ?_ <;> intro hc <;> (try simp only [KL, sL, reduceCtorEq] at hc) <;> (try (have hT : True := hc; clear hT hc)) <;> (try (exfalso; omega))))
               all_goals first | (exfalso; omega) | skip
               refine zcall (fun i => i) (rot_Due fc  (pp ++ x1) x2 y1 (y2 ++ ss) _ _ _ (by simp only [List.length_append]; omega) (by simp only [List.length_append]; omega) (by simp only [List.length_append]; omega) (by omega) (by omega) (by simp only [List.length_append]; omega)) rfl rfl leh rfl rfl rfl rfl rfl rfl (fun r h' hR => ?_)
               obtain ⟨rfl, rfl⟩ := hR
               refine ⟨rfl, rfl, ?_⟩
               rw [show pp ++ x1 ++ y1 ++ x2 ++ (y2 ++ ss) = pp ++ x1 ++ y1 ++ (x2 ++ (y2 ++ ss)) by simp]
               repeat' (first | refine sA ?_ | ((first | apply kM | apply kN); (iterate 3 (· exact rfl)); (· first | exact ya)) | refine sG ?_ | (refine sK ?_ ?_ <;> intro hc <;> (try simp only [KL, sL, reduceCtorEq] at hc) <;> (try (have hT : True := hc; clear hT hc)) <;> (try (exfalso; omega))))
               all_goals first | (exfalso; omega) | skip
               refine zcall (fun i => i) (ih pp x1 y1 (x2 ++ (y2 ++ ss)) (by omega) px1 py1 sx1 sy1 (by omega) (by omega) _ _ _ (by omega) (by omega) (by omega) (by simp only [List.length_append]; omega)) rfl rfl leh rfl rfl rfl rfl rfl rfl (fun r h' hR => ?_)
               obtain ⟨rfl, M1, hM1, rfl⟩ := hR
               refine ⟨rfl, rfl, ?_⟩
               have lM1 : M1.length = x1.length + y1.length := by have := hM1.1.len; rwa [List.length_append] at this
               obtain ⟨M2, hM2, eB⟩ : ∃ M2, StS (ltcDue c) (x2 ++ y2) M2 ∧ pp ++ M1 ++ (x2 ++ (y2 ++ ss)) = pp ++ (M1 ++ M2) ++ ss := by
                 refine ⟨x2 ++ y2, .self ?_, by simp⟩
                 rcases Nat.eq_zero_or_pos x2.length with z | z
                 · rw [List.eq_nil_of_length_eq_zero z]; exact sy2
                 · rw [List.eq_nil_of_length_eq_zero (show y2.length = 0 by omega), List.append_nil]; exact sx2
               rw [eB]
               repeat' (first | refine sA ?_ | ((first | apply kM | apply kN); (iterate 3 (· exact rfl)); (· first | exact ya)) | refine sG ?_ | (refine sK ?_ ?_ <;> intro hc <;> (try simp only [KL, sL, reduceCtorEq] at hc) <;> (try (have hT : True := hc; clear hT hc)) <;> (try (exfalso; omega))))
               all_goals first | (exfalso; omega) | skip
               all_goals first | exact retn rfl ⟨rfl, M1 ++ M2, hparts _ _ hM1 hM2, rfl⟩ | exact retq rfl ⟨rfl, M1 ++ M2, hparts _ _ hM1 hM2, rfl⟩)
        · rcases Decidable.em (0 < x2.length ∧ 0 < y2.length) with hB0 | hB0
          · first
            | (exfalso; omega)
            | (repeat' (first | refine sA ?_ | ((first | apply kM | apply kN); (iterate 3 (· exact rfl)); (· first | exact ya)) | refine sG ?_ | (refine sK ?_ ?_ <;> intro hc <;> (try simp only [KL, sL, reduceCtorEq] at hc) <;> (try (have hT : True := hc; clear hT hc)) <;> (try (exfalso; omega))))
               all_goals first | (exfalso; omega) | skip
               refine zcall (fun i => i) (rot_Due fc  (pp ++ x1) x2 y1 (y2 ++ ss) _ _ _ (by simp only [List.length_append]; omega) (by simp only [List.length_append]; omega) (by simp only [List.length_append]; omega) (by omega) (by omega) (by simp only [List.length_append]; omega)) rfl rfl leh rfl rfl rfl rfl rfl rfl (fun r h' hR => ?_)
               obtain ⟨rfl, rfl⟩ := hR
               refine ⟨rfl, rfl, ?_⟩
               obtain ⟨M1, hM1, eA⟩ : ∃ M1, StS (ltcDue c) (x1 ++ y1) M1 ∧ pp ++ x1 ++ y1 ++ x2 ++ (y2 ++ ss) = pp ++ M1 ++ (x2 ++ (y2 ++ ss)) := by
                 refine ⟨x1 ++ y1, .self ?_, by simp⟩
                 rcases Nat.eq_zero_or_pos x1.length with z | z
                 · rw [List.eq_nil_of_length_eq_zero z]; exact sy1
                 · rw [List.eq_nil_of_length_eq_zero (show y1.length = 0 by omega), List.append_nil]; exact sx1
               rw [eA]
               have lM1 : M1.length = x1.length + y1.length := by have := hM1.1.len; rwa [List.length_append] at this
               rw [show pp ++ M1 ++ (x2 ++ (y2 ++ ss)) = pp ++ M1 ++ x2 ++ y2 ++ ss by simp]
               repeat' (first | refine sA ?_ | ((first | apply kM | apply kN); (iterate 3 (· exact rfl)); (· first | exact ya)) | refine sG ?_ | (refine sK ?_ ?_ <;> intro hc <;> (try simp only [KL, sL, reduceCtorEq] at hc) <;> (try (have hT : True := hc; clear hT hc)) <;> (try (exfalso; omega))))
               all_goals first | (exfalso; omega) | skip
               refine zcall (fun i => i) (ih (pp ++ M1) x2 y2 ss (by omega) px2 py2 sx2 sy2 (by omega) (by omega) _ _ _ (by simp only [List.length_append]; omega) (by simp only [List.length_append]; omega) (by simp only [List.length_append]; omega) (by simp only [List.length_append]; omega)) rfl rfl leh rfl rfl rfl rfl rfl rfl (fun r h' hR => ?_)
               obtain ⟨rfl, M2, hM2, rfl⟩ := hR
               refine ⟨rfl, rfl, ?_⟩
               rw [show pp ++ M1 ++ M2 ++ ss = pp ++ (M1 ++ M2) ++ ss by simp]
               repeat' (first | refine sA ?_ | ((first | apply kM | apply kN); (iterate 3 (· exact rfl)); (· first | exact ya)) | refine sG ?_ | (refine sK ?_ ?_ <;> intro hc <;> (try simp only [KL, sL, reduceCtorEq] at hc) <;> (try (have hT : True := hc; clear hT hc)) <;> (try (exfalso; omega))))
               all_goals first | (exfalso; omega) | skip
               all_goals first | exact retn rfl ⟨rfl, M1 ++ M2, hparts _ _ hM1 hM2, rfl⟩ | exact retq rfl ⟨rfl, M1 ++ M2, hparts _ _ hM1 hM2, rfl⟩)
          · first
            | (exfalso; omega)
            | (repeat' (first | refine sA ?_ | ((first | apply kM | apply kN); (iterate 3 (· exact rfl)); (· first | exact ya)) | refine sG ?_ | (refine sK ?_ ?_ <;> intro hc <;> (try simp only [KL, sL, reduceCtorEq] at hc) <;> (try (have hT : True := hc; clear hT hc)) <;> (try (exfalso; omega))))
               all_goals first | (exfalso; omega) | skip
               refine zcall (fun i => i) (rot_Due fc  (pp ++ x1) x2 y1 (y2 ++ ss) _ _ _ (by simp only [List.length_append]; omega) (by simp only [List.length_append]; omega) (by simp only [List.length_append]; omega) (by omega) (by omega) (by simp only [List.length_append]; omega)) rfl rfl leh rfl rfl rfl rfl rfl rfl (fun r h' hR => ?_)
               obtain ⟨rfl, rfl⟩ := hR
               refine ⟨rfl, rfl, ?_⟩
               obtain ⟨M1, hM1, eA⟩ : ∃ M1, StS (ltcDue c) (x1 ++ y1) M1 ∧ pp ++ x1 ++ y1 ++ x2 ++ (y2 ++ ss) = pp ++ M1 ++ (x2 ++ (y2 ++ ss)) := by
                 refine ⟨x1 ++ y1, .self ?_, by simp⟩
                 rcases Nat.eq_zero_or_pos x1.length with z | z
                 · rw [List.eq_nil_of_length_eq_zero z]; exact sy1
                 · rw [List.eq_nil_of_length_eq_zero (show y1.length = 0 by omega), List.append_nil]; exact sx1
               rw [eA]
               have lM1 : M1.length = x1.length + y1.length := by have := hM1.1.len; rwa [List.length_append] at this
               obtain ⟨M2, hM2, eB⟩ : ∃ M2, StS (ltcDue c) (x2 ++ y2) M2 ∧ pp ++ M1 ++ (x2 ++ (y2 ++ ss)) = pp ++ (M1 ++ M2) ++ ss := by
                 refine ⟨x2 ++ y2, .self ?_, by simp⟩
                 rcases Nat.eq_zero_or_pos x2.length with z | z
                 · rw [List.eq_nil_of_length_eq_zero z]; exact sy2
                 · rw [List.eq_nil_of_length_eq_zero (show y2.length = 0 by omega), List.append_nil]; exact sx2
               rw [eB]
               repeat' (first | refine sA ?_ | ((first | apply kM | apply kN); (iterate 3 (· exact rfl)); (· first | exact ya)) | refine sG ?_ | (refine sK ?_ ?_ <;> intro hc <;> (try simp only [KL, sL, reduceCtorEq] at hc) <;> (try (have hT : True := hc; clear hT hc)) <;> (try (exfalso; omega))))
               all_goals first | (exfalso; omega) | skip
               all_goals first | exact retn rfl ⟨rfl, M1 ++ M2, hparts _ _ hM1 hM2, rfl⟩ | exact retq rfl ⟨rfl, M1 ++ M2, hparts _ _ hM1 hM2, rfl⟩)
      · rcases Decidable.em (0 < x1.length ∧ 0 < y1.length) with hA0 | hA0
        · rcases Decidable.em (0 < x2.length ∧ 0 < y2.length) with hB0 | hB0
          · first
            | (exfalso; omega)
            | (have eR : pp ++ x1 ++ x2 ++ y1 ++ (y2 ++ ss) = pp ++ x1 ++ y1 ++ x2 ++ (y2 ++ ss) := by
                 rcases Nat.eq_zero_or_pos x2.length with z | z
                 · rw [List.eq_nil_of_length_eq_zero z]; simp
                 · rw [List.eq_nil_of_length_eq_zero (show y1.length = 0 by omega)]; simp
               rw [eR]
               rw [show pp ++ x1 ++ y1 ++ x2 ++ (y2 ++ ss) = pp ++ x1 ++ y1 ++ (x2 ++ (y2 ++ ss)) by simp]
               repeat' (first | refine sA ?_ | ((first | apply kM | apply kN); (iterate 3 (· exact rfl)); (· first | exact ya)) | refine sG ?_ | (refine sK ?_ ?_ <;> intro hc <;> (try simp only [KL, sL, reduceCtorEq] at hc) <;> (try (have hT : True := hc; clear hT hc)) <;> (try (exfalso; omega))))
               all_goals first | (exfalso; omega) | skip
               refine zcall (fun i => i) (ih pp x1 y1 (x2 ++ (y2 ++ ss)) (by omega) px1 py1 sx1 sy1 (by omega) (by omega) _ _ _ (by omega) (by omega) (by omega) (by simp only [List.length_append]; omega)) rfl rfl leh rfl rfl rfl rfl rfl rfl (fun r h' hR => ?_)
               obtain ⟨rfl, M1, hM1, rfl⟩ := hR
               refine ⟨rfl, rfl, ?_⟩
               have lM1 : M1.length = x1.length + y1.length := by have := hM1.1.len; rwa [List.length_append] at this
               rw [show pp ++ M1 ++ (x2 ++ (y2 ++ ss)) = pp ++ M1 ++ x2 ++ y2 ++ ss by simp]
               repeat' (first | refine sA ?_ | ((first | apply kM | apply kN); (iterate 3 (· exact rfl)); (· first | exact ya)) | refine sG ?_ | (refine sK ?_ ?_ <;> intro hc <;> (try simp only [KL, sL, reduceCtorEq] at hc) <;> (try (have hT : True := hc; clear hT hc)) <;> (try (exfalso; omega))))
               all_goals first | (exfalso; omega) | skip
               refine zcall (fun i => i) (ih (pp ++ M1) x2 y2 ss (by omega) px2 py2 sx2 sy2 (by omega) (by omega) _ _ _ (by simp only [List.length_append]; omega) (by simp only [List.length_append]; omega) (by simp only [List.length_append]; omega) (by simp only [List.length_append]; omega)) rfl rfl leh rfl rfl rfl rfl rfl rfl (fun r h' hR => ?_)
               obtain ⟨rfl, M2, hM2, rfl⟩ := hR
               refine ⟨rfl, rfl, ?_⟩
               rw [show pp ++ M1 ++ M2 ++ ss = pp ++ (M1 ++ M2) ++ ss by simp]
               repeat' (first | refine sA ?_ | ((first | apply kM | apply kN); (iterate 3 (· exact rfl)); (· first | exact ya)) | refine sG ?_ | (refine sK ?_ ?_ <;> intro hc <;> (try simp only [KL, sL, reduceCtorEq] at hc) <;> (try (have hT : True := hc; clear hT hc)) <;> (try (exfalso; omega))))
               all_goals first | (exfalso; omega) | skip
               all_goals first | exact retn rfl ⟨rfl, M1 ++ M2, hparts _ _ hM1 hM2, rfl⟩ | exact retq rfl ⟨rfl, M1 ++ M2, hparts _ _ hM1 hM2, rfl⟩)
          · first
            | (exfalso; omega)
            | (have eR : pp ++ x1 ++ x2 ++ y1 ++ (y2 ++ ss) = pp ++ x1 ++ y1 ++ x2 ++ (y2 ++ ss) := by
                 rcases Nat.eq_zero_or_pos x2.length with z | z
                 · rw [List.eq_nil_of_length_eq_zero z]; simp
                 · rw [List.eq_nil_of_length_eq_zero (show y1.length = 0 by omega)]; simp
               rw [eR]
               rw [show pp ++ x1 ++ y1 ++ x2 ++ (y2 ++ ss) = pp ++ x1 ++ y1 ++ (x2 ++ (y2 ++ ss)) by simp]
               repeat' (first | refine sA ?_ | ((first | apply kM | apply kN); (iterate 3 (· exact rfl)); (· first | exact ya)) | refine sG ?_ | (refine sK ?_ ?_ <;> intro hc <;> (try simp only [KL, sL, reduceCtorEq] at hc) <;> (try (have hT : True := hc; clear hT hc)) <;> (try (exfalso; omega))))
               all_goals first | (exfalso; omega) | skip
               refine zcall (fun i => i) (ih pp x1 y1 (x2 ++ (y2 ++ ss)) (by omega) px1 py1 sx1 sy1 (by omega) (by omega) _ _ _ (by omega) (by omega) (by omega) (by simp only [List.length_append]; omega)) rfl rfl leh rfl rfl rfl rfl rfl rfl (fun r h' hR => ?_)
               obtain ⟨rfl, M1, hM1, rfl⟩ := hR
               refine ⟨rfl, rfl, ?_⟩
               have lM1 : M1.length = x1.length + y1.length := by have := hM1.1.len; rwa [List.length_append] at this
               obtain ⟨M2, hM2, eB⟩ : ∃ M2, StS (ltcDue c) (x2 ++ y2) M2 ∧ pp ++ M1 ++ (x2 ++ (y2 ++ ss)) = pp ++ (M1 ++ M2) ++ ss := by
                 refine ⟨x2 ++ y2, .self ?_, by simp⟩
                 rcases Nat.eq_zero_or_pos x2.length with z | z
                 · rw [List.eq_nil_of_length_eq_zero z]; exact sy2
                 · rw [List.eq_nil_of_length_eq_zero (show y2.length = 0 by omega), List.append_nil]; exact sx2
               rw [eB]
               repeat' (first | refine sA ?_ | ((first | apply kM | apply kN); (iterate 3 (· exact rfl)); (· first | exact ya)) | refine sG ?_ | (refine sK ?_ ?_ <;> intro hc <;> (try simp only [KL, sL, reduceCtorEq] at hc) <;> (try (have hT : True := hc; clear hT hc)) <;> (try (exfalso; omega))))
               all_goals first | (exfalso; omega) | skip
               all_goals first | exact retn rfl ⟨rfl, M1 ++ M2, hparts _ _ hM1 hM2, rfl⟩ | exact retq rfl ⟨rfl, M1 ++ M2, hparts _ _ hM1 hM2, rfl⟩)
        · rcases Decidable.em (0 < x2.length ∧ 0 < y2.length) with hB0 | hB0
          · first
            | (exfalso; omega)
            | (have eR : pp ++ x1 ++ x2 ++ y1 ++ (y2 ++ ss) = pp ++ x1 ++ y1 ++ x2 ++ (y2 ++ ss) := by
                 rcases Nat.eq_zero_or_pos x2.length with z | z
                 · rw [List.eq_nil_of_length_eq_zero z]; simp
                 · rw [List.eq_nil_of_length_eq_zero (show y1.length = 0 by omega)]; simp
               rw [eR]
               obtain ⟨M1, hM1, eA⟩ : ∃ M1, StS (ltcDue c) (x1 ++ y1) M1 ∧ pp ++ x1 ++ y1 ++ x2 ++ (y2 ++ ss) = pp ++ M1 ++ (x2 ++ (y2 ++ ss)) := by
                 refine ⟨x1 ++ y1, .self ?_, by simp⟩
                 rcases Nat.eq_zero_or_pos x1.length with z | z
                 · rw [List.eq_nil_of_length_eq_zero z]; exact sy1
                 · rw [List.eq_nil_of_length_eq_zero (show y1.length = 0 by omega), List.append_nil]; exact sx1
               rw [eA]
               have lM1 : M1.length = x1.length + y1.length := by have := hM1.1.len; rwa [List.length_append] at this
               rw [show pp ++ M1 ++ (x2 ++ (y2 ++ ss)) = pp ++ M1 ++ x2 ++ y2 ++ ss by simp]
               repeat' (first | refine sA ?_ | ((first | apply kM | apply kN); (iterate 3 (· exact rfl)); (· first | exact ya)) | refine sG ?_ | (refine sK ?_ ?_ <;> intro hc <;> (try simp only [KL, sL, reduceCtorEq] at hc) <;> (try (have hT : True := hc; clear hT hc)) <;> (try (exfalso; omega))))
               all_goals first | (exfalso; omega) | skip
               refine zcall (fun i => i) (ih (pp ++ M1) x2 y2 ss (by omega) px2 py2 sx2 sy2 (by omega) (by omega) _ _ _ (by simp only [List.length_append]; omega) (by simp only [List.length_append]; omega) (by simp only [List.length_append]; omega) (by simp only [List.length_append]; omega)) rfl rfl leh rfl rfl rfl rfl rfl rfl (fun r h' hR => ?_)
               obtain ⟨rfl, M2, hM2, rfl⟩ := hR
               refine ⟨rfl, rfl, ?_⟩
               rw [show pp ++ M1 ++ M2 ++ ss = pp ++ (M1 ++ M2) ++ ss by simp]
               repeat' (first | refine sA ?_ | ((first | apply kM | apply kN); (iterate 3 (· exact rfl)); (· first | exact ya)) | refine sG ?_ | (refine sK ?_ ?_ <;> intro hc <;> (try simp only [KL, sL, reduceCtorEq] at hc) <;> (try (have hT : True := hc; clear hT hc)) <;> (try (exfalso; omega))))
               all_goals first | (exfalso; omega) | skip
               all_goals first | exact retn rfl ⟨rfl, M1 ++ M2, hparts _ _ hM1 hM2, rfl⟩ | exact retq rfl ⟨rfl, M1 ++ M2, hparts _ _ hM1 hM2, rfl⟩)
          · first
            | (exfalso; omega)
            | (have eR : pp ++ x1 ++ x2 ++ y1 ++ (y2 ++ ss) = pp ++ x1 ++ y1 ++ x2 ++ (y2 ++ ss) := by
                 rcases Nat.eq_zero_or_pos x2.length with z | z
                 · rw [List.eq_nil_of_length_eq_zero z]; simp
                 · rw [List.eq_nil_of_length_eq_zero (show y1.length = 0 by omega)]; simp
               rw [eR]
               obtain ⟨M1, hM1, eA⟩ : ∃ M1, StS (ltcDue c) (x1 ++ y1) M1 ∧ pp ++ x1 ++ y1 ++ x2 ++ (y2 ++ ss) = pp ++ M1 ++ (x2 ++ (y2 ++ ss)) := by
                 refine ⟨x1 ++ y1, .self ?_, by simp⟩
                 rcases Nat.eq_zero_or_pos x1.length with z | z
                 · rw [List.eq_nil_of_length_eq_zero z]; exact sy1
                 · rw [List.eq_nil_of_length_eq_zero (show y1.length = 0 by omega), List.append_nil]; exact sx1
               rw [eA]
               have lM1 : M1.length = x1.length + y1.length := by have := hM1.1.len; rwa [List.length_append] at this
               obtain ⟨M2, hM2, eB⟩ : ∃ M2, StS (ltcDue c) (x2 ++ y2) M2 ∧ pp ++ M1 ++ (x2 ++ (y2 ++ ss)) = pp ++ (M1 ++ M2) ++ ss := by
                 refine ⟨x2 ++ y2, .self ?_, by simp⟩
                 rcases Nat.eq_zero_or_pos x2.length with z | z
                 · rw [List.eq_nil_of_length_eq_zero z]; exact sy2
                 · rw [List.eq_nil_of_length_eq_zero (show y2.length = 0 by omega), List.append_nil]; exact sx2
               rw [eB]
               repeat' (first | refine sA ?_ | ((first | apply kM | apply kN); (iterate 3 (· exact rfl)); (· first | exact ya)) | refine sG ?_ | (refine sK ?_ ?_ <;> intro hc <;> (try simp only [KL, sL, reduceCtorEq] at hc) <;> (try (have hT : True := hc; clear hT hc)) <;> (try (exfalso; omega))))
               all_goals first | (exfalso; omega) | skip
               all_goals first | exact retn rfl ⟨rfl, M1 ++ M2, hparts _ _ hM1 hM2, rfl⟩ | exact retq rfl ⟨rfl, M1 ++ M2, hparts _ _ hM1 hM2, rfl⟩)
end Go.Proofs.Ytfjoaeghnfkdlaa
namespace Go.Proofs.Ytfjoaeghnfkdlaa
set_option maxRecDepth 100000
set_option maxRecDepth 100000
open Go.RowKit
set_option maxHeartbeats 8000000 in
theorem stb_Due (fc : FuncId) (c : Due → Due → Int) (p : Due → Prop) (hs : SWO (ltcDue c)) (hF : ∀ x y, p x → p y → Fn Try.prog fc ([(fun x : Due => AV.agg (eDue x)) x, (fun x : Due => AV.agg (eDue x)) y] ++ []) (.int .i64 (c x y))) (xx : List Due) (hp : ∀ x ∈ xx, p x) (n : Int) (hn : n = xx.length) (hl : xx.length ≤ 500000000) :
    FnH Try.prog 91 [.own 4, .int .i64 n, .fn (.func fc) [] []] [(4, .row 41 2 (xx.map eDue))]
    (fun r h' => r = .tup [] ∧ ∃ xx', StS (ltcDue c) xx xx' ∧ h' = [(4, .row 41 2 (xx'.map eDue))]) := by
  refine fnhb Try.func91 (entered_of (by kernel_rfl)) rfl rfl ?_
  subst hn
  repeat' (first | refine sA ?_ | ((first | apply kM | apply kN); (iterate 3 (· exact rfl)); (· first | exact ya)) | refine sG ?_ | (refine sK ?_ ?_ <;> intro hc <;> (try simp only [KL, sL, reduceCtorEq] at hc) <;> (try (have hT : True := hc; clear hT hc)) <;> (try (exfalso; omega))))
  refine wloop (fun z : List (List Due) × List Due × List Due => ([(0, .own 4), (1, .int .i64 xx.length), (2, .fn (.func fc) [] []), (6, .int .i64 20), (7, .int .i64 z.2.1.length), (8, .int .i64 (z.2.1.length + 20))], [(4, .row 41 2 ((z.2.1 ++ z.2.2).map eDue))]))
    (fun z => Rch (ltcDue c) xx (z.2.1 ++ z.2.2) ∧ z.2.1 = z.1.flatten ∧ ∀ x ∈ z.1, x.length = 20 ∧ Srt (ltcDue c) x) (fun z => z.2.2.length) ([], [], xx)
    ⟨.refl, rfl, fun x hx => by cases hx⟩ les leh (fun z hz => ?_)
  obtain ⟨cs, dd, ee⟩ := z
  obtain ⟨k1, k2, k3⟩ := hz
  simp only at k1 k2 k3 ⊢
  have k4 : dd.length + ee.length = xx.length := by have := k1.len; rwa [List.length_append] at this
  have hpe : ∀ x ∈ ee, p x := fun x hx => hp x (k1.mem.1 (List.mem_append_right _ hx))
  rcases Nat.lt_or_ge ee.length 20 with h20 | h20
  · rw [show dd ++ ee = dd ++ ee ++ [] by simp]
    repeat' (first | refine sA ?_ | ((first | apply kM | apply kN); (iterate 3 (· exact rfl)); (· first | exact ya)) | refine sG ?_ | (refine sK ?_ ?_ <;> intro hc <;> (try simp only [KL, sL, reduceCtorEq] at hc) <;> (try (have hT : True := hc; clear hT hc)) <;> (try (exfalso; omega))))
    all_goals first | (exfalso; omega) | skip
    refine zcall (fun i => i) (ins_Due fc  c p hs hF dd ee [] hpe _ _ (by omega) (by omega) (by simp only [List.length_nil]; omega)) rfl rfl leh rfl rfl rfl rfl rfl rfl (fun r h' hR => ?_)
    obtain ⟨rfl, e', he', rfl⟩ := hR
    refine ⟨rfl, rfl, ?_⟩
    have l1 := he'.1.len
    repeat' (first | refine sA ?_ | ((first | apply kM | apply kN); (iterate 3 (· exact rfl)); (· first | exact ya)) | refine sG ?_ | (refine sK ?_ ?_ <;> intro hc <;> (try simp only [KL, sL, reduceCtorEq] at hc) <;> (try (have hT : True := hc; clear hT hc)) <;> (try (exfalso; omega))))
    refine wloop (fun z : Nat × List (List Due) × List Due × List Due => ([(0, .own 4), (1, .int .i64 xx.length), (2, .fn (.func fc) [] []), (6, .int .i64 z.1)], [(4, .row 41 2 (z.2.2.1.map eDue))]))
      (fun z => 0 < z.1 ∧ z.1 ≤ 40 + 2 * xx.length ∧ Rch (ltcDue c) xx z.2.2.1 ∧ BS (ltcDue c) z.1 z.2.2.1 z.2.1 z.2.2.2) (fun z => xx.length - z.1) (20, cs, dd ++ e', e')
      ⟨by simp only; omega, by simp only; omega, k1.trans ((Rch.refl (lt := ltcDue c) (l := dd)).app he'.1), ⟨by rw [← k2], k3, by simp only; omega, he'.2⟩⟩ les (by dsimp only; rw [List.append_nil]; exact leh) (fun z hz => ?_)
    obtain ⟨k, cs, bb, e'⟩ := z
    obtain ⟨m1, m2, m3, m4⟩ := hz
    simp only at m1 m2 m3 m4 ⊢
    have m5 : bb.length = xx.length := m3.len
    clear k1 k2 k3 k4 hpe he' l1 h20
    rcases Nat.lt_or_ge k xx.length with hk | hk
    · repeat' (first | refine sA ?_ | ((first | apply kM | apply kN); (iterate 3 (· exact rfl)); (· first | exact ya)) | refine sG ?_ | (refine sK ?_ ?_ <;> intro hc <;> (try simp only [KL, sL, reduceCtorEq] at hc) <;> (try (have hT : True := hc; clear hT hc)) <;> (try (exfalso; omega))))
      all_goals first | (exfalso; omega) | skip
      refine wloop (fun z : List (List Due) × List (List Due) × List Due × List Due × List Due => ([(0, .own 4), (1, .int .i64 xx.length), (2, .fn (.func fc) [] []), (6, .int .i64 k), (7, .int .i64 z.2.2.1.length), (8, .int .i64 (z.2.2.1.length + 2 * k))], [(4, .row 41 2 ((z.2.2.1 ++ z.2.2.2.1).map eDue))]))
        (fun z => Rch (ltcDue c) xx (z.2.2.1 ++ z.2.2.2.1) ∧ z.2.2.1 = z.1.flatten ∧ (∀ x ∈ z.1, x.length = 2 * k ∧ Srt (ltcDue c) x) ∧ BS (ltcDue c) k z.2.2.2.1 z.2.1 z.2.2.2.2) (fun z => z.2.2.2.1.length) ([], cs, [], bb, e')
        ⟨m3, rfl, fun x hx => (by cases hx), m4⟩ les leh (fun z hz => ?_)
      obtain ⟨cs2, cs, dd, bb, e'⟩ := z
      obtain ⟨n1, n2, n3, n4⟩ := hz
      simp only at n1 n2 n3 n4 ⊢
      clear m3 m4 m5
      have n5 : dd.length + bb.length = xx.length := by have := n1.len; rwa [List.length_append] at this
      have hpb : ∀ x ∈ bb, p x := fun x hx => hp x (n1.mem.1 (List.mem_append_right _ hx))
      rcases Nat.lt_or_ge bb.length (2 * k) with h2k | h2k
      · rcases n4.last m1 h2k with ⟨o1, o2⟩ | ⟨o1, c1, c2, rfl, o2, o3, o4⟩
        · repeat' (first | refine sA ?_ | ((first | apply kM | apply kN); (iterate 3 (· exact rfl)); (· first | exact ya)) | refine sG ?_ | (refine sK ?_ ?_ <;> intro hc <;> (try simp only [KL, sL, reduceCtorEq] at hc) <;> (try (have hT : True := hc; clear hT hc)) <;> (try (exfalso; omega))))
          all_goals first | (exfalso; omega) | skip
          exact ⟨(k * 2, cs2, dd ++ bb, bb), ⟨by simp only; omega, by simp only; omega, n1, ⟨by rw [n2], fun x hx => by have := n3 x hx; exact ⟨by simp only; omega, this.2⟩, by simp only; omega, o2⟩⟩, by simp only; omega, les, leh⟩
        · rw [List.length_append] at h2k n5 o1
          rw [show dd ++ (c1 ++ c2) = dd ++ c1 ++ c2 ++ [] by simp]
          repeat' (first | refine sA ?_ | ((first | apply kM | apply kN); (iterate 3 (· exact rfl)); (· first | exact ya)) | refine sG ?_ | (refine sK ?_ ?_ <;> intro hc <;> (try simp only [KL, sL, reduceCtorEq] at hc) <;> (try (have hT : True := hc; clear hT hc)) <;> (try (exfalso; omega))))
          all_goals first | (exfalso; omega) | skip
          refine zcall (fun i => i) (sm_Due fc  c p hs hF _ dd c1 c2 [] (Nat.le_refl _) (fun x hx => hpb x (List.mem_append_left _ hx)) (fun x hx => hpb x (List.mem_append_right _ hx)) o3 o4 (by omega) (by omega) _ _ _ (by omega) (by omega) (by omega) (by simp only [List.length_nil]; omega)) rfl rfl leh rfl rfl rfl rfl rfl rfl (fun r h' hR => ?_)
          obtain ⟨rfl, mm, hmm, rfl⟩ := hR
          refine ⟨rfl, rfl, ?_⟩
          have l1 := hmm.1.len
          rw [List.length_append] at l1
          repeat' (first | refine sA ?_ | ((first | apply kM | apply kN); (iterate 3 (· exact rfl)); (· first | exact ya)) | refine sG ?_ | (refine sK ?_ ?_ <;> intro hc <;> (try simp only [KL, sL, reduceCtorEq] at hc) <;> (try (have hT : True := hc; clear hT hc)) <;> (try (exfalso; omega))))
          all_goals first | (exfalso; omega) | skip
          exact ⟨(k * 2, cs2, dd ++ mm, mm), ⟨by simp only; omega, by simp only; omega, n1.trans ((Rch.refl (lt := ltcDue c) (l := dd)).app hmm.1), ⟨by rw [n2], fun x hx => by have := n3 x hx; exact ⟨by simp only; omega, this.2⟩, by simp only; omega, hmm.2⟩⟩, by simp only; omega, les, by dsimp only; rw [List.append_nil]; exact leh⟩
      · obtain ⟨c1, c2, b', cs', c', rfl, o1, o2, o3, o4, o5⟩ := n4.two m1 h2k
        rw [List.length_append, List.length_append] at h2k n5
        rw [show dd ++ (c1 ++ c2 ++ b') = dd ++ c1 ++ c2 ++ b' by simp]
        repeat' (first | refine sA ?_ | ((first | apply kM | apply kN); (iterate 3 (· exact rfl)); (· first | exact ya)) | refine sG ?_ | (refine sK ?_ ?_ <;> intro hc <;> (try simp only [KL, sL, reduceCtorEq] at hc) <;> (try (have hT : True := hc; clear hT hc)) <;> (try (exfalso; omega))))
        all_goals first | (exfalso; omega) | skip
        refine zcall (fun i => i) (sm_Due fc  c p hs hF _ dd c1 c2 b' (Nat.le_refl _) (fun x hx => hpb x (List.mem_append_left _ (List.mem_append_left _ hx))) (fun x hx => hpb x (List.mem_append_left _ (List.mem_append_right _ hx))) o3 o4 (by omega) (by omega) _ _ _ (by omega) (by omega) (by omega) (by omega)) rfl rfl leh rfl rfl rfl rfl rfl rfl (fun r h' hR => ?_)
        obtain ⟨rfl, mm, hmm, rfl⟩ := hR
        refine ⟨rfl, rfl, ?_⟩
        have l1 := hmm.1.len
        rw [List.length_append] at l1
        repeat' (first | refine sA ?_ | ((first | apply kM | apply kN); (iterate 3 (· exact rfl)); (· first | exact ya)) | refine sG ?_ | (refine sK ?_ ?_ <;> intro hc <;> (try simp only [KL, sL, reduceCtorEq] at hc) <;> (try (have hT : True := hc; clear hT hc)) <;> (try (exfalso; omega))))
        all_goals first | (exfalso; omega) | skip
        have hb := BS.snoc (lt := ltcDue c) (A := dd) (c := mm) n2 n3 (by omega) hmm.2
        exact ⟨(cs2 ++ [mm], cs', dd ++ mm, b', c'), ⟨by
          have := n1.trans (((Rch.refl (lt := ltcDue c) (l := dd)).app hmm.1).app (Rch.refl (lt := ltcDue c) (l := b')) |> fun h => by simpa using h)
          simpa using this, hb.1, hb.2, o5⟩, by simp only [List.length_append]; omega, les, leh⟩
    · have m6 := m4.whole m1 (by omega)
      repeat' (first | refine sA ?_ | ((first | apply kM | apply kN); (iterate 3 (· exact rfl)); (· first | exact ya)) | refine sG ?_ | (refine sK ?_ ?_ <;> intro hc <;> (try simp only [KL, sL, reduceCtorEq] at hc) <;> (try (have hT : True := hc; clear hT hc)) <;> (try (exfalso; omega))))
      all_goals first | (exfalso; omega) | skip
      first | exact retn rfl ⟨rfl, bb, ⟨m3, m6⟩, rfl⟩ | exact retq rfl ⟨rfl, bb, ⟨m3, m6⟩, rfl⟩
  · obtain ⟨e1, e2, rfl, he1⟩ : ∃ e1 e2, ee = e1 ++ e2 ∧ e1.length = 20 := ⟨ee.take 20, ee.drop 20, (tdl _ _).symm, by rw [List.length_take]; omega⟩
    rw [List.length_append] at k4
    rw [show dd ++ (e1 ++ e2) = dd ++ e1 ++ e2 by simp]
    repeat' (first | refine sA ?_ | ((first | apply kM | apply kN); (iterate 3 (· exact rfl)); (· first | exact ya)) | refine sG ?_ | (refine sK ?_ ?_ <;> intro hc <;> (try simp only [KL, sL, reduceCtorEq] at hc) <;> (try (have hT : True := hc; clear hT hc)) <;> (try (exfalso; omega))))
    all_goals first | (exfalso; omega) | skip
    refine zcall (fun i => i) (ins_Due fc  c p hs hF dd e1 e2 (fun x hx => hpe x (List.mem_append_left _ hx)) _ _ (by omega) (by omega) (by omega)) rfl rfl leh rfl rfl rfl rfl rfl rfl (fun r h' hR => ?_)
    obtain ⟨rfl, mm, hmm, rfl⟩ := hR
    refine ⟨rfl, rfl, ?_⟩
    have l1 := hmm.1.len
    repeat' (first | refine sA ?_ | ((first | apply kM | apply kN); (iterate 3 (· exact rfl)); (· first | exact ya)) | refine sG ?_ | (refine sK ?_ ?_ <;> intro hc <;> (try simp only [KL, sL, reduceCtorEq] at hc) <;> (try (have hT : True := hc; clear hT hc)) <;> (try (exfalso; omega))))
    all_goals first | (exfalso; omega) | skip
    have hb := BS.snoc (lt := ltcDue c) (A := dd) (c := mm) k2 k3 (by omega) hmm.2
    exact ⟨(cs ++ [mm], dd ++ mm, e2), ⟨by
      have := k1.trans (((Rch.refl (lt := ltcDue c) (l := dd)).app hmm.1).app (Rch.refl (lt := ltcDue c) (l := e2)) |> fun h => by simpa using h)
      simpa using this, hb.1, hb.2⟩, by simp only [List.length_append]; omega, les, leh⟩
theorem sort_Due (fc : FuncId) (c : Due → Due → Int) (p : Due → Prop) (hs : SWO (ltcDue c)) (hF : ∀ x y, p x → p y → Fn Try.prog fc ([(fun x : Due => AV.agg (eDue x)) x, (fun x : Due => AV.agg (eDue x)) y] ++ []) (.int .i64 (c x y))) (xx : List Due) (hp : ∀ x ∈ xx, p x) (hl : xx.length ≤ 500000000) :
    FnH Try.prog 71 [.own 4, .fn (.func fc) [] []] [(4, .row 41 2 (xx.map eDue))]
    (fun r h' => r = .tup [] ∧ ∃ xx', StS (ltcDue c) xx xx' ∧ h' = [(4, .row 41 2 (xx'.map eDue))]) := by
  refine fnhb Try.func71 (entered_of (by kernel_rfl)) rfl rfl ?_
  repeat' (first | refine sA ?_ | ((first | apply kM | apply kN); (iterate 3 (· exact rfl)); (· first | exact ya)) | refine sG ?_ | (refine sK ?_ ?_ <;> intro hc <;> (try simp only [KL, sL, reduceCtorEq] at hc) <;> (try (have hT : True := hc; clear hT hc)) <;> (try (exfalso; omega))))
  refine zcall (fun i => i) (stb_Due fc  c p hs hF xx hp _ rfl hl) rfl rfl leh rfl rfl rfl rfl rfl rfl (fun r h' hR => ?_)
  obtain ⟨rfl, mm, hmm, rfl⟩ := hR
  refine ⟨rfl, rfl, ?_⟩
  repeat' (first | refine sA ?_ | ((first | apply kM | apply kN); (iterate 3 (· exact rfl)); (· first | exact ya)) | refine sG ?_ | (refine sK ?_ ?_ <;> intro hc <;> (try simp only [KL, sL, reduceCtorEq] at hc) <;> (try (have hT : True := hc; clear hT hc)) <;> (try (exfalso; omega))))
  first | exact retn rfl ⟨rfl, mm, hmm, rfl⟩ | exact retq rfl ⟨rfl, mm, hmm, rfl⟩
end Go.Proofs.Ytfjoaeghnfkdlaa
namespace Go.Proofs.Ytfjoaeghnfkdlaa
set_option maxRecDepth 100000
open Go.RowKit
--BEGIN
def ltD (a b : Due) : Bool := decide (a.at_ < b.at_ ∨ a.at_ = b.at_ ∧ a.task < b.task)
def leD (a b : Due) : Prop := a.at_ < b.at_ ∨ a.at_ = b.at_ ∧ a.task ≤ b.task
theorem leD_anti {a b : Due} (h1 : leD a b) (h2 : leD b a) : a = b := by
  apply Due.ext_
  unfold leD at h1 h2
  omega
def putD : List Due → Due → List Due
  | [], d => [d]
  | x :: r, d => if ltD d x then d :: x :: r else x :: putD r d
def sortD (l : List Due) : List Due := l.foldl putD []
theorem putD_at : ∀ (l : List Due) (d : Due) (k : Nat), (∀ j, j < k → ltD d (l.getD j default) = false) → (k = l.length ∨ k < l.length ∧ ltD d (l.getD k default) = true) → putD l d = l.take k ++ d :: l.drop k
  | [], d, k, _, h => by
    rcases h with rfl | ⟨h, _⟩
    · rfl
    · simp at h
  | x :: r, d, 0, _, h => by
    rcases h with h | ⟨_, h⟩
    · simp at h
    · rw [putD, if_pos (by simpa using h)]; rfl
  | x :: r, d, k + 1, h1, h => by
    have h0 := h1 0 (by omega)
    simp only [List.getD_cons_zero] at h0
    rw [putD, if_neg (by rw [h0]; exact Bool.false_ne_true), putD_at r d k (fun j hj => by have := h1 (j + 1) (by omega); simpa using this) (by simpa using h)]
    rfl
theorem putD_perm : ∀ (l : List Due) (d : Due), (putD l d).Perm (d :: l)
  | [], d => List.Perm.refl _
  | x :: r, d => by
    rw [putD]
    split
    · exact List.Perm.refl _
    · exact ((putD_perm r d).cons x).trans (List.Perm.swap d x r)
theorem putD_srt : ∀ (l : List Due) (d : Due), l.Pairwise leD → (putD l d).Pairwise leD
  | [], d, _ => by simp [putD]
  | x :: r, d, h => by
    rw [List.pairwise_cons] at h
    rw [putD]
    split
    · rename_i hlt
      simp only [ltD, decide_eq_true_eq] at hlt
      refine List.pairwise_cons.2 ⟨fun y hy => ?_, List.pairwise_cons.2 h⟩
      rcases List.mem_cons.1 hy with rfl | hy
      · unfold leD; omega
      · have := h.1 y hy; unfold leD at *; omega
    · rename_i hlt
      simp only [ltD, decide_eq_true_eq] at hlt
      refine List.pairwise_cons.2 ⟨fun y hy => ?_, putD_srt r d h.2⟩
      rcases List.mem_cons.1 ((putD_perm r d).mem_iff.1 hy) with rfl | hy
      · unfold leD; omega
      · exact h.1 y hy
theorem sortD_fold : ∀ (l a : List Due), a.Pairwise leD → (l.foldl putD a).Perm (l ++ a) ∧ (l.foldl putD a).Pairwise leD
  | [], a, h => ⟨List.Perm.refl _, h⟩
  | x :: l, a, h => by
    obtain ⟨h1, h2⟩ := sortD_fold l (putD a x) (putD_srt a x h)
    refine ⟨h1.trans (((putD_perm a x).append_left l).trans ?_), h2⟩
    exact List.perm_middle
theorem sortD_perm (l : List Due) : (sortD l).Perm l := by simpa [sortD] using (sortD_fold l [] List.Pairwise.nil).1
theorem sortD_srt (l : List Due) : (sortD l).Pairwise leD := (sortD_fold l [] List.Pairwise.nil).2
theorem sortD_eq {l r : List Due} (h1 : r.Perm l) (h2 : r.Pairwise leD) : r = sortD l :=
  List.Perm.eq_of_pairwise (le := leD) (fun a b _ _ h3 h4 => leD_anti h3 h4) h2 (sortD_srt l) (h1.trans (sortD_perm l).symm)
theorem sortD_len (l : List Due) : (sortD l).length = l.length := (sortD_perm l).length_eq
theorem sortD_next (l : List Due) (k : Nat) (h : k < l.length) : sortD (l.take (k + 1)) = putD (sortD (l.take k)) (l.getD k default) := by
  rw [List.take_succ_eq_append_getElem h, sortD, List.foldl_append]
  simp [sortD, h]
structure Gt where
  per : Int
  last : Int
  op : Bool
instance : Inhabited Gt := ⟨⟨0, 0, false⟩⟩
def perG (t : Task) : Int := if plainB t = true ∧ t.kind = 2 then t.period else 0
def passD (g : Gt) (x : Int) : Bool := decide (0 ≤ x ∧ 1 ≤ g.per) && (!g.op || decide (g.last ≤ x ∧ g.per ≤ x - g.last))
def gates0 (l : List Task) : List Gt := l.map fun t => ⟨perG t, 0, false⟩
structure S27 where
  gs : List Gt
  lt : List Due
  rf : List Due
def okA (ticks : Int) (s : S27) (d : Due) : Bool := decide (0 ≤ d.task ∧ d.task < s.gs.length ∧ d.at_ < ticks) && passD (s.gs.getD d.task.toNat default) d.at_
def stepA (ticks : Int) (s : S27) (d : Due) : S27 := if okA ticks s d then ⟨s.gs.set d.task.toNat ⟨(s.gs.getD d.task.toNat default).per, d.at_, true⟩, s.lt ++ [d], s.rf⟩ else ⟨s.gs, s.lt, s.rf ++ [d]⟩
def timesN (t : Task) (lim : Int) : Nat := if plainB t = true ∧ t.kind = 1 then (ceilZ (lim - t.offset) t.period).toNat else 0
def dueAt (t : Task) (i k : Nat) : Due := ⟨t.offset + k * t.period, i⟩
def letO (t : Task) (i n : Nat) : List Due := (List.range n).map (dueAt t i)
def letT (l : List Task) (lim : Int) (i : Nat) : List Due := (List.range i).flatMap fun j => letO (l.getD j default) j (timesN (l.getD j default) lim)
def runA (l : List Task) (asks : List Due) (ticks : Int) : S27 := asks.foldl (stepA ticks) ⟨gates0 l, letT l ticks l.length, []⟩
def allA (l : List Task) (asks : List Due) (ticks : Int) : List Due × List Due := (sortD (runA l (sortD asks) ticks).lt, (runA l (sortD asks) ticks).rf)
structure Inv (l : List Task) (ticks : Int) (s : S27) : Prop where
  len : s.gs.length = l.length
  per : ∀ j, j < l.length → (s.gs.getD j default).per = perG (l.getD j default)
  low : ∀ j, j < l.length → 0 ≤ (s.gs.getD j default).last ∧ ((s.gs.getD j default).op = true → (s.gs.getD j default).last < ticks)
  mem : ∀ d ∈ s.lt, 0 ≤ d.task ∧ d.task < l.length ∧ 0 ≤ d.at_ ∧ d.at_ < ticks ∧ 1 ≤ (l.getD d.task.toNat default).period
  gate : ∀ d ∈ s.lt, 1 ≤ perG (l.getD d.task.toNat default) → (s.gs.getD d.task.toNat default).op = true ∧ d.at_ ≤ (s.gs.getD d.task.toNat default).last
  apart : s.lt.Pairwise fun a b => a.task = b.task → a.at_ + (l.getD a.task.toNat default).period ≤ b.at_
end Go.Proofs.Ytfjoaeghnfkdlaa
namespace Go.Proofs.Ytfjoaeghnfkdlaa
set_option maxRecDepth 100000
set_option maxRecDepth 100000
open Go.RowKit
def orI (a b : Int) : Int := if a ≠ 0 then a else b
def cmpD (x y : Due) : Int := orI (cmpI x.at_ y.at_) (cmpI x.task y.task)
theorem cmpD_neg {x y : Due} : cmpD x y < 0 ↔ x.at_ < y.at_ ∨ x.at_ = y.at_ ∧ x.task < y.task := by
  have h1 := @cmpI_neg x.at_ y.at_
  have h2 := @cmpI_neg x.task y.task
  have h3 := @cmpI_z x.at_ y.at_
  unfold cmpD orI
  split <;> omega
theorem swoD : SWO (ltcDue cmpD) :=
  ⟨fun x => by simp only [ltcDue, decide_eq_false_iff_not, cmpD_neg]; omega, fun x y z h1 h2 => by simp only [ltcDue, decide_eq_true_eq, cmpD_neg] at *; omega, fun x y z h1 h2 => by simp only [ltcDue, decide_eq_false_iff_not, cmpD_neg] at *; omega⟩
theorem sortD_of {l r : List Due} (h : StS (ltcDue cmpD) l r) : r = sortD l := by
  refine sortD_eq h.1.perm (h.2.imp fun {a b} h1 => ?_)
  simp only [ltcDue, decide_eq_false_iff_not, cmpD_neg] at h1
  unfold leD
  omega
theorem or_fn (a b : Int) : Fn Try.prog 57 [.lst 1 ([a, b].map eI)] (.int .i64 (orI a b)) := by
  obtain ⟨l, hl⟩ : ∃ l, l = [a, b] := ⟨_, rfl⟩
  have h0 : l.length = 2 := by rw [hl]; rfl
  have h1 : l.getD 0 default = a := by rw [hl]; rfl
  have h2 : l.getD 1 default = b := by rw [hl]; rfl
  rw [← hl]
  refine fnb Try.func57 (entered_of (by kernel_rfl)) rfl rfl rfl ?_
  repeat' (first | refine sA ?_ | ((first | apply kM | apply kN); (iterate 3 (· exact rfl)); (· first | exact ya)) | refine sG ?_ | (refine sK ?_ ?_ <;> intro hc <;> (try simp only [KL, sL, reduceCtorEq] at hc) <;> (try (have hT : True := hc; clear hT hc)) <;> (try (exfalso; omega))))
  refine wloop (fun k : Nat => ([(0, .lst 1 (l.map eI)), (3, .int .i64 0), (6, .lst 1 (l.map eI)), (7, .int .i64 l.length), (8, .int .i64 k)], [])) (fun k => k ≤ 2 ∧ ∀ j, j < k → l.getD j default = 0) (fun k => 2 - k) 0 ⟨by omega, fun j hj => by omega⟩ les leh (fun k hk => ?_)
  obtain ⟨h3, h4⟩ := hk
  repeat' (first | refine sA ?_ | ((first | apply kM | apply kN); (iterate 3 (· exact rfl)); (· first | exact ya)) | refine sG ?_ | (refine sK ?_ ?_ <;> intro hc <;> (try simp only [KL, sL, reduceCtorEq] at hc) <;> (try (have hT : True := hc; clear hT hc)) <;> (try (exfalso; omega))))
  · refine retq rfl (congrArg (AV.int .i64) ?_)
    rcases (show k = 0 ∨ k = 1 by omega) with rfl | rfl
    · unfold orI; rw [h1] at hc ⊢; rw [if_pos hc]
    · have := h4 0 (by omega); unfold orI; rw [h2]; rw [if_neg (by omega)]
  · exact ⟨k + 1, ⟨by omega, fun j hj => by
      by_cases e : j = k
      · subst e; exact hc
      · exact h4 j (by omega)⟩, by omega, les, leh⟩
  · have h5 := h4 0 (by omega)
    have h6 := h4 1 (by omega)
    refine retq rfl (congrArg (AV.int .i64) ?_)
    unfold orI; rw [if_neg (by omega)]; omega
theorem rahead05_fn (a b : Due) : Fn Try.prog 74 [.agg (eDue a), .agg (eDue b)] (.bool (ltD a b)) := by
  refine fnb Try.func74 (entered_of (by kernel_rfl)) rfl rfl rfl ?_
  repeat' (first | refine sA ?_ | ((first | apply kM | apply kN); (iterate 3 (· exact rfl)); (· first | exact ya)) | refine sG ?_ | (refine sK ?_ ?_ <;> intro hc <;> (try simp only [KL, sL, reduceCtorEq] at hc) <;> (try (have hT : True := hc; clear hT hc)) <;> (try (exfalso; omega))))
  all_goals exact retq rfl (congrArg AV.bool (by rw [Bool.eq_iff_iff]; (try simp only [ltD, cond_true, cond_false, decide_eq_true_eq, Bool.not_eq_true', decide_eq_false_iff_not, Bool.and_eq_true, Bool.or_eq_true, true_iff, false_iff, iff_true, iff_false, Bool.false_eq_true, Bool.not_true, Bool.not_false, reduceCtorEq]); (first | done | omega | (constructor <;> intros <;> omega))))
theorem rput_fn (l : List Due) (d : Due) (hn : l.length ≤ 1000000) : Fn Try.prog 50 [.lst 2 (l.map eDue), .agg (eDue d)] (.lst 2 ((putD l d).map eDue)) := by
  refine fnb Try.func50 (entered_of (by kernel_rfl)) rfl rfl rfl ?_
  repeat' (first | refine sA ?_ | ((first | apply kM | apply kN); (iterate 3 (· exact rfl)); (· first | exact ya)) | refine sG ?_ | (refine sK ?_ ?_ <;> intro hc <;> (try simp only [KL, sL, reduceCtorEq] at hc) <;> (try (have hT : True := hc; clear hT hc)) <;> (try (exfalso; omega))))
  refine wloop (fun k : Nat => ([(0, .lst 2 (l.map eDue)), (3, .ref (eDue d)), (5, .int .i64 k)], [])) (fun k => k ≤ l.length ∧ ∀ j, j < k → ltD d (l.getD j default) = false) (fun k => l.length - k) 0 ⟨by omega, fun j hj => by omega⟩ les leh (fun k hk => ?_)
  obtain ⟨h1, h2⟩ := hk
  have c1 := rahead05_fn d (l.getD k default)
  have fin : (k = l.length ∨ k < l.length ∧ ltD d (l.getD k default) = true) → l.take k ++ [d] ++ (l.take l.length).drop k = putD l d := fun h => by rw [putD_at l d k h2 h]; simp
  have e1 : (l.take k).length ≤ l.length := by rw [List.length_take]; omega
  have e2 : ((l.take l.length).drop k).length ≤ l.length := by rw [List.length_drop, List.take_length]; omega
  cases hb : ltD d (l.getD k default) <;> rw [hb] at c1
  · repeat' (first | refine sA ?_ | ((first | apply kM | apply kN); (iterate 3 (· exact rfl)); (· first | exact yag | exact q_c (c1) rfl)) | refine sG ?_ | (refine sK ?_ ?_ <;> intro hc <;> (try simp only [KL, sL, reduceCtorEq] at hc) <;> (try (have hT : True := hc; clear hT hc)) <;> (try (exfalso; omega))))
    · exact ⟨k + 1, ⟨by omega, fun j hj => by
        by_cases e : j = k
        · subst e; exact hb
        · exact h2 j (by omega)⟩, by omega, les, leh⟩
    · have fin := fin (.inl (by omega))
      refine o_blit (f := eDue) (l := []) (id := 10) (sz := 2) rfl rfl rfl rfl rfl rfl rfl rfl rfl rfl rfl rfl rfl rfl ?_
      repeat' (first | refine sA ?_ | ((first | apply kM | apply kN); (iterate 3 (· exact rfl)); (· first | exact ya)) | refine sG ?_ | (refine sK ?_ ?_ <;> intro hc <;> (try simp only [KL, sL, reduceCtorEq] at hc) <;> (try (have hT : True := hc; clear hT hc)) <;> (try (exfalso; omega))))
      (refine ao_ap (id := 10) (ys := l.take k) (by_ := 16) rfl rfl rfl rfl rfl rfl rfl rfl rfl rfl (fun _ _ => rfl) ?_ ?_ rfl rfl rfl rfl rfl ?_; (· (first | omega | ((try simp only [List.length_cons, List.length_nil, List.length_append, List.length_map]) <;> omega))); (· (first | omega | ((try simp only [List.length_cons, List.length_nil, List.length_append, List.length_map]) <;> omega))))
      repeat' (first | refine sA ?_ | ((first | apply kM | apply kN); (iterate 3 (· exact rfl)); (· first | exact ya)) | refine sG ?_ | (refine sK ?_ ?_ <;> intro hc <;> (try simp only [KL, sL, reduceCtorEq] at hc) <;> (try (have hT : True := hc; clear hT hc)) <;> (try (exfalso; omega))))
      (refine ao_ap (id := 10) (ys := [d]) (by_ := 16) rfl rfl rfl rfl rfl rfl rfl rfl rfl rfl (fun _ _ => rfl) ?_ ?_ rfl rfl rfl rfl rfl ?_; (· (first | omega | ((try simp only [List.length_cons, List.length_nil, List.length_append, List.length_map]) <;> omega))); (· (first | omega | ((try simp only [List.length_cons, List.length_nil, List.length_append, List.length_map]) <;> omega))))
      repeat' (first | refine sA ?_ | ((first | apply kM | apply kN); (iterate 3 (· exact rfl)); (· first | exact ya)) | refine sG ?_ | (refine sK ?_ ?_ <;> intro hc <;> (try simp only [KL, sL, reduceCtorEq] at hc) <;> (try (have hT : True := hc; clear hT hc)) <;> (try (exfalso; omega))))
      (refine ao_ap (id := 10) (ys := (l.take l.length).drop k) (by_ := 16) rfl rfl rfl rfl rfl rfl rfl rfl rfl rfl (fun _ _ => rfl) ?_ ?_ rfl rfl rfl rfl rfl ?_; (· (first | omega | ((try simp only [List.length_cons, List.length_nil, List.length_append, List.length_map]) <;> omega))); (· (first | omega | ((try simp only [List.length_cons, List.length_nil, List.length_append, List.length_map]) <;> omega))))
      repeat' (first | refine sA ?_ | ((first | apply kM | apply kN); (iterate 3 (· exact rfl)); (· first | exact ya)) | refine sG ?_ | (refine sK ?_ ?_ <;> intro hc <;> (try simp only [KL, sL, reduceCtorEq] at hc) <;> (try (have hT : True := hc; clear hT hc)) <;> (try (exfalso; omega))))
      refine retT (fun _ => turn_freeze (t := 4) rfl rfl rfl) ?_
      exact retq rfl (by rw [← fin, List.nil_append])
  · repeat' (first | refine sA ?_ | ((first | apply kM | apply kN); (iterate 3 (· exact rfl)); (· first | exact yag | exact q_c (c1) rfl)) | refine sG ?_ | (refine sK ?_ ?_ <;> intro hc <;> (try simp only [KL, sL, reduceCtorEq] at hc) <;> (try (have hT : True := hc; clear hT hc)) <;> (try (exfalso; omega))))
    all_goals have fin := fin (by rcases Nat.lt_or_ge k l.length with h | h; exact .inr ⟨h, hb⟩; exact .inl (by omega))
    all_goals refine o_blit (f := eDue) (l := []) (id := 10) (sz := 2) rfl rfl rfl rfl rfl rfl rfl rfl rfl rfl rfl rfl rfl rfl ?_
    all_goals repeat' (first | refine sA ?_ | ((first | apply kM | apply kN); (iterate 3 (· exact rfl)); (· first | exact ya)) | refine sG ?_ | (refine sK ?_ ?_ <;> intro hc <;> (try simp only [KL, sL, reduceCtorEq] at hc) <;> (try (have hT : True := hc; clear hT hc)) <;> (try (exfalso; omega))))
    all_goals (refine ao_ap (id := 10) (ys := l.take k) (by_ := 16) rfl rfl rfl rfl rfl rfl rfl rfl rfl rfl (fun _ _ => rfl) ?_ ?_ rfl rfl rfl rfl rfl ?_; (· (first | omega | ((try simp only [List.length_cons, List.length_nil, List.length_append, List.length_map]) <;> omega))); (· (first | omega | ((try simp only [List.length_cons, List.length_nil, List.length_append, List.length_map]) <;> omega))))
    all_goals repeat' (first | refine sA ?_ | ((first | apply kM | apply kN); (iterate 3 (· exact rfl)); (· first | exact ya)) | refine sG ?_ | (refine sK ?_ ?_ <;> intro hc <;> (try simp only [KL, sL, reduceCtorEq] at hc) <;> (try (have hT : True := hc; clear hT hc)) <;> (try (exfalso; omega))))
    all_goals (refine ao_ap (id := 10) (ys := [d]) (by_ := 16) rfl rfl rfl rfl rfl rfl rfl rfl rfl rfl (fun _ _ => rfl) ?_ ?_ rfl rfl rfl rfl rfl ?_; (· (first | omega | ((try simp only [List.length_cons, List.length_nil, List.length_append, List.length_map]) <;> omega))); (· (first | omega | ((try simp only [List.length_cons, List.length_nil, List.length_append, List.length_map]) <;> omega))))
    all_goals repeat' (first | refine sA ?_ | ((first | apply kM | apply kN); (iterate 3 (· exact rfl)); (· first | exact ya)) | refine sG ?_ | (refine sK ?_ ?_ <;> intro hc <;> (try simp only [KL, sL, reduceCtorEq] at hc) <;> (try (have hT : True := hc; clear hT hc)) <;> (try (exfalso; omega))))
    all_goals (refine ao_ap (id := 10) (ys := (l.take l.length).drop k) (by_ := 16) rfl rfl rfl rfl rfl rfl rfl rfl rfl rfl (fun _ _ => rfl) ?_ ?_ rfl rfl rfl rfl rfl ?_; (· (first | omega | ((try simp only [List.length_cons, List.length_nil, List.length_append, List.length_map]) <;> omega))); (· (first | omega | ((try simp only [List.length_cons, List.length_nil, List.length_append, List.length_map]) <;> omega))))
    all_goals repeat' (first | refine sA ?_ | ((first | apply kM | apply kN); (iterate 3 (· exact rfl)); (· first | exact ya)) | refine sG ?_ | (refine sK ?_ ?_ <;> intro hc <;> (try simp only [KL, sL, reduceCtorEq] at hc) <;> (try (have hT : True := hc; clear hT hc)) <;> (try (exfalso; omega))))
    all_goals refine retT (fun _ => turn_freeze (t := 4) rfl rfl rfl) ?_
    all_goals exact retq rfl (by rw [← fin, List.nil_append])
def eGt (g : Gt) : List AV := [.int .i64 g.per, .int .i64 g.last, .bool g.op]
def upG (g : Gt) (x : Int) : Gt := if passD g x then ⟨g.per, x, true⟩ else g
end Go.Proofs.Ytfjoaeghnfkdlaa
