/- slices.SortStableFunc, with a closure: the whole. Printed by gensort.py. No condition. -/
import Derived.Test.YtfjoaeghnfkdlaaA12
import Derived.Test.YtfjoaeghnfkdlaaA7
import Derived.Test.YtfjoaeghnfkdlaaA11
set_option linter.unusedSimpArgs false
set_option linter.unusedVariables false
set_option maxHeartbeats 1000000
namespace Go.Proofs.Ytfjoaeghnfkdlaa
set_option maxRecDepth 100000
set_option maxRecDepth 100000
open Go.RowKit
set_option maxHeartbeats 8000000 in
theorem sm_Int (fc : FuncId) (prio : List Int) (c : Int → Int → Int) (p : Int → Prop) (hs : SWO (ltcInt c)) (hF : ∀ x y, p x → p y → Fn Try.prog fc ([(fun x : Int => AV.int .i64 x) x, (fun x : Int => AV.int .i64 x) y] ++ [.ref [.lst 1 (prio.map eI)]]) (.int .i64 (c x y))) : ∀ (N : Nat) (pp xx yy ss : List Int), xx.length + yy.length ≤ N → (∀ x ∈ xx, p x) → (∀ x ∈ yy, p x) → Srt (ltcInt c) xx → Srt (ltcInt c) yy → 0 < xx.length → 0 < yy.length → ∀ (a m b : Int), a = pp.length → m = pp.length + xx.length → b = pp.length + xx.length + yy.length → pp.length + xx.length + yy.length + ss.length ≤ 1000000000 →
    FnH Try.prog 142 [.own 4, .int .i64 a, .int .i64 m, .int .i64 b, .fn (.func fc) [] [.ref [.lst 1 (prio.map eI)]]] [(4, .row 3 1 ((pp ++ xx ++ yy ++ ss).map eI))]
    (fun r h' => r = .tup [] ∧ ∃ xx', StS (ltcInt c) (xx ++ yy) xx' ∧ h' = [(4, .row 3 1 ((pp ++ xx' ++ ss).map eI))]) := by
  intro N
  induction N with
  | zero => intro pp xx yy ss hN _ _ _ _ h1 h2; omega
  | succ N ih =>
  intro pp xx yy ss hN hp hp' hx hy h1 h2 a m b ha hm hb hl
  by_cases hx1 : xx.length = 1
  · match xx, hx1 with
    | [x], hx1 => exact sm1_Int fc prio c p hs hF pp yy ss x (hp x List.mem_cons_self) hp' hy a m b ha (by simpa using hm) (by simpa using hb) (by simp only [List.length_cons, List.length_nil] at hl; omega)
  by_cases hy1 : yy.length = 1
  · match yy, hy1 with
    | [y], hy1 => exact sm2_Int fc prio c p hs hF pp xx ss y (hp' y List.mem_cons_self) hp hx hx1 a m b ha hm (by simpa using hb) (by simp only [List.length_cons, List.length_nil] at hl; omega)
  refine fnhb Try.func142 (entered_of (by kernel_rfl)) rfl rfl ?_
  subst ha hm hb
  obtain ⟨M, hM⟩ : ∃ M, M = pp ++ xx ++ yy ++ ss := ⟨_, rfl⟩
  have hlM : M.length = pp.length + xx.length + yy.length + ss.length := by rw [hM]; simp; omega
  obtain ⟨h, hh⟩ : ∃ h, h = (xx.length + yy.length) / 2 := ⟨_, rfl⟩
  obtain ⟨mid, hmid⟩ : ∃ mid, mid = pp.length + h := ⟨_, rfl⟩
  rw [← hM]
  rcases Nat.lt_or_ge h xx.length with hcs | hcs
  all_goals
    repeat' (first | refine sA ?_ | ((first | apply kM | apply kN); (iterate 3 (· exact rfl)); (· first | (show Y _ ⟨_, .binOp .shr _ _ _ _, _, _, _, _⟩ _ _ _; first | exact q_half mid rfl rfl (Or.inl rfl) (by omega) (by omega) | exact q_half mid rfl rfl (Or.inr rfl) (by omega) (by omega)) | exact ya)) | refine sG ?_ | (refine sK ?_ ?_ <;> intro hc <;> (try simp only [KL, sL, reduceCtorEq] at hc) <;> (try (have hT : True := hc; clear hT hc)) <;> (try (exfalso; omega))))
    all_goals first | (exfalso; omega) | skip
    refine wloop (fun z : Nat × Nat => ([(0, .own 4), (1, .int .i64 pp.length), (2, .int .i64 (pp.length + xx.length)), (3, .int .i64 (pp.length + xx.length + yy.length)), (4, .fn (.func fc) [] [.ref [.lst 1 (prio.map eI)]]), (18, .int .i64 mid), (19, .int .i64 (mid + (pp.length + xx.length))), (20, .int .i64 (pp.length + z.1)), (21, .int .i64 (pp.length + z.2)), (22, .int .i64 (mid + (pp.length + xx.length) - 1))], [(4, .row 3 1 (M.map eI))]))
      (fun z => z.1 ≤ z.2 ∧ z.2 ≤ h ∧ z.2 ≤ xx.length ∧ h - yy.length ≤ z.1 ∧ (∀ k, k < z.1 → h - yy.length ≤ k → ltcInt c (yy.getD (h - 1 - k) default) (xx.getD k default) = false) ∧ (∀ k, z.2 ≤ k → k < h → k < xx.length → ltcInt c (yy.getD (h - 1 - k) default) (xx.getD k default) = true)) (fun z => z.2 - z.1) (h - yy.length, min h xx.length)
      ⟨by simp only; omega, by simp only; omega, by simp only; omega, Nat.le_refl _, fun k h h' => absurd h' (Nat.not_le.2 h), fun k q q' q'' => by simp only at q; omega⟩ les leh (fun z hz => ?_)
    obtain ⟨i, j⟩ := z
    obtain ⟨k1, k2, k2', k2'', k3, k4⟩ := hz
    simp only at k1 k2 k2' k2'' k3 k4 ⊢
    rcases Nat.lt_or_eq_of_le k1 with hij | hij
    · obtain ⟨q, hq⟩ : ∃ q, q = (2 * pp.length + i + j) / 2 - pp.length := ⟨_, rfl⟩
      obtain ⟨kq, hkq⟩ : ∃ k, k = pp.length + q := ⟨_, rfl⟩
      obtain ⟨kp, hkp⟩ : ∃ k, k = pp.length + xx.length + (h - 1 - q) := ⟨_, rfl⟩
      have hqj : q < j := by omega
      have qq : M.getD kq default = xx.getD q default := by rw [hM]; exact seg1 (by omega) hkq
      have qp : M.getD kp default = yy.getD (h - 1 - q) default := by rw [hM]; exact seg2 (by omega) hkp
      have hc1 := hF (yy.getD (h - 1 - q) default) (xx.getD q default) (hp' _ (getD_mem (by omega))) (hp _ (getD_mem (by omega)))
      repeat' (first | refine sA ?_ | ((first | apply kM | apply kN); (iterate 3 (· exact rfl)); (· first | (show Y _ ⟨_, .indexAddr _ _ _, _, _, _, _⟩ _ _ _; first | exact q_ioE (kq) rfl rfl rfl rfl rfl rfl (by omega) (by omega) | exact q_ioE (kp) rfl rfl rfl rfl rfl rfl (by omega) (by omega)) | (show Y _ ⟨_, .load _ _, _, _, _, _⟩ _ _ _; first | exact q_pE' qq | exact q_pE' qp) | (show Y _ ⟨_, .binOp .shr _ _ _ _, _, _, _, _⟩ _ _ _; first | exact q_half kq rfl rfl (Or.inl rfl) (by omega) (by omega) | exact q_half kq rfl rfl (Or.inr rfl) (by omega) (by omega)) | exact ya | exact q_c (hc1) rfl)) | refine sG ?_ | (refine sK ?_ ?_ <;> intro hc <;> (try simp only [KL, sL, reduceCtorEq] at hc) <;> (try (have hT : True := hc; clear hT hc)) <;> (try (exfalso; omega))))
      all_goals first | (exfalso; omega) | skip
      · have n1 : ltcInt c (yy.getD (h - 1 - q) default) (xx.getD q default) = false := decide_eq_false (by omega)
        exact ⟨(q + 1, j), ⟨by simp only; omega, k2, k2', by simp only; omega, fun k h5 h6 => mono1' hs hy (i := h - 1 - q) (by simp only at h5; omega) (by omega) (mono2 hs hx (j := q) (by simp only at h5; omega) (by omega) n1), k4⟩, by simp only; omega, les, leh⟩
      · have n1 : ltcInt c (yy.getD (h - 1 - q) default) (xx.getD q default) = true := decide_eq_true (by omega)
        exact ⟨(i, q), ⟨by simp only; omega, by simp only; omega, by simp only; omega, k2'', k3, fun k h5 h6 h7 => mono1 hs hy (j := h - 1 - q) (by simp only at h5; omega) (by omega) (mono2' hs hx (i := q) h5 h7 n1)⟩, by simp only; omega, les, leh⟩
    · subst hij
      obtain ⟨x1, x2, e1, l1, hx1', hx2', px1, px2⟩ : ∃ x1 x2, xx = x1 ++ x2 ∧ x1.length = i ∧ x1 = xx.take i ∧ x2 = xx.drop i ∧ (∀ x ∈ x1, p x) ∧ (∀ x ∈ x2, p x) :=
        ⟨xx.take i, xx.drop i, (tdl _ _).symm, by rw [List.length_take]; omega, rfl, rfl, fun x hx => hp x (List.mem_of_mem_take hx), fun x hx => hp x (List.mem_of_mem_drop hx)⟩
      obtain ⟨y1, y2, e2, l2, hy1', hy2', py1, py2⟩ : ∃ y1 y2, yy = y1 ++ y2 ∧ y1.length = h - i ∧ y1 = yy.take (h - i) ∧ y2 = yy.drop (h - i) ∧ (∀ x ∈ y1, p x) ∧ (∀ x ∈ y2, p x) :=
        ⟨yy.take (h - i), yy.drop (h - i), (tdl _ _).symm, by rw [List.length_take]; omega, rfl, rfl, fun x hx => hp' x (List.mem_of_mem_take hx), fun x hx => hp' x (List.mem_of_mem_drop hx)⟩
      have sx1 : Srt (ltcInt c) x1 := hx1' ▸ hx.take i
      have sx2 : Srt (ltcInt c) x2 := hx2' ▸ hx.drop i
      have sy1 : Srt (ltcInt c) y1 := hy1' ▸ hy.take _
      have sy2 : Srt (ltcInt c) y2 := hy2' ▸ hy.drop _
      have hparts : ∀ L R, StS (ltcInt c) (x1 ++ y1) L → StS (ltcInt c) (x2 ++ y2) R → StS (ltcInt c) (xx ++ yy) (L ++ R) := fun L R hL hR => by
        rw [hx1', hy1'] at hL
        rw [hx2', hy2'] at hR
        exact sm_parts hs hx hy hh k2'' k2 k2' k3 k4 hL hR
      have n1 : x1.length + x2.length = xx.length := by rw [e1]; simp
      have n2 : y1.length + y2.length = yy.length := by rw [e2]; simp
      have eM : M = pp ++ x1 ++ x2 ++ y1 ++ (y2 ++ ss) := by rw [hM, e1, e2]; simp
      clear hM e1 e2 hx1' hx2' hy1' hy2'
      subst eM
      rcases Decidable.em (0 < x2.length ∧ 0 < y1.length) with hR0 | hR0
      · rcases Decidable.em (0 < x1.length ∧ 0 < y1.length) with hA0 | hA0
        · rcases Decidable.em (0 < x2.length ∧ 0 < y2.length) with hB0 | hB0
          · first
            | (exfalso; omega)
            | (repeat' (first | refine sA ?_ | ((first | apply kM | apply kN); (iterate 3 (· exact rfl)); (· first | exact ya)) | refine sG ?_ | (refine sK ?_ ?_ <;> intro hc <;> (try simp only [KL, sL, reduceCtorEq] at hc) <;> (try (have hT : True := hc; clear hT hc)) <;> (try (exfalso; omega))))
               all_goals first | (exfalso; omega) | skip
               refine zcall (fun i => i) (rot_Int fc prio (pp ++ x1) x2 y1 (y2 ++ ss) _ _ _ (by simp only [List.length_append]; omega) (by simp only [List.length_append]; omega) (by simp only [List.length_append]; omega) (by omega) (by omega) (by simp only [List.length_append]; omega)) rfl rfl leh rfl rfl rfl rfl rfl rfl (fun r h' hR => ?_)
               obtain ⟨rfl, rfl⟩ := hR
               refine ⟨rfl, rfl, ?_⟩
               rw [show pp ++ x1 ++ y1 ++ x2 ++ (y2 ++ ss) = pp ++ x1 ++ y1 ++ (x2 ++ (y2 ++ ss)) by simp]
               repeat' (first | refine sA ?_ | ((first | apply kM | apply kN); (iterate 3 (· exact rfl)); (· first | exact ya)) | refine sG ?_ | (refine sK ?_ ?_ <;> intro hc <;> (try simp only [KL, sL, reduceCtorEq] at hc) <;> (try (have hT : True := hc; clear hT hc)) <;> (try (exfalso; omega))))
               all_goals first | (exfalso; omega) | skip
               refine zcall (fun i => i) (ih pp x1 y1 (x2 ++ (y2 ++ ss)) (by omega) px1 py1 sx1 sy1 (by omega) (by omega) _ _ _ (by omega) (by omega) (by omega) (by simp only [List.length_append]; omega)) rfl rfl leh rfl rfl rfl rfl rfl rfl (fun r h' hR => ?_)
               obtain ⟨rfl, M1, hM1, rfl⟩ := hR
               refine ⟨rfl, rfl, ?_⟩
               have lM1 : M1.length = x1.length + y1.length := by have := hM1.1.len; rwa [List.length_append] at this
               rw [show pp ++ M1 ++ (x2 ++ (y2 ++ ss)) = pp ++ M1 ++ x2 ++ y2 ++ ss by simp]
               repeat' (first | refine sA ?_ | ((first | apply kM | apply kN); (iterate 3 (· exact rfl)); (· first | exact ya)) | refine sG ?_ | (refine sK ?_ ?_ <;> intro hc <;> (try simp only [KL, sL, reduceCtorEq] at hc) <;> (try (have hT : True := hc; clear hT hc)) <;> (try (exfalso; omega))))
               all_goals first | (exfalso; omega) | skip
               refine zcall (fun i => i) (ih (pp ++ M1) x2 y2 ss (by omega) px2 py2 sx2 sy2 (by omega) (by omega) _ _ _ (by simp only [List.length_append]; omega) (by simp only [List.length_append]; omega) (by simp only [List.length_append]; omega) (by simp only [List.length_append]; omega)) rfl rfl leh rfl rfl rfl rfl rfl rfl (fun r h' hR => ?_)
               obtain ⟨rfl, M2, hM2, rfl⟩ := hR
               refine ⟨rfl, rfl, ?_⟩
               rw [show pp ++ M1 ++ M2 ++ ss = pp ++ (M1 ++ M2) ++ ss by simp]
               repeat' (first | refine sA ?_ | ((first | apply kM | apply kN); (iterate 3 (· exact rfl)); (· first | exact ya)) | refine sG ?_ | (refine sK ?_ ?_ <;> intro hc <;> (try simp only [KL, sL, reduceCtorEq] at hc) <;> (try (have hT : True := hc; clear hT hc)) <;> (try (exfalso; omega))))
               all_goals first | (exfalso; omega) | skip
               all_goals first | exact retn rfl ⟨rfl, M1 ++ M2, hparts _ _ hM1 hM2, rfl⟩ | exact retq rfl ⟨rfl, M1 ++ M2, hparts _ _ hM1 hM2, rfl⟩)
          · first
            | (exfalso; omega)
            | (repeat' (first | refine sA ?_ | ((first | apply kM | apply kN); (iterate 3 (· exact rfl)); (· first | exact ya)) | refine sG ?_ | (refine sK ?_ ?_ <;> intro hc <;> (try simp only [KL, sL, reduceCtorEq] at hc) <;> (try (have hT : True := hc; clear hT hc)) <;> (try (exfalso; omega))))
               all_goals first | (exfalso; omega) | skip
               refine zcall (fun i => i) (rot_Int fc prio (pp ++ x1) x2 y1 (y2 ++ ss) _ _ _ (by simp only [List.length_append]; omega) (by simp only [List.length_append]; omega) (by simp only [List.length_append]; omega) (by omega) (by omega) (by simp only [List.length_append]; omega)) rfl rfl leh rfl rfl rfl rfl rfl rfl (fun r h' hR => ?_)
               obtain ⟨rfl, rfl⟩ := hR
               refine ⟨rfl, rfl, ?_⟩
               rw [show pp ++ x1 ++ y1 ++ x2 ++ (y2 ++ ss) = pp ++ x1 ++ y1 ++ (x2 ++ (y2 ++ ss)) by simp]
               repeat' (first | refine sA ?_ | ((first | apply kM | apply kN); (iterate 3 (· exact rfl)); (· first | exact ya)) | refine sG ?_ | (refine sK ?_ ?_ <;> intro hc <;> (try simp only [KL, sL, reduceCtorEq] at hc) <;> (try (have hT : True := hc; clear hT hc)) <;> (try (exfalso; omega))))
               all_goals first | (exfalso; omega) | skip
               refine zcall (fun i => i) (ih pp x1 y1 (x2 ++ (y2 ++ ss)) (by omega) px1 py1 sx1 sy1 (by omega) (by omega) _ _ _ (by omega) (by omega) (by omega) (by simp only [List.length_append]; omega)) rfl rfl leh rfl rfl rfl rfl rfl rfl (fun r h' hR => ?_)
               obtain ⟨rfl, M1, hM1, rfl⟩ := hR
               refine ⟨rfl, rfl, ?_⟩
               have lM1 : M1.length = x1.length + y1.length := by have := hM1.1.len; rwa [List.length_append] at this
               obtain ⟨M2, hM2, eB⟩ : ∃ M2, StS (ltcInt c) (x2 ++ y2) M2 ∧ pp ++ M1 ++ (x2 ++ (y2 ++ ss)) = pp ++ (M1 ++ M2) ++ ss := by
                 refine ⟨x2 ++ y2, .self ?_, by simp⟩
                 rcases Nat.eq_zero_or_pos x2.length with z | z
                 · rw [List.eq_nil_of_length_eq_zero z]; exact sy2
                 · rw [List.eq_nil_of_length_eq_zero (show y2.length = 0 by omega), List.append_nil]; exact sx2
               rw [eB]
               repeat' (first | refine sA ?_ | ((first | apply kM | apply kN); (iterate 3 (· exact rfl)); (· first | exact ya)) | refine sG ?_ | (refine sK ?_ ?_ <;> intro hc <;> (try simp only [KL, sL, reduceCtorEq] at hc) <;> (try (have hT : True := hc; clear hT hc)) <;> (try (exfalso; omega))))
               all_goals first | (exfalso; omega) | skip
               all_goals first | exact retn rfl ⟨rfl, M1 ++ M2, hparts _ _ hM1 hM2, rfl⟩ | exact retq rfl ⟨rfl, M1 ++ M2, hparts _ _ hM1 hM2, rfl⟩)
        · rcases Decidable.em (0 < x2.length ∧ 0 < y2.length) with hB0 | hB0
          · first
            | (exfalso; omega)
            | (repeat' (first | refine sA ?_ | ((first | apply kM | apply kN); (iterate 3 (· exact rfl)); (· first | exact ya)) | refine sG ?_ | (refine sK ?_ ?_ <;> intro hc <;> (try simp only [KL, sL, reduceCtorEq] at hc) <;> (try (have hT : True := hc; clear hT hc)) <;> (try (exfalso; omega))))
               all_goals first | (exfalso; omega) | skip
               refine zcall (fun i => i) (rot_Int fc prio (pp ++ x1) x2 y1 (y2 ++ ss) _ _ _ (by simp only [List.length_append]; omega) (by simp only [List.length_append]; omega) (by simp only [List.length_append]; omega) (by omega) (by omega) (by simp only [List.length_append]; omega)) rfl rfl leh rfl rfl rfl rfl rfl rfl (fun r h' hR => ?_)
               obtain ⟨rfl, rfl⟩ := hR
               refine ⟨rfl, rfl, ?_⟩
               obtain ⟨M1, hM1, eA⟩ : ∃ M1, StS (ltcInt c) (x1 ++ y1) M1 ∧ pp ++ x1 ++ y1 ++ x2 ++ (y2 ++ ss) = pp ++ M1 ++ (x2 ++ (y2 ++ ss)) := by
                 refine ⟨x1 ++ y1, .self ?_, by simp⟩
                 rcases Nat.eq_zero_or_pos x1.length with z | z
                 · rw [List.eq_nil_of_length_eq_zero z]; exact sy1
                 · rw [List.eq_nil_of_length_eq_zero (show y1.length = 0 by omega), List.append_nil]; exact sx1
               rw [eA]
               have lM1 : M1.length = x1.length + y1.length := by have := hM1.1.len; rwa [List.length_append] at this
               rw [show pp ++ M1 ++ (x2 ++ (y2 ++ ss)) = pp ++ M1 ++ x2 ++ y2 ++ ss by simp]
               repeat' (first | refine sA ?_ | ((first | apply kM | apply kN); (iterate 3 (· exact rfl)); (· first | exact ya)) | refine sG ?_ | (refine sK ?_ ?_ <;> intro hc <;> (try simp only [KL, sL, reduceCtorEq] at hc) <;> (try (have hT : True := hc; clear hT hc)) <;> (try (exfalso; omega))))
               all_goals first | (exfalso; omega) | skip
               refine zcall (fun i => i) (ih (pp ++ M1) x2 y2 ss (by omega) px2 py2 sx2 sy2 (by omega) (by omega) _ _ _ (by simp only [List.length_append]; omega) (by simp only [List.length_append]; omega) (by simp only [List.length_append]; omega) (by simp only [List.length_append]; omega)) rfl rfl leh rfl rfl rfl rfl rfl rfl (fun r h' hR => ?_)
               obtain ⟨rfl, M2, hM2, rfl⟩ := hR
               refine ⟨rfl, rfl, ?_⟩
               rw [show pp ++ M1 ++ M2 ++ ss = pp ++ (M1 ++ M2) ++ ss by simp]
               repeat' (first | refine sA ?_ | ((first | apply kM | apply kN); (iterate 3 (· exact rfl)); (· first | exact ya)) | refine sG ?_ | (refine sK ?_ ?_ <;> intro hc <;> (try simp only [KL, sL, reduceCtorEq] at hc) <;> (try (have hT : True := hc; clear hT hc)) <;> (try (exfalso; omega))))
               all_goals first | (exfalso; omega) | skip
               all_goals first | exact retn rfl ⟨rfl, M1 ++ M2, hparts _ _ hM1 hM2, rfl⟩ | exact retq rfl ⟨rfl, M1 ++ M2, hparts _ _ hM1 hM2, rfl⟩)
          · first
            | (exfalso; omega)
            | (repeat' (first | refine sA ?_ | ((first | apply kM | apply kN); (iterate 3 (· exact rfl)); (· first | exact ya)) | refine sG ?_ | (refine sK ?_ ?_ <;> intro hc <;> (try simp only [KL, sL, reduceCtorEq] at hc) <;> (try (have hT : True := hc; clear hT hc)) <;> (try (exfalso; omega))))
               all_goals first | (exfalso; omega) | skip
               refine zcall (fun i => i) (rot_Int fc prio (pp ++ x1) x2 y1 (y2 ++ ss) _ _ _ (by simp only [List.length_append]; omega) (by simp only [List.length_append]; omega) (by simp only [List.length_append]; omega) (by omega) (by omega) (by simp only [List.length_append]; omega)) rfl rfl leh rfl rfl rfl rfl rfl rfl (fun r h' hR => ?_)
               obtain ⟨rfl, rfl⟩ := hR
               refine ⟨rfl, rfl, ?_⟩
               obtain ⟨M1, hM1, eA⟩ : ∃ M1, StS (ltcInt c) (x1 ++ y1) M1 ∧ pp ++ x1 ++ y1 ++ x2 ++ (y2 ++ ss) = pp ++ M1 ++ (x2 ++ (y2 ++ ss)) := by
                 refine ⟨x1 ++ y1, .self ?_, by simp⟩
                 rcases Nat.eq_zero_or_pos x1.length with z | z
                 · rw [List.eq_nil_of_length_eq_zero z]; exact sy1
                 · rw [List.eq_nil_of_length_eq_zero (show y1.length = 0 by omega), List.append_nil]; exact sx1
               rw [eA]
               have lM1 : M1.length = x1.length + y1.length := by have := hM1.1.len; rwa [List.length_append] at this
               obtain ⟨M2, hM2, eB⟩ : ∃ M2, StS (ltcInt c) (x2 ++ y2) M2 ∧ pp ++ M1 ++ (x2 ++ (y2 ++ ss)) = pp ++ (M1 ++ M2) ++ ss := by
                 refine ⟨x2 ++ y2, .self ?_, by simp⟩
                 rcases Nat.eq_zero_or_pos x2.length with z | z
                 · rw [List.eq_nil_of_length_eq_zero z]; exact sy2
                 · rw [List.eq_nil_of_length_eq_zero (show y2.length = 0 by omega), List.append_nil]; exact sx2
               rw [eB]
               repeat' (first | refine sA ?_ | ((first | apply kM | apply kN); (iterate 3 (· exact rfl)); (· first | exact ya)) | refine sG ?_ | (refine sK ?_ ?_ <;> intro hc <;> (try simp only [KL, sL, reduceCtorEq] at hc) <;> (try (have hT : True := hc; clear hT hc)) <;> (try (exfalso; omega))))
               all_goals first | (exfalso; omega) | skip
               all_goals first | exact retn rfl ⟨rfl, M1 ++ M2, hparts _ _ hM1 hM2, rfl⟩ | exact retq rfl ⟨rfl, M1 ++ M2, hparts _ _ hM1 hM2, rfl⟩)
      · rcases Decidable.em (0 < x1.length ∧ 0 < y1.length) with hA0 | hA0
        · rcases Decidable.em (0 < x2.length ∧ 0 < y2.length) with hB0 | hB0
          · first
            | (exfalso; omega)
            | (have eR : pp ++ x1 ++ x2 ++ y1 ++ (y2 ++ ss) = pp ++ x1 ++ y1 ++ x2 ++ (y2 ++ ss) := by
                 rcases Nat.eq_zero_or_pos x2.length with z | z
                 · rw [List.eq_nil_of_length_eq_zero z]; simp
                 · rw [List.eq_nil_of_length_eq_zero (show y1.length = 0 by omega)]; simp
               rw [eR]
               rw [show pp ++ x1 ++ y1 ++ x2 ++ (y2 ++ ss) = pp ++ x1 ++ y1 ++ (x2 ++ (y2 ++ ss)) by simp]
               repeat' (first | refine sA ?_ | ((first | apply kM | apply kN); (iterate 3 (· exact rfl)); (· first | exact ya)) | refine sG ?_ | (refine sK ?_ ?_ <;> intro hc <;> (try simp only [KL, sL, reduceCtorEq] at hc) <;> (try (have hT : True := hc; clear hT hc)) <;> (try (exfalso; omega))))
               all_goals first | (exfalso; omega) | skip
               refine zcall (fun i => i) (ih pp x1 y1 (x2 ++ (y2 ++ ss)) (by omega) px1 py1 sx1 sy1 (by omega) (by omega) _ _ _ (by omega) (by omega) (by omega) (by simp only [List.length_append]; omega)) rfl rfl leh rfl rfl rfl rfl rfl rfl (fun r h' hR => ?_)
               obtain ⟨rfl, M1, hM1, rfl⟩ := hR
               refine ⟨rfl, rfl, ?_⟩
               have lM1 : M1.length = x1.length + y1.length := by have := hM1.1.len; rwa [List.length_append] at this
               rw [show pp ++ M1 ++ (x2 ++ (y2 ++ ss)) = pp ++ M1 ++ x2 ++ y2 ++ ss by simp]
               repeat' (first | refine sA ?_ | ((first | apply kM | apply kN); (iterate 3 (· exact rfl)); (· first | exact ya)) | refine sG ?_ | (refine sK ?_ ?_ <;> intro hc <;> (try simp only [KL, sL, reduceCtorEq] at hc) <;> (try (have hT : True := hc; clear hT hc)) <;> (try (exfalso; omega))))
               all_goals first | (exfalso; omega) | skip
               refine zcall (fun i => i) (ih (pp ++ M1) x2 y2 ss (by omega) px2 py2 sx2 sy2 (by omega) (by omega) _ _ _ (by simp only [List.length_append]; omega) (by simp only [List.length_append]; omega) (by simp only [List.length_append]; omega) (by simp only [List.length_append]; omega)) rfl rfl leh rfl rfl rfl rfl rfl rfl (fun r h' hR => ?_)
               obtain ⟨rfl, M2, hM2, rfl⟩ := hR
               refine ⟨rfl, rfl, ?_⟩
               rw [show pp ++ M1 ++ M2 ++ ss = pp ++ (M1 ++ M2) ++ ss by simp]
               repeat' (first | refine sA ?_ | ((first | apply kM | apply kN); (iterate 3 (· exact rfl)); (· first | exact ya)) | refine sG ?_ | (refine sK ?_ ?_ <;> intro hc <;> (try simp only [KL, sL, reduceCtorEq] at hc) <;> (try (have hT : True := hc; clear hT hc)) <;> (try (exfalso; omega))))
               all_goals first | (exfalso; omega) | skip
               all_goals first | exact retn rfl ⟨rfl, M1 ++ M2, hparts _ _ hM1 hM2, rfl⟩ | exact retq rfl ⟨rfl, M1 ++ M2, hparts _ _ hM1 hM2, rfl⟩)
          · first
            | (exfalso; omega)
            | (have eR : pp ++ x1 ++ x2 ++ y1 ++ (y2 ++ ss) = pp ++ x1 ++ y1 ++ x2 ++ (y2 ++ ss) := by
                 rcases Nat.eq_zero_or_pos x2.length with z | z
                 · rw [List.eq_nil_of_length_eq_zero z]; simp
                 · rw [List.eq_nil_of_length_eq_zero (show y1.length = 0 by omega)]; simp
               rw [eR]
               rw [show pp ++ x1 ++ y1 ++ x2 ++ (y2 ++ ss) = pp ++ x1 ++ y1 ++ (x2 ++ (y2 ++ ss)) by simp]
               repeat' (first | refine sA ?_ | ((first | apply kM | apply kN); (iterate 3 (· exact rfl)); (· first | exact ya)) | refine sG ?_ | (refine sK ?_ ?_ <;> intro hc <;> (try simp only [KL, sL, reduceCtorEq] at hc) <;> (try (have hT : True := hc; clear hT hc)) <;> (try (exfalso; omega))))
               all_goals first | (exfalso; omega) | skip
               refine zcall (fun i => i) (ih pp x1 y1 (x2 ++ (y2 ++ ss)) (by omega) px1 py1 sx1 sy1 (by omega) (by omega) _ _ _ (by omega) (by omega) (by omega) (by simp only [List.length_append]; omega)) rfl rfl leh rfl rfl rfl rfl rfl rfl (fun r h' hR => ?_)
               obtain ⟨rfl, M1, hM1, rfl⟩ := hR
               refine ⟨rfl, rfl, ?_⟩
               have lM1 : M1.length = x1.length + y1.length := by have := hM1.1.len; rwa [List.length_append] at this
               obtain ⟨M2, hM2, eB⟩ : ∃ M2, StS (ltcInt c) (x2 ++ y2) M2 ∧ pp ++ M1 ++ (x2 ++ (y2 ++ ss)) = pp ++ (M1 ++ M2) ++ ss := by
                 refine ⟨x2 ++ y2, .self ?_, by simp⟩
                 rcases Nat.eq_zero_or_pos x2.length with z | z
                 · rw [List.eq_nil_of_length_eq_zero z]; exact sy2
                 · rw [List.eq_nil_of_length_eq_zero (show y2.length = 0 by omega), List.append_nil]; exact sx2
               rw [eB]
               repeat' (first | refine sA ?_ | ((first | apply kM | apply kN); (iterate 3 (· exact rfl)); (· first | exact ya)) | refine sG ?_ | (refine sK ?_ ?_ <;> intro hc <;> (try simp only [KL, sL, reduceCtorEq] at hc) <;> (try (have hT : True := hc; clear hT hc)) <;> (try (exfalso; omega))))
               all_goals first | (exfalso; omega) | skip
               all_goals first | exact retn rfl ⟨rfl, M1 ++ M2, hparts _ _ hM1 hM2, rfl⟩ | exact retq rfl ⟨rfl, M1 ++ M2, hparts _ _ hM1 hM2, rfl⟩)
        · rcases Decidable.em (0 < x2.length ∧ 0 < y2.length) with hB0 | hB0
          · first
            | (exfalso; omega)
            | (have eR : pp ++ x1 ++ x2 ++ y1 ++ (y2 ++ ss) = pp ++ x1 ++ y1 ++ x2 ++ (y2 ++ ss) := by
                 rcases Nat.eq_zero_or_pos x2.length with z | z
                 · rw [List.eq_nil_of_length_eq_zero z]; simp
                 · rw [List.eq_nil_of_length_eq_zero (show y1.length = 0 by omega)]; simp
               rw [eR]
               obtain ⟨M1, hM1, eA⟩ : ∃ M1, StS (ltcInt c) (x1 ++ y1) M1 ∧ pp ++ x1 ++ y1 ++ x2 ++ (y2 ++ ss) = pp ++ M1 ++ (x2 ++ (y2 ++ ss)) := by
                 refine ⟨x1 ++ y1, .self ?_, by simp⟩
                 rcases Nat.eq_zero_or_pos x1.length with z | z
                 · rw [List.eq_nil_of_length_eq_zero z]; exact sy1
                 · rw [List.eq_nil_of_length_eq_zero (show y1.length = 0 by omega), List.append_nil]; exact sx1
               rw [eA]
               have lM1 : M1.length = x1.length + y1.length := by have := hM1.1.len; rwa [List.length_append] at this
               rw [show pp ++ M1 ++ (x2 ++ (y2 ++ ss)) = pp ++ M1 ++ x2 ++ y2 ++ ss by simp]
               repeat' (first | refine sA ?_ | ((first | apply kM | apply kN); (iterate 3 (· exact rfl)); (· first | exact ya)) | refine sG ?_ | (refine sK ?_ ?_ <;> intro hc <;> (try simp only [KL, sL, reduceCtorEq] at hc) <;> (try (have hT : True := hc; clear hT hc)) <;> (try (exfalso; omega))))
               all_goals first | (exfalso; omega) | skip
               refine zcall (fun i => i) (ih (pp ++ M1) x2 y2 ss (by omega) px2 py2 sx2 sy2 (by omega) (by omega) _ _ _ (by simp only [List.length_append]; omega) (by simp only [List.length_append]; omega) (by simp only [List.length_append]; omega) (by simp only [List.length_append]; omega)) rfl rfl leh rfl rfl rfl rfl rfl rfl (fun r h' hR => ?_)
               obtain ⟨rfl, M2, hM2, rfl⟩ := hR
               refine ⟨rfl, rfl, ?_⟩
               rw [show pp ++ M1 ++ M2 ++ ss = pp ++ (M1 ++ M2) ++ ss by simp]
               repeat' (first | refine sA ?_ | ((first | apply kM | apply kN); (iterate 3 (· exact rfl)); (· first | exact ya)) | refine sG ?_ | (refine sK ?_ ?_ <;> intro hc <;> (try simp only [KL, sL, reduceCtorEq] at hc) <;> (try (have hT : True := hc; clear hT hc)) <;> (try (exfalso; omega))))
               all_goals first | (exfalso; omega) | skip
               all_goals first | exact retn rfl ⟨rfl, M1 ++ M2, hparts _ _ hM1 hM2, rfl⟩ | exact retq rfl ⟨rfl, M1 ++ M2, hparts _ _ hM1 hM2, rfl⟩)
          · first
            | (exfalso; omega)
            | (have eR : pp ++ x1 ++ x2 ++ y1 ++ (y2 ++ ss) = pp ++ x1 ++ y1 ++ x2 ++ (y2 ++ ss) := by
                 rcases Nat.eq_zero_or_pos x2.length with z | z
                 · rw [List.eq_nil_of_length_eq_zero z]; simp
                 · rw [List.eq_nil_of_length_eq_zero (show y1.length = 0 by omega)]; simp
               rw [eR]
               obtain ⟨M1, hM1, eA⟩ : ∃ M1, StS (ltcInt c) (x1 ++ y1) M1 ∧ pp ++ x1 ++ y1 ++ x2 ++ (y2 ++ ss) = pp ++ M1 ++ (x2 ++ (y2 ++ ss)) := by
                 refine ⟨x1 ++ y1, .self ?_, by simp⟩
                 rcases Nat.eq_zero_or_pos x1.length with z | z
                 · rw [List.eq_nil_of_length_eq_zero z]; exact sy1
                 · rw [List.eq_nil_of_length_eq_zero (show y1.length = 0 by omega), List.append_nil]; exact sx1
               rw [eA]
               have lM1 : M1.length = x1.length + y1.length := by have := hM1.1.len; rwa [List.length_append] at this
               obtain ⟨M2, hM2, eB⟩ : ∃ M2, StS (ltcInt c) (x2 ++ y2) M2 ∧ pp ++ M1 ++ (x2 ++ (y2 ++ ss)) = pp ++ (M1 ++ M2) ++ ss := by
                 refine ⟨x2 ++ y2, .self ?_, by simp⟩
                 rcases Nat.eq_zero_or_pos x2.length with z | z
                 · rw [List.eq_nil_of_length_eq_zero z]; exact sy2
                 · rw [List.eq_nil_of_length_eq_zero (show y2.length = 0 by omega), List.append_nil]; exact sx2
               rw [eB]
               repeat' (first | refine sA ?_ | ((first | apply kM | apply kN); (iterate 3 (· exact rfl)); (· first | exact ya)) | refine sG ?_ | (refine sK ?_ ?_ <;> intro hc <;> (try simp only [KL, sL, reduceCtorEq] at hc) <;> (try (have hT : True := hc; clear hT hc)) <;> (try (exfalso; omega))))
               all_goals first | (exfalso; omega) | skip
               all_goals first | exact retn rfl ⟨rfl, M1 ++ M2, hparts _ _ hM1 hM2, rfl⟩ | exact retq rfl ⟨rfl, M1 ++ M2, hparts _ _ hM1 hM2, rfl⟩)
end Go.Proofs.Ytfjoaeghnfkdlaa
namespace Go.Proofs.Ytfjoaeghnfkdlaa
set_option maxRecDepth 100000
set_option maxRecDepth 100000
open Go.RowKit
set_option maxHeartbeats 8000000 in
theorem stb_Int (fc : FuncId) (prio : List Int) (c : Int → Int → Int) (p : Int → Prop) (hs : SWO (ltcInt c)) (hF : ∀ x y, p x → p y → Fn Try.prog fc ([(fun x : Int => AV.int .i64 x) x, (fun x : Int => AV.int .i64 x) y] ++ [.ref [.lst 1 (prio.map eI)]]) (.int .i64 (c x y))) (xx : List Int) (hp : ∀ x ∈ xx, p x) (n : Int) (hn : n = xx.length) (hl : xx.length ≤ 500000000) :
    FnH Try.prog 137 [.own 4, .int .i64 n, .fn (.func fc) [] [.ref [.lst 1 (prio.map eI)]]] [(4, .row 3 1 (xx.map eI))]
    (fun r h' => r = .tup [] ∧ ∃ xx', StS (ltcInt c) xx xx' ∧ h' = [(4, .row 3 1 (xx'.map eI))]) := by
  refine fnhb Try.func137 (entered_of (by kernel_rfl)) rfl rfl ?_
  subst hn
  repeat' (first | refine sA ?_ | ((first | apply kM | apply kN); (iterate 3 (· exact rfl)); (· first | exact ya)) | refine sG ?_ | (refine sK ?_ ?_ <;> intro hc <;> (try simp only [KL, sL, reduceCtorEq] at hc) <;> (try (have hT : True := hc; clear hT hc)) <;> (try (exfalso; omega))))
  refine wloop (fun z : List (List Int) × List Int × List Int => ([(0, .own 4), (1, .int .i64 xx.length), (2, .fn (.func fc) [] [.ref [.lst 1 (prio.map eI)]]), (6, .int .i64 20), (7, .int .i64 z.2.1.length), (8, .int .i64 (z.2.1.length + 20))], [(4, .row 3 1 ((z.2.1 ++ z.2.2).map eI))]))
    (fun z => Rch (ltcInt c) xx (z.2.1 ++ z.2.2) ∧ z.2.1 = z.1.flatten ∧ ∀ x ∈ z.1, x.length = 20 ∧ Srt (ltcInt c) x) (fun z => z.2.2.length) ([], [], xx)
    ⟨.refl, rfl, fun x hx => by cases hx⟩ les leh (fun z hz => ?_)
  obtain ⟨cs, dd, ee⟩ := z
  obtain ⟨k1, k2, k3⟩ := hz
  simp only at k1 k2 k3 ⊢
  have k4 : dd.length + ee.length = xx.length := by have := k1.len; rwa [List.length_append] at this
  have hpe : ∀ x ∈ ee, p x := fun x hx => hp x (k1.mem.1 (List.mem_append_right _ hx))
  rcases Nat.lt_or_ge ee.length 20 with h20 | h20
  · rw [show dd ++ ee = dd ++ ee ++ [] by simp]
    repeat' (first | refine sA ?_ | ((first | apply kM | apply kN); (iterate 3 (· exact rfl)); (· first | exact ya)) | refine sG ?_ | (refine sK ?_ ?_ <;> intro hc <;> (try simp only [KL, sL, reduceCtorEq] at hc) <;> (try (have hT : True := hc; clear hT hc)) <;> (try (exfalso; omega))))
    all_goals first | (exfalso; omega) | skip
    refine zcall (fun i => i) (ins_Int fc prio c p hs hF dd ee [] hpe _ _ (by omega) (by omega) (by simp only [List.length_nil]; omega)) rfl rfl leh rfl rfl rfl rfl rfl rfl (fun r h' hR => ?_)
    obtain ⟨rfl, e', he', rfl⟩ := hR
    refine ⟨rfl, rfl, ?_⟩
    have l1 := he'.1.len
    repeat' (first | refine sA ?_ | ((first | apply kM | apply kN); (iterate 3 (· exact rfl)); (· first | exact ya)) | refine sG ?_ | (refine sK ?_ ?_ <;> intro hc <;> (try simp only [KL, sL, reduceCtorEq] at hc) <;> (try (have hT : True := hc; clear hT hc)) <;> (try (exfalso; omega))))
    refine wloop (fun z : Nat × List (List Int) × List Int × List Int => ([(0, .own 4), (1, .int .i64 xx.length), (2, .fn (.func fc) [] [.ref [.lst 1 (prio.map eI)]]), (6, .int .i64 z.1)], [(4, .row 3 1 (z.2.2.1.map eI))]))
      (fun z => 0 < z.1 ∧ z.1 ≤ 40 + 2 * xx.length ∧ Rch (ltcInt c) xx z.2.2.1 ∧ BS (ltcInt c) z.1 z.2.2.1 z.2.1 z.2.2.2) (fun z => xx.length - z.1) (20, cs, dd ++ e', e')
      ⟨by simp only; omega, by simp only; omega, k1.trans ((Rch.refl (lt := ltcInt c) (l := dd)).app he'.1), ⟨by rw [← k2], k3, by simp only; omega, he'.2⟩⟩ les (by dsimp only; rw [List.append_nil]; exact leh) (fun z hz => ?_)
    obtain ⟨k, cs, bb, e'⟩ := z
    obtain ⟨m1, m2, m3, m4⟩ := hz
    simp only at m1 m2 m3 m4 ⊢
    have m5 : bb.length = xx.length := m3.len
    clear k1 k2 k3 k4 hpe he' l1 h20
    rcases Nat.lt_or_ge k xx.length with hk | hk
    · repeat' (first | refine sA ?_ | ((first | apply kM | apply kN); (iterate 3 (· exact rfl)); (· first | exact ya)) | refine sG ?_ | (refine sK ?_ ?_ <;> intro hc <;> (try simp only [KL, sL, reduceCtorEq] at hc) <;> (try (have hT : True := hc; clear hT hc)) <;> (try (exfalso; omega))))
      all_goals first | (exfalso; omega) | skip
      refine wloop (fun z : List (List Int) × List (List Int) × List Int × List Int × List Int => ([(0, .own 4), (1, .int .i64 xx.length), (2, .fn (.func fc) [] [.ref [.lst 1 (prio.map eI)]]), (6, .int .i64 k), (7, .int .i64 z.2.2.1.length), (8, .int .i64 (z.2.2.1.length + 2 * k))], [(4, .row 3 1 ((z.2.2.1 ++ z.2.2.2.1).map eI))]))
        (fun z => Rch (ltcInt c) xx (z.2.2.1 ++ z.2.2.2.1) ∧ z.2.2.1 = z.1.flatten ∧ (∀ x ∈ z.1, x.length = 2 * k ∧ Srt (ltcInt c) x) ∧ BS (ltcInt c) k z.2.2.2.1 z.2.1 z.2.2.2.2) (fun z => z.2.2.2.1.length) ([], cs, [], bb, e')
        ⟨m3, rfl, fun x hx => (by cases hx), m4⟩ les leh (fun z hz => ?_)
      obtain ⟨cs2, cs, dd, bb, e'⟩ := z
      obtain ⟨n1, n2, n3, n4⟩ := hz
      simp only at n1 n2 n3 n4 ⊢
      clear m3 m4 m5
      have n5 : dd.length + bb.length = xx.length := by have := n1.len; rwa [List.length_append] at this
      have hpb : ∀ x ∈ bb, p x := fun x hx => hp x (n1.mem.1 (List.mem_append_right _ hx))
      rcases Nat.lt_or_ge bb.length (2 * k) with h2k | h2k
      · rcases n4.last m1 h2k with ⟨o1, o2⟩ | ⟨o1, c1, c2, rfl, o2, o3, o4⟩
        · repeat' (first | refine sA ?_ | ((first | apply kM | apply kN); (iterate 3 (· exact rfl)); (· first | exact ya)) | refine sG ?_ | (refine sK ?_ ?_ <;> intro hc <;> (try simp only [KL, sL, reduceCtorEq] at hc) <;> (try (have hT : True := hc; clear hT hc)) <;> (try (exfalso; omega))))
          all_goals first | (exfalso; omega) | skip
          exact ⟨(k * 2, cs2, dd ++ bb, bb), ⟨by simp only; omega, by simp only; omega, n1, ⟨by rw [n2], fun x hx => by have := n3 x hx; exact ⟨by simp only; omega, this.2⟩, by simp only; omega, o2⟩⟩, by simp only; omega, les, leh⟩
        · rw [List.length_append] at h2k n5 o1
          rw [show dd ++ (c1 ++ c2) = dd ++ c1 ++ c2 ++ [] by simp]
          repeat' (first | refine sA ?_ | ((first | apply kM | apply kN); (iterate 3 (· exact rfl)); (· first | exact ya)) | refine sG ?_ | (refine sK ?_ ?_ <;> intro hc <;> (try simp only [KL, sL, reduceCtorEq] at hc) <;> (try (have hT : True := hc; clear hT hc)) <;> (try (exfalso; omega))))
          all_goals first | (exfalso; omega) | skip
          refine zcall (fun i => i) (sm_Int fc prio c p hs hF _ dd c1 c2 [] (Nat.le_refl _) (fun x hx => hpb x (List.mem_append_left _ hx)) (fun x hx => hpb x (List.mem_append_right _ hx)) o3 o4 (by omega) (by omega) _ _ _ (by omega) (by omega) (by omega) (by simp only [List.length_nil]; omega)) rfl rfl leh rfl rfl rfl rfl rfl rfl (fun r h' hR => ?_)
          obtain ⟨rfl, mm, hmm, rfl⟩ := hR
          refine ⟨rfl, rfl, ?_⟩
          have l1 := hmm.1.len
          rw [List.length_append] at l1
          repeat' (first | refine sA ?_ | ((first | apply kM | apply kN); (iterate 3 (· exact rfl)); (· first | exact ya)) | refine sG ?_ | (refine sK ?_ ?_ <;> intro hc <;> (try simp only [KL, sL, reduceCtorEq] at hc) <;> (try (have hT : True := hc; clear hT hc)) <;> (try (exfalso; omega))))
          all_goals first | (exfalso; omega) | skip
          exact ⟨(k * 2, cs2, dd ++ mm, mm), ⟨by simp only; omega, by simp only; omega, n1.trans ((Rch.refl (lt := ltcInt c) (l := dd)).app hmm.1), ⟨by rw [n2], fun x hx => by have := n3 x hx; exact ⟨by simp only; omega, this.2⟩, by simp only; omega, hmm.2⟩⟩, by simp only; omega, les, by dsimp only; rw [List.append_nil]; exact leh⟩
      · obtain ⟨c1, c2, b', cs', c', rfl, o1, o2, o3, o4, o5⟩ := n4.two m1 h2k
        rw [List.length_append, List.length_append] at h2k n5
        rw [show dd ++ (c1 ++ c2 ++ b') = dd ++ c1 ++ c2 ++ b' by simp]
        repeat' (first | refine sA ?_ | ((first | apply kM | apply kN); (iterate 3 (· exact rfl)); (· first | exact ya)) | refine sG ?_ | (refine sK ?_ ?_ <;> intro hc <;> (try simp only [KL, sL, reduceCtorEq] at hc) <;> (try (have hT : True := hc; clear hT hc)) <;> (try (exfalso; omega))))
        all_goals first | (exfalso; omega) | skip
        refine zcall (fun i => i) (sm_Int fc prio c p hs hF _ dd c1 c2 b' (Nat.le_refl _) (fun x hx => hpb x (List.mem_append_left _ (List.mem_append_left _ hx))) (fun x hx => hpb x (List.mem_append_left _ (List.mem_append_right _ hx))) o3 o4 (by omega) (by omega) _ _ _ (by omega) (by omega) (by omega) (by omega)) rfl rfl leh rfl rfl rfl rfl rfl rfl (fun r h' hR => ?_)
        obtain ⟨rfl, mm, hmm, rfl⟩ := hR
        refine ⟨rfl, rfl, ?_⟩
        have l1 := hmm.1.len
        rw [List.length_append] at l1
        repeat' (first | refine sA ?_ | ((first | apply kM | apply kN); (iterate 3 (· exact rfl)); (· first | exact ya)) | refine sG ?_ | (refine sK ?_ ?_ <;> intro hc <;> (try simp only [KL, sL, reduceCtorEq] at hc) <;> (try (have hT : True := hc; clear hT hc)) <;> (try (exfalso; omega))))
        all_goals first | (exfalso; omega) | skip
        have hb := BS.snoc (lt := ltcInt c) (A := dd) (c := mm) n2 n3 (by omega) hmm.2
        exact ⟨(cs2 ++ [mm], cs', dd ++ mm, b', c'), ⟨by
          have := n1.trans (((Rch.refl (lt := ltcInt c) (l := dd)).app hmm.1).app (Rch.refl (lt := ltcInt c) (l := b')) |> fun h => by simpa using h)
          simpa using this, hb.1, hb.2, o5⟩, by simp only [List.length_append]; omega, les, leh⟩
    · have m6 := m4.whole m1 (by omega)
      repeat' (first | refine sA ?_ | ((first | apply kM | apply kN); (iterate 3 (· exact rfl)); (· first | exact ya)) | refine sG ?_ | (refine sK ?_ ?_ <;> intro hc <;> (try simp only [KL, sL, reduceCtorEq] at hc) <;> (try (have hT : True := hc; clear hT hc)) <;> (try (exfalso; omega))))
      all_goals first | (exfalso; omega) | skip
      first | exact retn rfl ⟨rfl, bb, ⟨m3, m6⟩, rfl⟩ | exact retq rfl ⟨rfl, bb, ⟨m3, m6⟩, rfl⟩
  · obtain ⟨e1, e2, rfl, he1⟩ : ∃ e1 e2, ee = e1 ++ e2 ∧ e1.length = 20 := ⟨ee.take 20, ee.drop 20, (tdl _ _).symm, by rw [List.length_take]; omega⟩
    rw [List.length_append] at k4
    rw [show dd ++ (e1 ++ e2) = dd ++ e1 ++ e2 by simp]
    repeat' (first | refine sA ?_ | ((first | apply kM | apply kN); (iterate 3 (· exact rfl)); (· first | exact ya)) | refine sG ?_ | (refine sK ?_ ?_ <;> intro hc <;> (try simp only [KL, sL, reduceCtorEq] at hc) <;> (try (have hT : True := hc; clear hT hc)) <;> (try (exfalso; omega))))
    all_goals first | (exfalso; omega) | skip
    refine zcall (fun i => i) (ins_Int fc prio c p hs hF dd e1 e2 (fun x hx => hpe x (List.mem_append_left _ hx)) _ _ (by omega) (by omega) (by omega)) rfl rfl leh rfl rfl rfl rfl rfl rfl (fun r h' hR => ?_)
    obtain ⟨rfl, mm, hmm, rfl⟩ := hR
    refine ⟨rfl, rfl, ?_⟩
    have l1 := hmm.1.len
    repeat' (first | refine sA ?_ | ((first | apply kM | apply kN); (iterate 3 (· exact rfl)); (· first | exact ya)) | refine sG ?_ | (refine sK ?_ ?_ <;> intro hc <;> (try simp only [KL, sL, reduceCtorEq] at hc) <;> (try (have hT : True := hc; clear hT hc)) <;> (try (exfalso; omega))))
    all_goals first | (exfalso; omega) | skip
    have hb := BS.snoc (lt := ltcInt c) (A := dd) (c := mm) k2 k3 (by omega) hmm.2
    exact ⟨(cs ++ [mm], dd ++ mm, e2), ⟨by
      have := k1.trans (((Rch.refl (lt := ltcInt c) (l := dd)).app hmm.1).app (Rch.refl (lt := ltcInt c) (l := e2)) |> fun h => by simpa using h)
      simpa using this, hb.1, hb.2⟩, by simp only [List.length_append]; omega, les, leh⟩
theorem sort_Int (fc : FuncId) (prio : List Int) (c : Int → Int → Int) (p : Int → Prop) (hs : SWO (ltcInt c)) (hF : ∀ x y, p x → p y → Fn Try.prog fc ([(fun x : Int => AV.int .i64 x) x, (fun x : Int => AV.int .i64 x) y] ++ [.ref [.lst 1 (prio.map eI)]]) (.int .i64 (c x y))) (xx : List Int) (hp : ∀ x ∈ xx, p x) (hl : xx.length ≤ 500000000) :
    FnH Try.prog 124 [.own 4, .fn (.func fc) [] [.ref [.lst 1 (prio.map eI)]]] [(4, .row 3 1 (xx.map eI))]
    (fun r h' => r = .tup [] ∧ ∃ xx', StS (ltcInt c) xx xx' ∧ h' = [(4, .row 3 1 (xx'.map eI))]) := by
  refine fnhb Try.func124 (entered_of (by kernel_rfl)) rfl rfl ?_
  repeat' (first | refine sA ?_ | ((first | apply kM | apply kN); (iterate 3 (· exact rfl)); (· first | exact ya)) | refine sG ?_ | (refine sK ?_ ?_ <;> intro hc <;> (try simp only [KL, sL, reduceCtorEq] at hc) <;> (try (have hT : True := hc; clear hT hc)) <;> (try (exfalso; omega))))
  refine zcall (fun i => i) (stb_Int fc prio c p hs hF xx hp _ rfl hl) rfl rfl leh rfl rfl rfl rfl rfl rfl (fun r h' hR => ?_)
  obtain ⟨rfl, mm, hmm, rfl⟩ := hR
  refine ⟨rfl, rfl, ?_⟩
  repeat' (first | refine sA ?_ | ((first | apply kM | apply kN); (iterate 3 (· exact rfl)); (· first | exact ya)) | refine sG ?_ | (refine sK ?_ ?_ <;> intro hc <;> (try simp only [KL, sL, reduceCtorEq] at hc) <;> (try (have hT : True := hc; clear hT hc)) <;> (try (exfalso; omega))))
  first | exact retn rfl ⟨rfl, mm, hmm, rfl⟩ | exact retq rfl ⟨rfl, mm, hmm, rfl⟩
end Go.Proofs.Ytfjoaeghnfkdlaa
namespace Go.Proofs.Ytfjoaeghnfkdlaa
set_option maxRecDepth 100000
set_option linter.unnecessarySimpa false
open Go.RowKit
def cmpI (a b : Int) : Int := if a < b then -1 else if b < a then 1 else 0
theorem cmpI_neg {a b : Int} : cmpI a b < 0 ↔ a < b := by
  unfold cmpI; split
  · omega
  · split <;> omega
theorem cmpI_z {a b : Int} : cmpI a b = 0 ↔ a = b := by
  unfold cmpI; split
  · omega
  · split <;> omega
theorem nan_fn (a : Int) : Fn Try.prog 79 [.int .i64 a] (.bool false) := by
  refine fnb Try.func79 (entered_of (by kernel_rfl)) rfl rfl rfl ?_
  repeat' (first | refine sA ?_ | ((first | apply kM | apply kN); (iterate 3 (· exact rfl)); (· first | exact ya)) | refine sG ?_ | (refine sK ?_ ?_ <;> intro hc <;> (try simp only [KL, sL, reduceCtorEq] at hc) <;> (try (have hT : True := hc; clear hT hc)) <;> (try (exfalso; omega))))
  all_goals exact retq rfl (congrArg AV.bool (by simp))
theorem cmp_fn (a b : Int) : Fn Try.prog 58 [.int .i64 a, .int .i64 b] (.int .i64 (cmpI a b)) := by
  refine fnb Try.func58 (entered_of (by kernel_rfl)) rfl rfl rfl ?_
  repeat' (first | refine sA ?_ | ((first | apply kM | apply kN); (iterate 3 (· exact rfl)); (· first | exact ya | exact q_c (nan_fn _) rfl)) | refine sG ?_ | (refine sK ?_ ?_ <;> intro hc <;> (try simp only [KL, sL, reduceCtorEq] at hc) <;> (try (have hT : True := hc; clear hT hc)) <;> (try (exfalso; omega))))
  all_goals exact retq rfl (congrArg (AV.int .i64) (by unfold cmpI; split <;> first | omega | (split <;> omega)))
end Go.Proofs.Ytfjoaeghnfkdlaa
namespace Go.Proofs.Ytfjoaeghnfkdlaa
set_option maxRecDepth 100000
set_option linter.unnecessarySimpa false
def pr (prio : List Int) (i : Int) : Int := prio.getD i.toNat default
def befB (prio : List Int) (a b : Int) : Bool := decide (pr prio b < pr prio a ∨ pr prio a = pr prio b ∧ a < b)
def idx (n : Nat) : List Int := (List.range n).map fun k : Nat => (k : Int)
theorem idx_len (n : Nat) : (idx n).length = n := by simp [idx]
theorem mem_idx {n : Nat} {i : Int} : i ∈ idx n ↔ 0 ≤ i ∧ i < n := by
  simp only [idx, List.mem_map, List.mem_range]
  constructor
  · rintro ⟨k, hk, rfl⟩; omega
  · intro h; exact ⟨i.toNat, by omega, by omega⟩
theorem idx_lt (n : Nat) : (idx n).Pairwise (· < ·) := by
  rw [idx, List.pairwise_map]
  exact List.pairwise_lt_range.imp fun h => by omega
def rk (prio : List Int) (n : Nat) (i : Int) : Nat := (idx n).countP fun j => befB prio j i
theorem swoP (prio : List Int) : SWO (fun x y : Int => decide (cmpI (pr prio y) (pr prio x) < 0)) :=
  ⟨fun x => by simp [cmpI_neg], fun x y z h1 h2 => by simp only [decide_eq_true_eq, cmpI_neg] at *; omega, fun x y z h1 h2 => by simp only [decide_eq_false_iff_not, cmpI_neg] at *; omega⟩
structure Ord (prio : List Int) (n : Nat) (o : List Int) : Prop where
  perm : o.Perm (idx n)
  srt : o.Pairwise fun a b => befB prio a b = true
theorem ord_of {prio : List Int} {n : Nat} {o : List Int} (h : StS (fun x y : Int => decide (cmpI (pr prio y) (pr prio x) < 0)) (idx n) o) : Ord prio n o := by
  refine ⟨h.1.perm, ?_⟩
  have h1 := h.1.pairs (idx_lt n)
  refine (h1.and h.2).imp fun {a b} ⟨h2, h3⟩ => ?_
  simp only [decide_eq_true_eq, decide_eq_false_iff_not, cmpI_neg, befB] at *
  omega
theorem Ord.len {prio : List Int} {n : Nat} {o : List Int} (h : Ord prio n o) : o.length = n := by rw [h.perm.length_eq, idx_len]
theorem Ord.mem {prio : List Int} {n : Nat} {o : List Int} (h : Ord prio n o) {i : Int} : i ∈ o ↔ 0 ≤ i ∧ i < n := by rw [h.perm.mem_iff, mem_idx]
theorem Ord.at {prio : List Int} {n : Nat} {o : List Int} (h : Ord prio n o) {k : Nat} (hk : k < n) : 0 ≤ o.getD k default ∧ o.getD k default < n := h.mem.1 (getD_mem (by rw [h.len]; exact hk))
theorem Ord.rank {prio : List Int} {n : Nat} {o : List Int} (h : Ord prio n o) {k : Nat} (hk : k < n) : rk prio n (o.getD k default) = k := by
  obtain ⟨a, x, b, rfl, ha⟩ := parted (l := o) (k := k) (by rw [h.len]; exact hk)
  have e : (a ++ x :: b).getD k default = x := get_at rfl ha.symm
  rw [e, rk, ← h.perm.countP_eq, List.countP_append, List.countP_cons]
  have hs := h.srt
  rw [List.pairwise_append, List.pairwise_cons] at hs
  obtain ⟨_, ⟨h2, _⟩, h3⟩ := hs
  have c1 : a.countP (fun j => befB prio j x) = a.length := List.countP_eq_length.2 fun j hj => h3 j hj x List.mem_cons_self
  have c2 : b.countP (fun j => befB prio j x) = 0 := List.countP_eq_zero.2 fun j hj => by
    have := h2 j hj
    simp only [befB, decide_eq_true_eq] at *
    omega
  have c3 : befB prio x x = false := by simp [befB]
  rw [c1, c2, c3, ha]; simp
theorem Ord.back {prio : List Int} {n : Nat} {o : List Int} (h : Ord prio n o) {i : Int} (hi : 0 ≤ i ∧ i < n) : rk prio n i < n ∧ o.getD (rk prio n i) default = i := by
  obtain ⟨k, hk, rfl⟩ := List.getElem_of_mem (h.mem.2 hi)
  have hk' : k < n := by rw [← h.len]; exact hk
  have e : o.getD k default = o[k] := by simp [hk]
  have := h.rank hk'
  rw [e] at this
  rw [this]
  exact ⟨hk', e⟩
def ordL (prio : List Int) (n : Nat) : List Int := (List.range n).map fun k => ((idx n).find? fun i => rk prio n i == k).getD 0
theorem Ord.eq {prio : List Int} {n : Nat} {o : List Int} (h : Ord prio n o) : o = ordL prio n := by
  refine List.ext_getElem (by rw [h.len]; simp [ordL]) fun k h1 h2 => ?_
  have hk : k < n := by rw [← h.len]; exact h1
  have hr := h.rank hk
  have hm := h.at hk
  have e : o.getD k default = o[k] := by simp [h1]
  rw [e] at hr hm
  simp only [ordL, List.getElem_map, List.getElem_range]
  cases hf : (idx n).find? fun i => rk prio n i == k with
  | none =>
    have := List.find?_eq_none.1 hf _ (mem_idx.2 hm)
    simp [hr] at this
  | some i =>
    have h3 := List.find?_some hf
    have h4 := mem_idx.1 (List.mem_of_find?_eq_some hf)
    have h5 : rk prio n i = k := by simpa using h3
    have h6 := (h.back h4).2
    rw [h5, e] at h6
    rw [Option.getD_some, h6]
def rkL (prio : List Int) (n : Nat) : List Int := (List.range n).map fun k : Nat => (rk prio n (k : Int) : Int)
theorem rkL_len (prio : List Int) (n : Nat) : (rkL prio n).length = n := by simp [rkL]
theorem rkL_at (prio : List Int) {n k : Nat} (h : k < n) : (rkL prio n).getD k default = (rk prio n (k : Int) : Int) := by simp [rkL, h]
theorem ranks_next {prio : List Int} {n : Nat} {o out : List Int} (h : Ord prio n o) {k : Nat} (hk : k < n) (hl : out.length = n) (hj : ∀ j, j < k → out.getD (o.getD j default).toNat default = (j : Int)) :
    ∀ j, j < k + 1 → (out.set (o.getD k default).toNat (k : Int)).getD (o.getD j default).toNat default = (j : Int) := by
  intro j hjk
  have hm := h.at hk
  by_cases e : j = k
  · subst e
    rw [List.getD_eq_getElem?_getD (l := out.set _ _), List.getElem?_set_self (by omega)]; rfl
  · have hm2 := h.at (k := j) (by omega)
    have hne : (o.getD k default).toNat ≠ (o.getD j default).toNat := fun e2 => by
      have e3 : o.getD k default = o.getD j default := by omega
      have h1 := h.rank hk
      have h2 := h.rank (k := j) (by omega)
      rw [e3, h2] at h1
      omega
    have := hj j (by omega)
    simp only [List.getD_eq_getElem?_getD] at *
    rw [List.getElem?_set_ne hne]
    exact this
theorem ranks_done {prio : List Int} {n : Nat} {o out : List Int} (h : Ord prio n o) (hl : out.length = n) (hj : ∀ j, j < n → out.getD (o.getD j default).toNat default = (j : Int)) : out = rkL prio n := by
  refine List.ext_getElem (by rw [hl, rkL_len]) fun k h1 h2 => ?_
  have hk : k < n := by rw [← hl]; exact h1
  obtain ⟨h3, h4⟩ := h.back (i := (k : Int)) (by omega)
  have h5 := hj _ h3
  rw [h4] at h5
  simp only [Int.toNat_natCast] at h5
  have e : out.getD k default = out[k] := by simp [h1]
  rw [e] at h5
  rw [h5]
  simp [rkL]
theorem ord_ex (prio : List Int) (n : Nat) : ∃ o, Ord prio n o := by
  refine ⟨(idx n).mergeSort (fun a b => !befB prio b a), List.mergeSort_perm _ _, ?_⟩
  have h1 := List.pairwise_mergeSort (le := fun a b => !befB prio b a) (fun a b c h1 h2 => by simp only [befB, Bool.not_eq_true', decide_eq_false_iff_not] at *; omega) (fun a b => by simp only [befB, Bool.or_eq_true, Bool.not_eq_true', decide_eq_false_iff_not] at *; omega) (idx n)
  have h2 : ((idx n).mergeSort (fun a b => !befB prio b a)).Nodup := (List.mergeSort_perm _ _).nodup_iff.2 ((idx_lt n).imp fun h => by omega)
  refine (h1.and h2).imp fun {a b} ⟨h3, h4⟩ => ?_
  simp only [befB, Bool.not_eq_true', decide_eq_false_iff_not, decide_eq_true_eq] at *
  omega
end Go.Proofs.Ytfjoaeghnfkdlaa
namespace Go.Proofs.Ytfjoaeghnfkdlaa
set_option maxRecDepth 100000
set_option maxRecDepth 100000
open Go.RowKit
theorem ordC_fn (prio : List Int) (x y : Int) (hx : 0 ≤ x ∧ x < prio.length) (hy : 0 ≤ y ∧ y < prio.length) : Fn Try.prog 125 ([.int .i64 x, .int .i64 y] ++ [.ref [.lst 1 (prio.map eI)]]) (.int .i64 (cmpI (pr prio y) (pr prio x))) := by
  refine fnb Try.func125 (entered_of (by kernel_rfl)) rfl rfl rfl ?_
  have c1 := cmp_fn (pr prio y) (pr prio x)
  repeat' (first | refine sA ?_ | ((first | apply kM | apply kN); (iterate 3 (· exact rfl)); (· first | exact ya | exact q_c (c1) rfl)) | refine sG ?_ | (refine sK ?_ ?_ <;> intro hc <;> (try simp only [KL, sL, reduceCtorEq] at hc) <;> (try (have hT : True := hc; clear hT hc)) <;> (try (exfalso; omega))))
  exact retq rfl rfl
theorem order_fn (prio : List Int) (hn : prio.length ≤ 1000000) : Fn Try.prog 117 [.lst 1 (prio.map eI)] (.lst 1 ((ordL prio prio.length).map eI)) := by
  refine fnb Try.func117 (entered_of (by kernel_rfl)) rfl rfl rfl ?_
  repeat' (first | refine sA ?_ | ((first | apply kM | apply kN); (iterate 3 (· exact rfl)); (· first | exact ya)) | refine sG ?_ | (refine sK ?_ ?_ <;> intro hc <;> (try simp only [KL, sL, reduceCtorEq] at hc) <;> (try (have hT : True := hc; clear hT hc)) <;> (try (exfalso; omega))))
  (refine ao_mk (f := eI) (d := (0 : Int)) (id := 10) (by_ := 8) (sz := 1) rfl rfl rfl rfl rfl rfl rfl rfl rfl rfl ?_ ?_ rfl rfl rfl rfl ?_; (· omega); (· omega))
  repeat' (first | refine sA ?_ | ((first | apply kM | apply kN); (iterate 3 (· exact rfl)); (· first | exact ya)) | refine sG ?_ | (refine sK ?_ ?_ <;> intro hc <;> (try simp only [KL, sL, reduceCtorEq] at hc) <;> (try (have hT : True := hc; clear hT hc)) <;> (try (exfalso; omega))))
  refine wloop (fun k : Nat => ([(1, .ref [.lst 1 (prio.map eI)]), (3, .own 10), (9, .int .i64 prio.length), (10, .int .i64 k)], [(10, .row 3 1 ((idx k ++ List.replicate (prio.length - k) (0 : Int)).map eI))])) (fun k => k ≤ prio.length) (fun k => prio.length - k) 0 (Nat.zero_le _) les leh (fun k hk => ?_)
  have hl : (idx k ++ List.replicate (prio.length - k) (0 : Int)).length = prio.length := by rw [List.length_append, idx_len, List.length_replicate]; omega
  repeat' (first | refine sA ?_ | ((first | apply kM | apply kN); (iterate 3 (· exact rfl)); (· first | exact ya)) | refine sG ?_ | (refine sK ?_ ?_ <;> intro hc <;> (try simp only [KL, sL, reduceCtorEq] at hc) <;> (try (have hT : True := hc; clear hT hc)) <;> (try (exfalso; omega))))
  · (refine ao_se (x' := (k : Int)) rfl rfl rfl rfl rfl rfl rfl rfl rfl ?_ rfl rfl rfl ?_; (· (first | omega | ((try simp only [List.length_set, List.length_cons, List.length_nil, List.length_append, List.length_map]) <;> omega))))
    repeat' (first | refine sA ?_ | ((first | apply kM | apply kN); (iterate 3 (· exact rfl)); (· first | exact ya)) | refine sG ?_ | (refine sK ?_ ?_ <;> intro hc <;> (try simp only [KL, sL, reduceCtorEq] at hc) <;> (try (have hT : True := hc; clear hT hc)) <;> (try (exfalso; omega))))
    rw [show (idx k ++ List.replicate (prio.length - k) (0 : Int)).set k (k : Int) = idx (k + 1) ++ List.replicate (prio.length - (k + 1)) (0 : Int) from ?_]
    · exact ⟨k + 1, by omega, by omega, les, leh⟩
    · rw [show prio.length - k = (prio.length - (k + 1)) + 1 by omega, List.replicate_succ]
      have h1 := app_set (idx k) (List.replicate (prio.length - (k + 1)) (0 : Int)) 0 (k : Int)
      rw [idx_len] at h1
      rw [h1, idx, idx, List.range_succ]
      simp
  · obtain rfl : k = prio.length := by omega
    rw [Nat.sub_self, List.replicate_zero, List.append_nil]
    refine zcall (fun i => i + 6) (sort_Int 125 prio (fun x y => cmpI (pr prio y) (pr prio x)) (fun x => 0 ≤ x ∧ x < prio.length) (swoP prio) (fun x y hx hy => ordC_fn prio x y hx hy) (idx prio.length) (fun x hx => mem_idx.1 hx) (by rw [idx_len]; omega)) rfl rfl leh rfl rfl rfl rfl rfl rfl (fun r h' hR => ?_)
    obtain ⟨rfl, o, ho, rfl⟩ := hR
    refine ⟨rfl, rfl, ?_⟩
    have h1 := (ord_of ho).eq
    subst h1
    repeat' (first | refine sA ?_ | ((first | apply kM | apply kN); (iterate 3 (· exact rfl)); (· first | exact ya)) | refine sG ?_ | (refine sK ?_ ?_ <;> intro hc <;> (try simp only [KL, sL, reduceCtorEq] at hc) <;> (try (have hT : True := hc; clear hT hc)) <;> (try (exfalso; omega))))
    refine retT (fun _ => turn_freeze (t := 2) rfl rfl rfl) ?_
    exact retq rfl rfl
theorem ranks_fn (prio : List Int) (hn : prio.length ≤ 1000000) : Fn Try.prog 103 [.lst 1 (prio.map eI)] (.lst 1 ((rkL prio prio.length).map eI)) := by
  obtain ⟨o, ho⟩ := ord_ex prio prio.length
  have c1 := order_fn prio hn
  rw [← ho.eq] at c1
  refine fnb Try.func103 (entered_of (by kernel_rfl)) rfl rfl rfl ?_
  repeat' (first | refine sA ?_ | ((first | apply kM | apply kN); (iterate 3 (· exact rfl)); (· first | exact ya)) | refine sG ?_ | (refine sK ?_ ?_ <;> intro hc <;> (try simp only [KL, sL, reduceCtorEq] at hc) <;> (try (have hT : True := hc; clear hT hc)) <;> (try (exfalso; omega))))
  (refine ao_mk (f := eI) (d := (0 : Int)) (id := 10) (by_ := 8) (sz := 1) rfl rfl rfl rfl rfl rfl rfl rfl rfl rfl ?_ ?_ rfl rfl rfl rfl ?_; (· omega); (· omega))
  repeat' (first | refine sA ?_ | ((first | apply kM | apply kN); (iterate 3 (· exact rfl)); (· first | exact ya | exact q_c (c1) rfl)) | refine sG ?_ | (refine sK ?_ ?_ <;> intro hc <;> (try simp only [KL, sL, reduceCtorEq] at hc) <;> (try (have hT : True := hc; clear hT hc)) <;> (try (exfalso; omega))))
  have hlo := ho.len
  refine wloop (fun x : Nat × List Int => ([(3, .own 10), (10, .lst 1 (o.map eI)), (11, .int .i64 prio.length), (12, .int .i64 x.1)], [(10, .row 3 1 (x.2.map eI))])) (fun x => x.1 ≤ prio.length ∧ x.2.length = prio.length ∧ ∀ j, j < x.1 → x.2.getD (o.getD j default).toNat default = (j : Int)) (fun x => prio.length - x.1) (0, List.replicate prio.length 0) ⟨Nat.zero_le _, by simp, fun j h => absurd h (Nat.not_lt_zero _)⟩ les leh (fun x hx => ?_)
  obtain ⟨k, out⟩ := x
  obtain ⟨k1, k2, k3⟩ := hx
  simp only at k1 k2 k3 ⊢
  rcases Nat.lt_or_eq_of_le k1 with hk | hk
  · have h1 := ho.at hk
    have h2 := ranks_next ho hk k2 k3
    repeat' (first | refine sA ?_ | ((first | apply kM | apply kN); (iterate 3 (· exact rfl)); (· first | exact ya)) | refine sG ?_ | (refine sK ?_ ?_ <;> intro hc <;> (try simp only [KL, sL, reduceCtorEq] at hc) <;> (try (have hT : True := hc; clear hT hc)) <;> (try (exfalso; omega))))
    all_goals first | (exfalso; omega) | skip
    (refine ao_se (x' := (k : Int)) rfl rfl rfl rfl rfl rfl rfl rfl rfl ?_ rfl rfl rfl ?_; (· (first | omega | ((try simp only [List.length_set, List.length_cons, List.length_nil, List.length_append, List.length_map]) <;> omega))))
    repeat' (first | refine sA ?_ | ((first | apply kM | apply kN); (iterate 3 (· exact rfl)); (· first | exact ya)) | refine sG ?_ | (refine sK ?_ ?_ <;> intro hc <;> (try simp only [KL, sL, reduceCtorEq] at hc) <;> (try (have hT : True := hc; clear hT hc)) <;> (try (exfalso; omega))))
    exact ⟨(k + 1, out.set (o.getD k default).toNat (k : Int)), ⟨hk, by simpa using k2, h2⟩, by simp only; omega, les, leh⟩
  · subst hk
    have h2 := ranks_done ho k2 k3
    subst h2
    repeat' (first | refine sA ?_ | ((first | apply kM | apply kN); (iterate 3 (· exact rfl)); (· first | exact ya)) | refine sG ?_ | (refine sK ?_ ?_ <;> intro hc <;> (try simp only [KL, sL, reduceCtorEq] at hc) <;> (try (have hT : True := hc; clear hT hc)) <;> (try (exfalso; omega))))
    all_goals first | (exfalso; omega) | skip
    refine retT (fun _ => turn_freeze (t := 2) rfl rfl rfl) ?_
    exact retq rfl rfl
end Go.Proofs.Ytfjoaeghnfkdlaa
