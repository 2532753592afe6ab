/- slices.SortStableFunc, with a closure: the whole. Printed by gensort.py. No condition. -/
import Derived.Test.YtfjoaeghnfkdlaaSrDue
namespace Go.Proofs.Ytfjoaeghnfkdlaa
set_option linter.unusedSimpArgs false
set_option linter.unusedVariables false
set_option maxRecDepth 100000
set_option linter.unusedSimpArgs false
set_option linter.unusedVariables false
set_option maxRecDepth 100000
open Go.RowKit
set_option maxHeartbeats 8000000 in
theorem sm_Due (fc : FuncId) (c : Due → Due → Int) (p : Due → Prop) (hs : SWO (ltcDue c)) (hF : ∀ x y, p x → p y → Fn Try.prog fc ([(fun x : Due => AV.agg (eDue x)) x, (fun x : Due => AV.agg (eDue x)) y] ++ []) (.int .i64 (c x y))) : ∀ (N : Nat) (pp xx yy ss : List Due), xx.length + yy.length ≤ N → (∀ x ∈ xx, p x) → (∀ x ∈ yy, p x) → Srt (ltcDue c) xx → Srt (ltcDue c) yy → 0 < xx.length → 0 < yy.length → ∀ (a m b : Int), a = pp.length → m = pp.length + xx.length → b = pp.length + xx.length + yy.length → pp.length + xx.length + yy.length + ss.length ≤ 1000000000 →
    FnH Try.prog 111 [.own 4, .int .i64 a, .int .i64 m, .int .i64 b, .fn (.func fc) [] []] [(4, .row 41 2 ((pp ++ xx ++ yy ++ ss).map eDue))]
    (fun r h' => r = .tup [] ∧ ∃ xx', StS (ltcDue c) (xx ++ yy) xx' ∧ h' = [(4, .row 41 2 ((pp ++ xx' ++ ss).map eDue))]) := by
  intro N
  induction N with
  | zero => intro pp xx yy ss hN _ _ _ _ h1 h2; omega
  | succ N ih =>
  intro pp xx yy ss hN hp hp' hx hy h1 h2 a m b ha hm hb hl
  by_cases hx1 : xx.length = 1
  · match xx, hx1 with
    | [x], hx1 => exact sm1_Due fc  c p hs hF pp yy ss x (hp x List.mem_cons_self) hp' hy a m b ha (by simpa using hm) (by simpa using hb) (by simp only [List.length_cons, List.length_nil] at hl; omega)
  by_cases hy1 : yy.length = 1
  · match yy, hy1 with
    | [y], hy1 => exact sm2_Due fc  c p hs hF pp xx ss y (hp' y List.mem_cons_self) hp hx hx1 a m b ha hm (by simpa using hb) (by simp only [List.length_cons, List.length_nil] at hl; omega)
  refine fnhb Try.func111 (entered_of (by kernel_rfl)) rfl rfl ?_
  subst ha hm hb
  obtain ⟨M, hM⟩ : ∃ M, M = pp ++ xx ++ yy ++ ss := ⟨_, rfl⟩
  have hlM : M.length = pp.length + xx.length + yy.length + ss.length := by rw [hM]; simp; omega
  obtain ⟨h, hh⟩ : ∃ h, h = (xx.length + yy.length) / 2 := ⟨_, rfl⟩
  obtain ⟨mid, hmid⟩ : ∃ mid, mid = pp.length + h := ⟨_, rfl⟩
  rw [← hM]
  rcases Nat.lt_or_ge h xx.length with hcs | hcs
  all_goals
    repeat' (first | (show W _ _ _ _ _ _; first | apply kA | refine kB rfl ?_ | refine kC rfl rfl ?_ | refine kD rfl rfl ?_ | apply kE | apply kF | apply kG | apply kH | refine kI (by kernel_rfl) (by kernel_rfl) ?_) | (show O _ _ _ _ _ _ _; first | (show O _ _ _ _ (⟨_, .store _ _ _, _, _, _, _⟩ :: _) _ _; refine kJ rfl rfl rfl rfl rfl rfl rfl rfl rfl rfl rfl ?_) | apply kK) | apply kL | ((first | apply kM | apply kN); (iterate 3 (· exact rfl)); (· first | (show Y _ ⟨_, .binOp .shr _ _ _ _, _, _, _, _⟩ _ _ _; first | exact q_half mid rfl rfl (Or.inl rfl) (by omega) (by omega) | exact q_half mid rfl rfl (Or.inr rfl) (by omega) (by omega)) | exact ya)) | refine kO rfl rfl rfl rfl rfl ?_ | refine kP rfl rfl rfl ?_ | ((first | refine kQ rfl rfl ?_ ?_ | refine kR rfl rfl rfl rfl rfl ?_ ?_ | refine kS rfl rfl rfl ?_ ?_) <;> intro hc <;> (try simp only [KL, cond_true, cond_false, beq_iff_eq, bne_iff_ne, ne_eq, reduceCtorEq] at hc) <;> (try (have hT : True := hc; clear hT hc)) <;> (try (exfalso; omega))) | apply kT | apply kU | apply kV | apply kW | refine kX rfl ?_ | apply kY | apply kZ)
    all_goals first | (exfalso; omega) | skip
    refine wloop (fun z : Nat × Nat => ([(0, .own 4), (1, .int .i64 pp.length), (2, .int .i64 (pp.length + xx.length)), (3, .int .i64 (pp.length + xx.length + yy.length)), (4, .fn (.func fc) [] []), (18, .int .i64 mid), (19, .int .i64 (mid + (pp.length + xx.length))), (20, .int .i64 (pp.length + z.1)), (21, .int .i64 (pp.length + z.2)), (22, .int .i64 (mid + (pp.length + xx.length) - 1))], [(4, .row 41 2 (M.map eDue))]))
      (fun z => z.1 ≤ z.2 ∧ z.2 ≤ h ∧ z.2 ≤ xx.length ∧ h - yy.length ≤ z.1 ∧ (∀ k, k < z.1 → h - yy.length ≤ k → ltcDue c (yy.getD (h - 1 - k) default) (xx.getD k default) = false) ∧ (∀ k, z.2 ≤ k → k < h → k < xx.length → ltcDue c (yy.getD (h - 1 - k) default) (xx.getD k default) = true)) (fun z => z.2 - z.1) (h - yy.length, min h xx.length)
      ⟨by simp only; omega, by simp only; omega, by simp only; omega, Nat.le_refl _, fun k h h' => absurd h' (Nat.not_le.2 h), fun k q q' q'' => by simp only at q; omega⟩ les leh (fun z hz => ?_)
    obtain ⟨i, j⟩ := z
    obtain ⟨k1, k2, k2', k2'', k3, k4⟩ := hz
    simp only at k1 k2 k2' k2'' k3 k4 ⊢
    rcases Nat.lt_or_eq_of_le k1 with hij | hij
    · obtain ⟨q, hq⟩ : ∃ q, q = (2 * pp.length + i + j) / 2 - pp.length := ⟨_, rfl⟩
      obtain ⟨kq, hkq⟩ : ∃ k, k = pp.length + q := ⟨_, rfl⟩
      obtain ⟨kp, hkp⟩ : ∃ k, k = pp.length + xx.length + (h - 1 - q) := ⟨_, rfl⟩
      have hqj : q < j := by omega
      have qq : M.getD kq default = xx.getD q default := by rw [hM]; exact seg1 (by omega) hkq
      have qp : M.getD kp default = yy.getD (h - 1 - q) default := by rw [hM]; exact seg2 (by omega) hkp
      have hc1 := hF (yy.getD (h - 1 - q) default) (xx.getD q default) (hp' _ (getD_mem (by omega))) (hp _ (getD_mem (by omega)))
      repeat' (first | (show W _ _ _ _ _ _; first | apply kA | refine kB rfl ?_ | refine kC rfl rfl ?_ | refine kD rfl rfl ?_ | apply kE | apply kF | apply kG | apply kH | refine kI (by kernel_rfl) (by kernel_rfl) ?_) | (show O _ _ _ _ _ _ _; first | (show O _ _ _ _ (⟨_, .store _ _ _, _, _, _, _⟩ :: _) _ _; refine kJ rfl rfl rfl rfl rfl rfl rfl rfl rfl rfl rfl ?_) | apply kK) | apply kL | ((first | apply kM | apply kN); (iterate 3 (· exact rfl)); (· first | (show Y _ ⟨_, .indexAddr _ _ _, _, _, _, _⟩ _ _ _; first | exact q_ioE (kq) rfl rfl rfl rfl rfl rfl (by omega) (by omega) | exact q_ioE (kp) rfl rfl rfl rfl rfl rfl (by omega) (by omega)) | (show Y _ ⟨_, .load _ _, _, _, _, _⟩ _ _ _; first | exact q_pE' qq | exact q_pE' qp) | (show Y _ ⟨_, .binOp .shr _ _ _ _, _, _, _, _⟩ _ _ _; first | exact q_half kq rfl rfl (Or.inl rfl) (by omega) (by omega) | exact q_half kq rfl rfl (Or.inr rfl) (by omega) (by omega)) | (show Y _ ⟨_, .call ⟨.value _, _, _⟩, _, _, _, _⟩ _ _ _; first | exact q_c (hc1) rfl) | exact ya)) | refine kO rfl rfl rfl rfl rfl ?_ | refine kP rfl rfl rfl ?_ | ((first | refine kQ rfl rfl ?_ ?_ | refine kR rfl rfl rfl rfl rfl ?_ ?_ | refine kS rfl rfl rfl ?_ ?_) <;> intro hc <;> (try simp only [KL, cond_true, cond_false, beq_iff_eq, bne_iff_ne, ne_eq, reduceCtorEq] at hc) <;> (try (have hT : True := hc; clear hT hc)) <;> (try (exfalso; omega))) | apply kT | apply kU | apply kV | apply kW | refine kX rfl ?_ | apply kY | apply kZ)
      all_goals first | (exfalso; omega) | skip
      · have n1 : ltcDue c (yy.getD (h - 1 - q) default) (xx.getD q default) = false := decide_eq_false (by omega)
        exact ⟨(q + 1, j), ⟨by simp only; omega, k2, k2', by simp only; omega, fun k h5 h6 => mono1' hs hy (i := h - 1 - q) (by simp only at h5; omega) (by omega) (mono2 hs hx (j := q) (by simp only at h5; omega) (by omega) n1), k4⟩, by simp only; omega, les, leh⟩
      · have n1 : ltcDue c (yy.getD (h - 1 - q) default) (xx.getD q default) = true := decide_eq_true (by omega)
        exact ⟨(i, q), ⟨by simp only; omega, by simp only; omega, by simp only; omega, k2'', k3, fun k h5 h6 h7 => mono1 hs hy (j := h - 1 - q) (by simp only at h5; omega) (by omega) (mono2' hs hx (i := q) h5 h7 n1)⟩, by simp only; omega, les, leh⟩
    · subst hij
      obtain ⟨x1, x2, e1, l1, hx1', hx2', px1, px2⟩ : ∃ x1 x2, xx = x1 ++ x2 ∧ x1.length = i ∧ x1 = xx.take i ∧ x2 = xx.drop i ∧ (∀ x ∈ x1, p x) ∧ (∀ x ∈ x2, p x) :=
        ⟨xx.take i, xx.drop i, (tdl _ _).symm, by rw [List.length_take]; omega, rfl, rfl, fun x hx => hp x (List.mem_of_mem_take hx), fun x hx => hp x (List.mem_of_mem_drop hx)⟩
      obtain ⟨y1, y2, e2, l2, hy1', hy2', py1, py2⟩ : ∃ y1 y2, yy = y1 ++ y2 ∧ y1.length = h - i ∧ y1 = yy.take (h - i) ∧ y2 = yy.drop (h - i) ∧ (∀ x ∈ y1, p x) ∧ (∀ x ∈ y2, p x) :=
        ⟨yy.take (h - i), yy.drop (h - i), (tdl _ _).symm, by rw [List.length_take]; omega, rfl, rfl, fun x hx => hp' x (List.mem_of_mem_take hx), fun x hx => hp' x (List.mem_of_mem_drop hx)⟩
      have sx1 : Srt (ltcDue c) x1 := hx1' ▸ hx.take i
      have sx2 : Srt (ltcDue c) x2 := hx2' ▸ hx.drop i
      have sy1 : Srt (ltcDue c) y1 := hy1' ▸ hy.take _
      have sy2 : Srt (ltcDue c) y2 := hy2' ▸ hy.drop _
      have hparts : ∀ L R, StS (ltcDue c) (x1 ++ y1) L → StS (ltcDue c) (x2 ++ y2) R → StS (ltcDue c) (xx ++ yy) (L ++ R) := fun L R hL hR => by
        rw [hx1', hy1'] at hL
        rw [hx2', hy2'] at hR
        exact sm_parts hs hx hy hh k2'' k2 k2' k3 k4 hL hR
      have n1 : x1.length + x2.length = xx.length := by rw [e1]; simp
      have n2 : y1.length + y2.length = yy.length := by rw [e2]; simp
      have eM : M = pp ++ x1 ++ x2 ++ y1 ++ (y2 ++ ss) := by rw [hM, e1, e2]; simp
      clear hM e1 e2 hx1' hx2' hy1' hy2'
      subst eM
      rcases Decidable.em (0 < x2.length ∧ 0 < y1.length) with hR0 | hR0
      · rcases Decidable.em (0 < x1.length ∧ 0 < y1.length) with hA0 | hA0
        · rcases Decidable.em (0 < x2.length ∧ 0 < y2.length) with hB0 | hB0
          · first
            | (exfalso; omega)
            | (repeat' (first | (show W _ _ _ _ _ _; first | apply kA | refine kB rfl ?_ | refine kC rfl rfl ?_ | refine kD rfl rfl ?_ | apply kE | apply kF | apply kG | apply kH | refine kI (by kernel_rfl) (by kernel_rfl) ?_) | (show O _ _ _ _ _ _ _; first | (show O _ _ _ _ (⟨_, .store _ _ _, _, _, _, _⟩ :: _) _ _; refine kJ rfl rfl rfl rfl rfl rfl rfl rfl rfl rfl rfl ?_) | apply kK) | apply kL | ((first | apply kM | apply kN); (iterate 3 (· exact rfl)); (· first | exact ya)) | refine kO rfl rfl rfl rfl rfl ?_ | refine kP rfl rfl rfl ?_ | ((first | refine kQ rfl rfl ?_ ?_ | refine kR rfl rfl rfl rfl rfl ?_ ?_ | refine kS rfl rfl rfl ?_ ?_) <;> intro hc <;> (try simp only [KL, cond_true, cond_false, beq_iff_eq, bne_iff_ne, ne_eq, reduceCtorEq] at hc) <;> (try (have hT : True := hc; clear hT hc)) <;> (try (exfalso; omega))) | apply kT | apply kU | apply kV | apply kW | refine kX rfl ?_ | apply kY | apply kZ)
               all_goals first | (exfalso; omega) | skip
               refine zcall (fun i => i) (rot_Due fc  (pp ++ x1) x2 y1 (y2 ++ ss) _ _ _ (by simp only [List.length_append]; omega) (by simp only [List.length_append]; omega) (by simp only [List.length_append]; omega) (by omega) (by omega) (by simp only [List.length_append]; omega)) rfl rfl leh rfl rfl rfl rfl rfl rfl (fun r h' hR => ?_)
               obtain ⟨rfl, rfl⟩ := hR
               refine ⟨rfl, rfl, ?_⟩
               rw [show pp ++ x1 ++ y1 ++ x2 ++ (y2 ++ ss) = pp ++ x1 ++ y1 ++ (x2 ++ (y2 ++ ss)) by simp]
               repeat' (first | (show W _ _ _ _ _ _; first | apply kA | refine kB rfl ?_ | refine kC rfl rfl ?_ | refine kD rfl rfl ?_ | apply kE | apply kF | apply kG | apply kH | refine kI (by kernel_rfl) (by kernel_rfl) ?_) | (show O _ _ _ _ _ _ _; first | (show O _ _ _ _ (⟨_, .store _ _ _, _, _, _, _⟩ :: _) _ _; refine kJ rfl rfl rfl rfl rfl rfl rfl rfl rfl rfl rfl ?_) | apply kK) | apply kL | ((first | apply kM | apply kN); (iterate 3 (· exact rfl)); (· first | exact ya)) | refine kO rfl rfl rfl rfl rfl ?_ | refine kP rfl rfl rfl ?_ | ((first | refine kQ rfl rfl ?_ ?_ | refine kR rfl rfl rfl rfl rfl ?_ ?_ | refine kS rfl rfl rfl ?_ ?_) <;> intro hc <;> (try simp only [KL, cond_true, cond_false, beq_iff_eq, bne_iff_ne, ne_eq, reduceCtorEq] at hc) <;> (try (have hT : True := hc; clear hT hc)) <;> (try (exfalso; omega))) | apply kT | apply kU | apply kV | apply kW | refine kX rfl ?_ | apply kY | apply kZ)
               all_goals first | (exfalso; omega) | skip
               refine zcall (fun i => i) (ih pp x1 y1 (x2 ++ (y2 ++ ss)) (by omega) px1 py1 sx1 sy1 (by omega) (by omega) _ _ _ (by omega) (by omega) (by omega) (by simp only [List.length_append]; omega)) rfl rfl leh rfl rfl rfl rfl rfl rfl (fun r h' hR => ?_)
               obtain ⟨rfl, M1, hM1, rfl⟩ := hR
               refine ⟨rfl, rfl, ?_⟩
               have lM1 : M1.length = x1.length + y1.length := by have := hM1.1.len; rwa [List.length_append] at this
               rw [show pp ++ M1 ++ (x2 ++ (y2 ++ ss)) = pp ++ M1 ++ x2 ++ y2 ++ ss by simp]
               repeat' (first | (show W _ _ _ _ _ _; first | apply kA | refine kB rfl ?_ | refine kC rfl rfl ?_ | refine kD rfl rfl ?_ | apply kE | apply kF | apply kG | apply kH | refine kI (by kernel_rfl) (by kernel_rfl) ?_) | (show O _ _ _ _ _ _ _; first | (show O _ _ _ _ (⟨_, .store _ _ _, _, _, _, _⟩ :: _) _ _; refine kJ rfl rfl rfl rfl rfl rfl rfl rfl rfl rfl rfl ?_) | apply kK) | apply kL | ((first | apply kM | apply kN); (iterate 3 (· exact rfl)); (· first | exact ya)) | refine kO rfl rfl rfl rfl rfl ?_ | refine kP rfl rfl rfl ?_ | ((first | refine kQ rfl rfl ?_ ?_ | refine kR rfl rfl rfl rfl rfl ?_ ?_ | refine kS rfl rfl rfl ?_ ?_) <;> intro hc <;> (try simp only [KL, cond_true, cond_false, beq_iff_eq, bne_iff_ne, ne_eq, reduceCtorEq] at hc) <;> (try (have hT : True := hc; clear hT hc)) <;> (try (exfalso; omega))) | apply kT | apply kU | apply kV | apply kW | refine kX rfl ?_ | apply kY | apply kZ)
               all_goals first | (exfalso; omega) | skip
               refine zcall (fun i => i) (ih (pp ++ M1) x2 y2 ss (by omega) px2 py2 sx2 sy2 (by omega) (by omega) _ _ _ (by simp only [List.length_append]; omega) (by simp only [List.length_append]; omega) (by simp only [List.length_append]; omega) (by simp only [List.length_append]; omega)) rfl rfl leh rfl rfl rfl rfl rfl rfl (fun r h' hR => ?_)
               obtain ⟨rfl, M2, hM2, rfl⟩ := hR
               refine ⟨rfl, rfl, ?_⟩
               rw [show pp ++ M1 ++ M2 ++ ss = pp ++ (M1 ++ M2) ++ ss by simp]
               repeat' (first | (show W _ _ _ _ _ _; first | apply kA | refine kB rfl ?_ | refine kC rfl rfl ?_ | refine kD rfl rfl ?_ | apply kE | apply kF | apply kG | apply kH | refine kI (by kernel_rfl) (by kernel_rfl) ?_) | (show O _ _ _ _ _ _ _; first | (show O _ _ _ _ (⟨_, .store _ _ _, _, _, _, _⟩ :: _) _ _; refine kJ rfl rfl rfl rfl rfl rfl rfl rfl rfl rfl rfl ?_) | apply kK) | apply kL | ((first | apply kM | apply kN); (iterate 3 (· exact rfl)); (· first | exact ya)) | refine kO rfl rfl rfl rfl rfl ?_ | refine kP rfl rfl rfl ?_ | ((first | refine kQ rfl rfl ?_ ?_ | refine kR rfl rfl rfl rfl rfl ?_ ?_ | refine kS rfl rfl rfl ?_ ?_) <;> intro hc <;> (try simp only [KL, cond_true, cond_false, beq_iff_eq, bne_iff_ne, ne_eq, reduceCtorEq] at hc) <;> (try (have hT : True := hc; clear hT hc)) <;> (try (exfalso; omega))) | apply kT | apply kU | apply kV | apply kW | refine kX rfl ?_ | apply kY | apply kZ)
               all_goals first | (exfalso; omega) | skip
               all_goals first | exact retn rfl ⟨rfl, M1 ++ M2, hparts _ _ hM1 hM2, rfl⟩ | exact retq rfl ⟨rfl, M1 ++ M2, hparts _ _ hM1 hM2, rfl⟩)
          · first
            | (exfalso; omega)
            | (repeat' (first | (show W _ _ _ _ _ _; first | apply kA | refine kB rfl ?_ | refine kC rfl rfl ?_ | refine kD rfl rfl ?_ | apply kE | apply kF | apply kG | apply kH | refine kI (by kernel_rfl) (by kernel_rfl) ?_) | (show O _ _ _ _ _ _ _; first | (show O _ _ _ _ (⟨_, .store _ _ _, _, _, _, _⟩ :: _) _ _; refine kJ rfl rfl rfl rfl rfl rfl rfl rfl rfl rfl rfl ?_) | apply kK) | apply kL | ((first | apply kM | apply kN); (iterate 3 (· exact rfl)); (· first | exact ya)) | refine kO rfl rfl rfl rfl rfl ?_ | refine kP rfl rfl rfl ?_ | ((first | refine kQ rfl rfl ?_ ?_ | refine kR rfl rfl rfl rfl rfl ?_ ?_ | refine kS rfl rfl rfl ?_ ?_) <;> intro hc <;> (try simp only [KL, cond_true, cond_false, beq_iff_eq, bne_iff_ne, ne_eq, reduceCtorEq] at hc) <;> (try (have hT : True := hc; clear hT hc)) <;> (try (exfalso; omega))) | apply kT | apply kU | apply kV | apply kW | refine kX rfl ?_ | apply kY | apply kZ)
               all_goals first | (exfalso; omega) | skip
               refine zcall (fun i => i) (rot_Due fc  (pp ++ x1) x2 y1 (y2 ++ ss) _ _ _ (by simp only [List.length_append]; omega) (by simp only [List.length_append]; omega) (by simp only [List.length_append]; omega) (by omega) (by omega) (by simp only [List.length_append]; omega)) rfl rfl leh rfl rfl rfl rfl rfl rfl (fun r h' hR => ?_)
               obtain ⟨rfl, rfl⟩ := hR
               refine ⟨rfl, rfl, ?_⟩
               rw [show pp ++ x1 ++ y1 ++ x2 ++ (y2 ++ ss) = pp ++ x1 ++ y1 ++ (x2 ++ (y2 ++ ss)) by simp]
               repeat' (first | (show W _ _ _ _ _ _; first | apply kA | refine kB rfl ?_ | refine kC rfl rfl ?_ | refine kD rfl rfl ?_ | apply kE | apply kF | apply kG | apply kH | refine kI (by kernel_rfl) (by kernel_rfl) ?_) | (show O _ _ _ _ _ _ _; first | (show O _ _ _ _ (⟨_, .store _ _ _, _, _, _, _⟩ :: _) _ _; refine kJ rfl rfl rfl rfl rfl rfl rfl rfl rfl rfl rfl ?_) | apply kK) | apply kL | ((first | apply kM | apply kN); (iterate 3 (· exact rfl)); (· first | exact ya)) | refine kO rfl rfl rfl rfl rfl ?_ | refine kP rfl rfl rfl ?_ | ((first | refine kQ rfl rfl ?_ ?_ | refine kR rfl rfl rfl rfl rfl ?_ ?_ | refine kS rfl rfl rfl ?_ ?_) <;> intro hc <;> (try simp only [KL, cond_true, cond_false, beq_iff_eq, bne_iff_ne, ne_eq, reduceCtorEq] at hc) <;> (try (have hT : True := hc; clear hT hc)) <;> (try (exfalso; omega))) | apply kT | apply kU | apply kV | apply kW | refine kX rfl ?_ | apply kY | apply kZ)
               all_goals first | (exfalso; omega) | skip
               refine zcall (fun i => i) (ih pp x1 y1 (x2 ++ (y2 ++ ss)) (by omega) px1 py1 sx1 sy1 (by omega) (by omega) _ _ _ (by omega) (by omega) (by omega) (by simp only [List.length_append]; omega)) rfl rfl leh rfl rfl rfl rfl rfl rfl (fun r h' hR => ?_)
               obtain ⟨rfl, M1, hM1, rfl⟩ := hR
               refine ⟨rfl, rfl, ?_⟩
               have lM1 : M1.length = x1.length + y1.length := by have := hM1.1.len; rwa [List.length_append] at this
               obtain ⟨M2, hM2, eB⟩ : ∃ M2, StS (ltcDue c) (x2 ++ y2) M2 ∧ pp ++ M1 ++ (x2 ++ (y2 ++ ss)) = pp ++ (M1 ++ M2) ++ ss := by
                 refine ⟨x2 ++ y2, .self ?_, by simp⟩
                 rcases Nat.eq_zero_or_pos x2.length with z | z
                 · rw [List.eq_nil_of_length_eq_zero z]; exact sy2
                 · rw [List.eq_nil_of_length_eq_zero (show y2.length = 0 by omega), List.append_nil]; exact sx2
               rw [eB]
               repeat' (first | (show W _ _ _ _ _ _; first | apply kA | refine kB rfl ?_ | refine kC rfl rfl ?_ | refine kD rfl rfl ?_ | apply kE | apply kF | apply kG | apply kH | refine kI (by kernel_rfl) (by kernel_rfl) ?_) | (show O _ _ _ _ _ _ _; first | (show O _ _ _ _ (⟨_, .store _ _ _, _, _, _, _⟩ :: _) _ _; refine kJ rfl rfl rfl rfl rfl rfl rfl rfl rfl rfl rfl ?_) | apply kK) | apply kL | ((first | apply kM | apply kN); (iterate 3 (· exact rfl)); (· first | exact ya)) | refine kO rfl rfl rfl rfl rfl ?_ | refine kP rfl rfl rfl ?_ | ((first | refine kQ rfl rfl ?_ ?_ | refine kR rfl rfl rfl rfl rfl ?_ ?_ | refine kS rfl rfl rfl ?_ ?_) <;> intro hc <;> (try simp only [KL, cond_true, cond_false, beq_iff_eq, bne_iff_ne, ne_eq, reduceCtorEq] at hc) <;> (try (have hT : True := hc; clear hT hc)) <;> (try (exfalso; omega))) | apply kT | apply kU | apply kV | apply kW | refine kX rfl ?_ | apply kY | apply kZ)
               all_goals first | (exfalso; omega) | skip
               all_goals first | exact retn rfl ⟨rfl, M1 ++ M2, hparts _ _ hM1 hM2, rfl⟩ | exact retq rfl ⟨rfl, M1 ++ M2, hparts _ _ hM1 hM2, rfl⟩)
        · rcases Decidable.em (0 < x2.length ∧ 0 < y2.length) with hB0 | hB0
          · first
            | (exfalso; omega)
            | (repeat' (first | (show W _ _ _ _ _ _; first | apply kA | refine kB rfl ?_ | refine kC rfl rfl ?_ | refine kD rfl rfl ?_ | apply kE | apply kF | apply kG | apply kH | refine kI (by kernel_rfl) (by kernel_rfl) ?_) | (show O _ _ _ _ _ _ _; first | (show O _ _ _ _ (⟨_, .store _ _ _, _, _, _, _⟩ :: _) _ _; refine kJ rfl rfl rfl rfl rfl rfl rfl rfl rfl rfl rfl ?_) | apply kK) | apply kL | ((first | apply kM | apply kN); (iterate 3 (· exact rfl)); (· first | exact ya)) | refine kO rfl rfl rfl rfl rfl ?_ | refine kP rfl rfl rfl ?_ | ((first | refine kQ rfl rfl ?_ ?_ | refine kR rfl rfl rfl rfl rfl ?_ ?_ | refine kS rfl rfl rfl ?_ ?_) <;> intro hc <;> (try simp only [KL, cond_true, cond_false, beq_iff_eq, bne_iff_ne, ne_eq, reduceCtorEq] at hc) <;> (try (have hT : True := hc; clear hT hc)) <;> (try (exfalso; omega))) | apply kT | apply kU | apply kV | apply kW | refine kX rfl ?_ | apply kY | apply kZ)
               all_goals first | (exfalso; omega) | skip
               refine zcall (fun i => i) (rot_Due fc  (pp ++ x1) x2 y1 (y2 ++ ss) _ _ _ (by simp only [List.length_append]; omega) (by simp only [List.length_append]; omega) (by simp only [List.length_append]; omega) (by omega) (by omega) (by simp only [List.length_append]; omega)) rfl rfl leh rfl rfl rfl rfl rfl rfl (fun r h' hR => ?_)
               obtain ⟨rfl, rfl⟩ := hR
               refine ⟨rfl, rfl, ?_⟩
               obtain ⟨M1, hM1, eA⟩ : ∃ M1, StS (ltcDue c) (x1 ++ y1) M1 ∧ pp ++ x1 ++ y1 ++ x2 ++ (y2 ++ ss) = pp ++ M1 ++ (x2 ++ (y2 ++ ss)) := by
                 refine ⟨x1 ++ y1, .self ?_, by simp⟩
                 rcases Nat.eq_zero_or_pos x1.length with z | z
                 · rw [List.eq_nil_of_length_eq_zero z]; exact sy1
                 · rw [List.eq_nil_of_length_eq_zero (show y1.length = 0 by omega), List.append_nil]; exact sx1
               rw [eA]
               have lM1 : M1.length = x1.length + y1.length := by have := hM1.1.len; rwa [List.length_append] at this
               rw [show pp ++ M1 ++ (x2 ++ (y2 ++ ss)) = pp ++ M1 ++ x2 ++ y2 ++ ss by simp]
               repeat' (first | (show W _ _ _ _ _ _; first | apply kA | refine kB rfl ?_ | refine kC rfl rfl ?_ | refine kD rfl rfl ?_ | apply kE | apply kF | apply kG | apply kH | refine kI (by kernel_rfl) (by kernel_rfl) ?_) | (show O _ _ _ _ _ _ _; first | (show O _ _ _ _ (⟨_, .store _ _ _, _, _, _, _⟩ :: _) _ _; refine kJ rfl rfl rfl rfl rfl rfl rfl rfl rfl rfl rfl ?_) | apply kK) | apply kL | ((first | apply kM | apply kN); (iterate 3 (· exact rfl)); (· first | exact ya)) | refine kO rfl rfl rfl rfl rfl ?_ | refine kP rfl rfl rfl ?_ | ((first | refine kQ rfl rfl ?_ ?_ | refine kR rfl rfl rfl rfl rfl ?_ ?_ | refine kS rfl rfl rfl ?_ ?_) <;> intro hc <;> (try simp only [KL, cond_true, cond_false, beq_iff_eq, bne_iff_ne, ne_eq, reduceCtorEq] at hc) <;> (try (have hT : True := hc; clear hT hc)) <;> (try (exfalso; omega))) | apply kT | apply kU | apply kV | apply kW | refine kX rfl ?_ | apply kY | apply kZ)
               all_goals first | (exfalso; omega) | skip
               refine zcall (fun i => i) (ih (pp ++ M1) x2 y2 ss (by omega) px2 py2 sx2 sy2 (by omega) (by omega) _ _ _ (by simp only [List.length_append]; omega) (by simp only [List.length_append]; omega) (by simp only [List.length_append]; omega) (by simp only [List.length_append]; omega)) rfl rfl leh rfl rfl rfl rfl rfl rfl (fun r h' hR => ?_)
               obtain ⟨rfl, M2, hM2, rfl⟩ := hR
               refine ⟨rfl, rfl, ?_⟩
               rw [show pp ++ M1 ++ M2 ++ ss = pp ++ (M1 ++ M2) ++ ss by simp]
               repeat' (first | (show W _ _ _ _ _ _; first | apply kA | refine kB rfl ?_ | refine kC rfl rfl ?_ | refine kD rfl rfl ?_ | apply kE | apply kF | apply kG | apply kH | refine kI (by kernel_rfl) (by kernel_rfl) ?_) | (show O _ _ _ _ _ _ _; first | (show O _ _ _ _ (⟨_, .store _ _ _, _, _, _, _⟩ :: _) _ _; refine kJ rfl rfl rfl rfl rfl rfl rfl rfl rfl rfl rfl ?_) | apply kK) | apply kL | ((first | apply kM | apply kN); (iterate 3 (· exact rfl)); (· first | exact ya)) | refine kO rfl rfl rfl rfl rfl ?_ | refine kP rfl rfl rfl ?_ | ((first | refine kQ rfl rfl ?_ ?_ | refine kR rfl rfl rfl rfl rfl ?_ ?_ | refine kS rfl rfl rfl ?_ ?_) <;> intro hc <;> (try simp only [KL, cond_true, cond_false, beq_iff_eq, bne_iff_ne, ne_eq, reduceCtorEq] at hc) <;> (try (have hT : True := hc; clear hT hc)) <;> (try (exfalso; omega))) | apply kT | apply kU | apply kV | apply kW | refine kX rfl ?_ | apply kY | apply kZ)
               all_goals first | (exfalso; omega) | skip
               all_goals first | exact retn rfl ⟨rfl, M1 ++ M2, hparts _ _ hM1 hM2, rfl⟩ | exact retq rfl ⟨rfl, M1 ++ M2, hparts _ _ hM1 hM2, rfl⟩)
          · first
            | (exfalso; omega)
            | (repeat' (first | (show W _ _ _ _ _ _; first | apply kA | refine kB rfl ?_ | refine kC rfl rfl ?_ | refine kD rfl rfl ?_ | apply kE | apply kF | apply kG | apply kH | refine kI (by kernel_rfl) (by kernel_rfl) ?_) | (show O _ _ _ _ _ _ _; first | (show O _ _ _ _ (⟨_, .store _ _ _, _, _, _, _⟩ :: _) _ _; refine kJ rfl rfl rfl rfl rfl rfl rfl rfl rfl rfl rfl ?_) | apply kK) | apply kL | ((first | apply kM | apply kN); (iterate 3 (· exact rfl)); (· first | exact ya)) | refine kO rfl rfl rfl rfl rfl ?_ | refine kP rfl rfl rfl ?_ | ((first | refine kQ rfl rfl ?_ ?_ | refine kR rfl rfl rfl rfl rfl ?_ ?_ | refine kS rfl rfl rfl ?_ ?_) <;> intro hc <;> (try simp only [KL, cond_true, cond_false, beq_iff_eq, bne_iff_ne, ne_eq, reduceCtorEq] at hc) <;> (try (have hT : True := hc; clear hT hc)) <;> (try (exfalso; omega))) | apply kT | apply kU | apply kV | apply kW | refine kX rfl ?_ | apply kY | apply kZ)
               all_goals first | (exfalso; omega) | skip
               refine zcall (fun i => i) (rot_Due fc  (pp ++ x1) x2 y1 (y2 ++ ss) _ _ _ (by simp only [List.length_append]; omega) (by simp only [List.length_append]; omega) (by simp only [List.length_append]; omega) (by omega) (by omega) (by simp only [List.length_append]; omega)) rfl rfl leh rfl rfl rfl rfl rfl rfl (fun r h' hR => ?_)
               obtain ⟨rfl, rfl⟩ := hR
               refine ⟨rfl, rfl, ?_⟩
               obtain ⟨M1, hM1, eA⟩ : ∃ M1, StS (ltcDue c) (x1 ++ y1) M1 ∧ pp ++ x1 ++ y1 ++ x2 ++ (y2 ++ ss) = pp ++ M1 ++ (x2 ++ (y2 ++ ss)) := by
                 refine ⟨x1 ++ y1, .self ?_, by simp⟩
                 rcases Nat.eq_zero_or_pos x1.length with z | z
                 · rw [List.eq_nil_of_length_eq_zero z]; exact sy1
                 · rw [List.eq_nil_of_length_eq_zero (show y1.length = 0 by omega), List.append_nil]; exact sx1
               rw [eA]
               have lM1 : M1.length = x1.length + y1.length := by have := hM1.1.len; rwa [List.length_append] at this
               obtain ⟨M2, hM2, eB⟩ : ∃ M2, StS (ltcDue c) (x2 ++ y2) M2 ∧ pp ++ M1 ++ (x2 ++ (y2 ++ ss)) = pp ++ (M1 ++ M2) ++ ss := by
                 refine ⟨x2 ++ y2, .self ?_, by simp⟩
                 rcases Nat.eq_zero_or_pos x2.length with z | z
                 · rw [List.eq_nil_of_length_eq_zero z]; exact sy2
                 · rw [List.eq_nil_of_length_eq_zero (show y2.length = 0 by omega), List.append_nil]; exact sx2
               rw [eB]
               repeat' (first | (show W _ _ _ _ _ _; first | apply kA | refine kB rfl ?_ | refine kC rfl rfl ?_ | refine kD rfl rfl ?_ | apply kE | apply kF | apply kG | apply kH | refine kI (by kernel_rfl) (by kernel_rfl) ?_) | (show O _ _ _ _ _ _ _; first | (show O _ _ _ _ (⟨_, .store _ _ _, _, _, _, _⟩ :: _) _ _; refine kJ rfl rfl rfl rfl rfl rfl rfl rfl rfl rfl rfl ?_) | apply kK) | apply kL | ((first | apply kM | apply kN); (iterate 3 (· exact rfl)); (· first | exact ya)) | refine kO rfl rfl rfl rfl rfl ?_ | refine kP rfl rfl rfl ?_ | ((first | refine kQ rfl rfl ?_ ?_ | refine kR rfl rfl rfl rfl rfl ?_ ?_ | refine kS rfl rfl rfl ?_ ?_) <;> intro hc <;> (try simp only [KL, cond_true, cond_false, beq_iff_eq, bne_iff_ne, ne_eq, reduceCtorEq] at hc) <;> (try (have hT : True := hc; clear hT hc)) <;> (try (exfalso; omega))) | apply kT | apply kU | apply kV | apply kW | refine kX rfl ?_ | apply kY | apply kZ)
               all_goals first | (exfalso; omega) | skip
               all_goals first | exact retn rfl ⟨rfl, M1 ++ M2, hparts _ _ hM1 hM2, rfl⟩ | exact retq rfl ⟨rfl, M1 ++ M2, hparts _ _ hM1 hM2, rfl⟩)
      · rcases Decidable.em (0 < x1.length ∧ 0 < y1.length) with hA0 | hA0
        · rcases Decidable.em (0 < x2.length ∧ 0 < y2.length) with hB0 | hB0
          · first
            | (exfalso; omega)
            | (have eR : pp ++ x1 ++ x2 ++ y1 ++ (y2 ++ ss) = pp ++ x1 ++ y1 ++ x2 ++ (y2 ++ ss) := by
                 rcases Nat.eq_zero_or_pos x2.length with z | z
                 · rw [List.eq_nil_of_length_eq_zero z]; simp
                 · rw [List.eq_nil_of_length_eq_zero (show y1.length = 0 by omega)]; simp
               rw [eR]
               rw [show pp ++ x1 ++ y1 ++ x2 ++ (y2 ++ ss) = pp ++ x1 ++ y1 ++ (x2 ++ (y2 ++ ss)) by simp]
               repeat' (first | (show W _ _ _ _ _ _; first | apply kA | refine kB rfl ?_ | refine kC rfl rfl ?_ | refine kD rfl rfl ?_ | apply kE | apply kF | apply kG | apply kH | refine kI (by kernel_rfl) (by kernel_rfl) ?_) | (show O _ _ _ _ _ _ _; first | (show O _ _ _ _ (⟨_, .store _ _ _, _, _, _, _⟩ :: _) _ _; refine kJ rfl rfl rfl rfl rfl rfl rfl rfl rfl rfl rfl ?_) | apply kK) | apply kL | ((first | apply kM | apply kN); (iterate 3 (· exact rfl)); (· first | exact ya)) | refine kO rfl rfl rfl rfl rfl ?_ | refine kP rfl rfl rfl ?_ | ((first | refine kQ rfl rfl ?_ ?_ | refine kR rfl rfl rfl rfl rfl ?_ ?_ | refine kS rfl rfl rfl ?_ ?_) <;> intro hc <;> (try simp only [KL, cond_true, cond_false, beq_iff_eq, bne_iff_ne, ne_eq, reduceCtorEq] at hc) <;> (try (have hT : True := hc; clear hT hc)) <;> (try (exfalso; omega))) | apply kT | apply kU | apply kV | apply kW | refine kX rfl ?_ | apply kY | apply kZ)
               all_goals first | (exfalso; omega) | skip
               refine zcall (fun i => i) (ih pp x1 y1 (x2 ++ (y2 ++ ss)) (by omega) px1 py1 sx1 sy1 (by omega) (by omega) _ _ _ (by omega) (by omega) (by omega) (by simp only [List.length_append]; omega)) rfl rfl leh rfl rfl rfl rfl rfl rfl (fun r h' hR => ?_)
               obtain ⟨rfl, M1, hM1, rfl⟩ := hR
               refine ⟨rfl, rfl, ?_⟩
               have lM1 : M1.length = x1.length + y1.length := by have := hM1.1.len; rwa [List.length_append] at this
               rw [show pp ++ M1 ++ (x2 ++ (y2 ++ ss)) = pp ++ M1 ++ x2 ++ y2 ++ ss by simp]
               repeat' (first | (show W _ _ _ _ _ _; first | apply kA | refine kB rfl ?_ | refine kC rfl rfl ?_ | refine kD rfl rfl ?_ | apply kE | apply kF | apply kG | apply kH | refine kI (by kernel_rfl) (by kernel_rfl) ?_) | (show O _ _ _ _ _ _ _; first | (show O _ _ _ _ (⟨_, .store _ _ _, _, _, _, _⟩ :: _) _ _; refine kJ rfl rfl rfl rfl rfl rfl rfl rfl rfl rfl rfl ?_) | apply kK) | apply kL | ((first | apply kM | apply kN); (iterate 3 (· exact rfl)); (· first | exact ya)) | refine kO rfl rfl rfl rfl rfl ?_ | refine kP rfl rfl rfl ?_ | ((first | refine kQ rfl rfl ?_ ?_ | refine kR rfl rfl rfl rfl rfl ?_ ?_ | refine kS rfl rfl rfl ?_ ?_) <;> intro hc <;> (try simp only [KL, cond_true, cond_false, beq_iff_eq, bne_iff_ne, ne_eq, reduceCtorEq] at hc) <;> (try (have hT : True := hc; clear hT hc)) <;> (try (exfalso; omega))) | apply kT | apply kU | apply kV | apply kW | refine kX rfl ?_ | apply kY | apply kZ)
               all_goals first | (exfalso; omega) | skip
               refine zcall (fun i => i) (ih (pp ++ M1) x2 y2 ss (by omega) px2 py2 sx2 sy2 (by omega) (by omega) _ _ _ (by simp only [List.length_append]; omega) (by simp only [List.length_append]; omega) (by simp only [List.length_append]; omega) (by simp only [List.length_append]; omega)) rfl rfl leh rfl rfl rfl rfl rfl rfl (fun r h' hR => ?_)
               obtain ⟨rfl, M2, hM2, rfl⟩ := hR
               refine ⟨rfl, rfl, ?_⟩
               rw [show pp ++ M1 ++ M2 ++ ss = pp ++ (M1 ++ M2) ++ ss by simp]
               repeat' (first | (show W _ _ _ _ _ _; first | apply kA | refine kB rfl ?_ | refine kC rfl rfl ?_ | refine kD rfl rfl ?_ | apply kE | apply kF | apply kG | apply kH | refine kI (by kernel_rfl) (by kernel_rfl) ?_) | (show O _ _ _ _ _ _ _; first | (show O _ _ _ _ (⟨_, .store _ _ _, _, _, _, _⟩ :: _) _ _; refine kJ rfl rfl rfl rfl rfl rfl rfl rfl rfl rfl rfl ?_) | apply kK) | apply kL | ((first | apply kM | apply kN); (iterate 3 (· exact rfl)); (· first | exact ya)) | refine kO rfl rfl rfl rfl rfl ?_ | refine kP rfl rfl rfl ?_ | ((first | refine kQ rfl rfl ?_ ?_ | refine kR rfl rfl rfl rfl rfl ?_ ?_ | refine kS rfl rfl rfl ?_ ?_) <;> intro hc <;> (try simp only [KL, cond_true, cond_false, beq_iff_eq, bne_iff_ne, ne_eq, reduceCtorEq] at hc) <;> (try (have hT : True := hc; clear hT hc)) <;> (try (exfalso; omega))) | apply kT | apply kU | apply kV | apply kW | refine kX rfl ?_ | apply kY | apply kZ)
               all_goals first | (exfalso; omega) | skip
               all_goals first | exact retn rfl ⟨rfl, M1 ++ M2, hparts _ _ hM1 hM2, rfl⟩ | exact retq rfl ⟨rfl, M1 ++ M2, hparts _ _ hM1 hM2, rfl⟩)
          · first
            | (exfalso; omega)
            | (have eR : pp ++ x1 ++ x2 ++ y1 ++ (y2 ++ ss) = pp ++ x1 ++ y1 ++ x2 ++ (y2 ++ ss) := by
                 rcases Nat.eq_zero_or_pos x2.length with z | z
                 · rw [List.eq_nil_of_length_eq_zero z]; simp
                 · rw [List.eq_nil_of_length_eq_zero (show y1.length = 0 by omega)]; simp
               rw [eR]
               rw [show pp ++ x1 ++ y1 ++ x2 ++ (y2 ++ ss) = pp ++ x1 ++ y1 ++ (x2 ++ (y2 ++ ss)) by simp]
               repeat' (first | (show W _ _ _ _ _ _; first | apply kA | refine kB rfl ?_ | refine kC rfl rfl ?_ | refine kD rfl rfl ?_ | apply kE | apply kF | apply kG | apply kH | refine kI (by kernel_rfl) (by kernel_rfl) ?_) | (show O _ _ _ _ _ _ _; first | (show O _ _ _ _ (⟨_, .store _ _ _, _, _, _, _⟩ :: _) _ _; refine kJ rfl rfl rfl rfl rfl rfl rfl rfl rfl rfl rfl ?_) | apply kK) | apply kL | ((first | apply kM | apply kN); (iterate 3 (· exact rfl)); (· first | exact ya)) | refine kO rfl rfl rfl rfl rfl ?_ | refine kP rfl rfl rfl ?_ | ((first | refine kQ rfl rfl ?_ ?_ | refine kR rfl rfl rfl rfl rfl ?_ ?_ | refine kS rfl rfl rfl ?_ ?_) <;> intro hc <;> (try simp only [KL, cond_true, cond_false, beq_iff_eq, bne_iff_ne, ne_eq, reduceCtorEq] at hc) <;> (try (have hT : True := hc; clear hT hc)) <;> (try (exfalso; omega))) | apply kT | apply kU | apply kV | apply kW | refine kX rfl ?_ | apply kY | apply kZ)
               all_goals first | (exfalso; omega) | skip
               refine zcall (fun i => i) (ih pp x1 y1 (x2 ++ (y2 ++ ss)) (by omega) px1 py1 sx1 sy1 (by omega) (by omega) _ _ _ (by omega) (by omega) (by omega) (by simp only [List.length_append]; omega)) rfl rfl leh rfl rfl rfl rfl rfl rfl (fun r h' hR => ?_)
               obtain ⟨rfl, M1, hM1, rfl⟩ := hR
               refine ⟨rfl, rfl, ?_⟩
               have lM1 : M1.length = x1.length + y1.length := by have := hM1.1.len; rwa [List.length_append] at this
               obtain ⟨M2, hM2, eB⟩ : ∃ M2, StS (ltcDue c) (x2 ++ y2) M2 ∧ pp ++ M1 ++ (x2 ++ (y2 ++ ss)) = pp ++ (M1 ++ M2) ++ ss := by
                 refine ⟨x2 ++ y2, .self ?_, by simp⟩
                 rcases Nat.eq_zero_or_pos x2.length with z | z
                 · rw [List.eq_nil_of_length_eq_zero z]; exact sy2
                 · rw [List.eq_nil_of_length_eq_zero (show y2.length = 0 by omega), List.append_nil]; exact sx2
               rw [eB]
               repeat' (first | (show W _ _ _ _ _ _; first | apply kA | refine kB rfl ?_ | refine kC rfl rfl ?_ | refine kD rfl rfl ?_ | apply kE | apply kF | apply kG | apply kH | refine kI (by kernel_rfl) (by kernel_rfl) ?_) | (show O _ _ _ _ _ _ _; first | (show O _ _ _ _ (⟨_, .store _ _ _, _, _, _, _⟩ :: _) _ _; refine kJ rfl rfl rfl rfl rfl rfl rfl rfl rfl rfl rfl ?_) | apply kK) | apply kL | ((first | apply kM | apply kN); (iterate 3 (· exact rfl)); (· first | exact ya)) | refine kO rfl rfl rfl rfl rfl ?_ | refine kP rfl rfl rfl ?_ | ((first | refine kQ rfl rfl ?_ ?_ | refine kR rfl rfl rfl rfl rfl ?_ ?_ | refine kS rfl rfl rfl ?_ ?_) <;> intro hc <;> (try simp only [KL, cond_true, cond_false, beq_iff_eq, bne_iff_ne, ne_eq, reduceCtorEq] at hc) <;> (try (have hT : True := hc; clear hT hc)) <;> (try (exfalso; omega))) | apply kT | apply kU | apply kV | apply kW | refine kX rfl ?_ | apply kY | apply kZ)
               all_goals first | (exfalso; omega) | skip
               all_goals first | exact retn rfl ⟨rfl, M1 ++ M2, hparts _ _ hM1 hM2, rfl⟩ | exact retq rfl ⟨rfl, M1 ++ M2, hparts _ _ hM1 hM2, rfl⟩)
        · rcases Decidable.em (0 < x2.length ∧ 0 < y2.length) with hB0 | hB0
          · first
            | (exfalso; omega)
            | (have eR : pp ++ x1 ++ x2 ++ y1 ++ (y2 ++ ss) = pp ++ x1 ++ y1 ++ x2 ++ (y2 ++ ss) := by
                 rcases Nat.eq_zero_or_pos x2.length with z | z
                 · rw [List.eq_nil_of_length_eq_zero z]; simp
                 · rw [List.eq_nil_of_length_eq_zero (show y1.length = 0 by omega)]; simp
               rw [eR]
               obtain ⟨M1, hM1, eA⟩ : ∃ M1, StS (ltcDue c) (x1 ++ y1) M1 ∧ pp ++ x1 ++ y1 ++ x2 ++ (y2 ++ ss) = pp ++ M1 ++ (x2 ++ (y2 ++ ss)) := by
                 refine ⟨x1 ++ y1, .self ?_, by simp⟩
                 rcases Nat.eq_zero_or_pos x1.length with z | z
                 · rw [List.eq_nil_of_length_eq_zero z]; exact sy1
                 · rw [List.eq_nil_of_length_eq_zero (show y1.length = 0 by omega), List.append_nil]; exact sx1
               rw [eA]
               have lM1 : M1.length = x1.length + y1.length := by have := hM1.1.len; rwa [List.length_append] at this
               rw [show pp ++ M1 ++ (x2 ++ (y2 ++ ss)) = pp ++ M1 ++ x2 ++ y2 ++ ss by simp]
               repeat' (first | (show W _ _ _ _ _ _; first | apply kA | refine kB rfl ?_ | refine kC rfl rfl ?_ | refine kD rfl rfl ?_ | apply kE | apply kF | apply kG | apply kH | refine kI (by kernel_rfl) (by kernel_rfl) ?_) | (show O _ _ _ _ _ _ _; first | (show O _ _ _ _ (⟨_, .store _ _ _, _, _, _, _⟩ :: _) _ _; refine kJ rfl rfl rfl rfl rfl rfl rfl rfl rfl rfl rfl ?_) | apply kK) | apply kL | ((first | apply kM | apply kN); (iterate 3 (· exact rfl)); (· first | exact ya)) | refine kO rfl rfl rfl rfl rfl ?_ | refine kP rfl rfl rfl ?_ | ((first | refine kQ rfl rfl ?_ ?_ | refine kR rfl rfl rfl rfl rfl ?_ ?_ | refine kS rfl rfl rfl ?_ ?_) <;> intro hc <;> (try simp only [KL, cond_true, cond_false, beq_iff_eq, bne_iff_ne, ne_eq, reduceCtorEq] at hc) <;> (try (have hT : True := hc; clear hT hc)) <;> (try (exfalso; omega))) | apply kT | apply kU | apply kV | apply kW | refine kX rfl ?_ | apply kY | apply kZ)
               all_goals first | (exfalso; omega) | skip
               refine zcall (fun i => i) (ih (pp ++ M1) x2 y2 ss (by omega) px2 py2 sx2 sy2 (by omega) (by omega) _ _ _ (by simp only [List.length_append]; omega) (by simp only [List.length_append]; omega) (by simp only [List.length_append]; omega) (by simp only [List.length_append]; omega)) rfl rfl leh rfl rfl rfl rfl rfl rfl (fun r h' hR => ?_)
               obtain ⟨rfl, M2, hM2, rfl⟩ := hR
               refine ⟨rfl, rfl, ?_⟩
               rw [show pp ++ M1 ++ M2 ++ ss = pp ++ (M1 ++ M2) ++ ss by simp]
               repeat' (first | (show W _ _ _ _ _ _; first | apply kA | refine kB rfl ?_ | refine kC rfl rfl ?_ | refine kD rfl rfl ?_ | apply kE | apply kF | apply kG | apply kH | refine kI (by kernel_rfl) (by kernel_rfl) ?_) | (show O _ _ _ _ _ _ _; first | (show O _ _ _ _ (⟨_, .store _ _ _, _, _, _, _⟩ :: _) _ _; refine kJ rfl rfl rfl rfl rfl rfl rfl rfl rfl rfl rfl ?_) | apply kK) | apply kL | ((first | apply kM | apply kN); (iterate 3 (· exact rfl)); (· first | exact ya)) | refine kO rfl rfl rfl rfl rfl ?_ | refine kP rfl rfl rfl ?_ | ((first | refine kQ rfl rfl ?_ ?_ | refine kR rfl rfl rfl rfl rfl ?_ ?_ | refine kS rfl rfl rfl ?_ ?_) <;> intro hc <;> (try simp only [KL, cond_true, cond_false, beq_iff_eq, bne_iff_ne, ne_eq, reduceCtorEq] at hc) <;> (try (have hT : True := hc; clear hT hc)) <;> (try (exfalso; omega))) | apply kT | apply kU | apply kV | apply kW | refine kX rfl ?_ | apply kY | apply kZ)
               all_goals first | (exfalso; omega) | skip
               all_goals first | exact retn rfl ⟨rfl, M1 ++ M2, hparts _ _ hM1 hM2, rfl⟩ | exact retq rfl ⟨rfl, M1 ++ M2, hparts _ _ hM1 hM2, rfl⟩)
          · first
            | (exfalso; omega)
            | (have eR : pp ++ x1 ++ x2 ++ y1 ++ (y2 ++ ss) = pp ++ x1 ++ y1 ++ x2 ++ (y2 ++ ss) := by
                 rcases Nat.eq_zero_or_pos x2.length with z | z
                 · rw [List.eq_nil_of_length_eq_zero z]; simp
                 · rw [List.eq_nil_of_length_eq_zero (show y1.length = 0 by omega)]; simp
               rw [eR]
               obtain ⟨M1, hM1, eA⟩ : ∃ M1, StS (ltcDue c) (x1 ++ y1) M1 ∧ pp ++ x1 ++ y1 ++ x2 ++ (y2 ++ ss) = pp ++ M1 ++ (x2 ++ (y2 ++ ss)) := by
                 refine ⟨x1 ++ y1, .self ?_, by simp⟩
                 rcases Nat.eq_zero_or_pos x1.length with z | z
                 · rw [List.eq_nil_of_length_eq_zero z]; exact sy1
                 · rw [List.eq_nil_of_length_eq_zero (show y1.length = 0 by omega), List.append_nil]; exact sx1
               rw [eA]
               have lM1 : M1.length = x1.length + y1.length := by have := hM1.1.len; rwa [List.length_append] at this
               obtain ⟨M2, hM2, eB⟩ : ∃ M2, StS (ltcDue c) (x2 ++ y2) M2 ∧ pp ++ M1 ++ (x2 ++ (y2 ++ ss)) = pp ++ (M1 ++ M2) ++ ss := by
                 refine ⟨x2 ++ y2, .self ?_, by simp⟩
                 rcases Nat.eq_zero_or_pos x2.length with z | z
                 · rw [List.eq_nil_of_length_eq_zero z]; exact sy2
                 · rw [List.eq_nil_of_length_eq_zero (show y2.length = 0 by omega), List.append_nil]; exact sx2
               rw [eB]
               repeat' (first | (show W _ _ _ _ _ _; first | apply kA | refine kB rfl ?_ | refine kC rfl rfl ?_ | refine kD rfl rfl ?_ | apply kE | apply kF | apply kG | apply kH | refine kI (by kernel_rfl) (by kernel_rfl) ?_) | (show O _ _ _ _ _ _ _; first | (show O _ _ _ _ (⟨_, .store _ _ _, _, _, _, _⟩ :: _) _ _; refine kJ rfl rfl rfl rfl rfl rfl rfl rfl rfl rfl rfl ?_) | apply kK) | apply kL | ((first | apply kM | apply kN); (iterate 3 (· exact rfl)); (· first | exact ya)) | refine kO rfl rfl rfl rfl rfl ?_ | refine kP rfl rfl rfl ?_ | ((first | refine kQ rfl rfl ?_ ?_ | refine kR rfl rfl rfl rfl rfl ?_ ?_ | refine kS rfl rfl rfl ?_ ?_) <;> intro hc <;> (try simp only [KL, cond_true, cond_false, beq_iff_eq, bne_iff_ne, ne_eq, reduceCtorEq] at hc) <;> (try (have hT : True := hc; clear hT hc)) <;> (try (exfalso; omega))) | apply kT | apply kU | apply kV | apply kW | refine kX rfl ?_ | apply kY | apply kZ)
               all_goals first | (exfalso; omega) | skip
               all_goals first | exact retn rfl ⟨rfl, M1 ++ M2, hparts _ _ hM1 hM2, rfl⟩ | exact retq rfl ⟨rfl, M1 ++ M2, hparts _ _ hM1 hM2, rfl⟩)
end Go.Proofs.Ytfjoaeghnfkdlaa
