/- rta: what comes in a number of ticks, how long a job may take. No condition. -/
import Derived.Test.YtkkmageogkkchaaGreatT17
import Derived.Test.YtkkmageogkkchaaGreatT13
set_option linter.unusedSimpArgs false
set_option linter.unusedVariables false
set_option maxHeartbeats 1000000
namespace Go.Proofs.YtkkmageogkkchaaGreat
set_option maxRecDepth 100000
set_option maxRecDepth 100000
open Go.RowKit
def costO (c : List Int) (j : Int) : Int := c.getD j.toNat 0
def loadTo (S : System) (i r : Int) (c : List Int) : Nat → Int
  | 0 => jobI S i r
  | m + 1 => if aheadB S.tasks (m : Int) i = true then addI (loadTo S i r c m) (mulI (ceilI r (S.tasks.getD m default).period) (costO c m)) else loadTo S i r c m
def loadI (S : System) (i r : Int) (c : List Int) : Int := if i < 0 ∨ (S.tasks.length : Int) ≤ i then 0 else loadTo S i r c S.tasks.length
theorem addR (a b : Int) : 0 ≤ addI a b ∧ addI a b ≤ 1099511627776 := by unfold addI insI; omega
theorem loadTo_B {S : System} (h : OkS S) (i r : Int) (c : List Int) : ∀ m, 0 ≤ loadTo S i r c m ∧ loadTo S i r c m ≤ 1099511627776
  | 0 => jobI_B h i r
  | m + 1 => by
    rw [loadTo]
    split
    · exact addR _ _
    · exact loadTo_B h i r c m
def loadL (S : System) (i r : Int) (c : List Int) (L : List Int) : Int := L.foldl (fun s j => addI s (mulI (ceilI r (tskD S j).period) (costO c j))) (jobI S i r)
theorem loadL_eq (S : System) (i r : Int) (c : List Int) : ∀ m, loadL S i r c (aboveTo S.tasks i m) = loadTo S i r c m
  | 0 => rfl
  | m + 1 => by
    have ih := loadL_eq S i r c m
    rw [loadTo]
    cases hb : aheadB S.tasks (m : Int) i
    · rw [if_neg (by simp), aboveTo_no hb, ih]
    · rw [if_pos rfl, aboveTo_yes hb, loadL, List.foldl_append, ← loadL, ih]
      simp only [List.foldl_cons, List.foldl_nil, tskD, Int.toNat_natCast]
theorem above_in {l : List Task} {i : Int} {m : Nat} {j : Int} (h : j ∈ aboveTo l i m) : 0 ≤ j ∧ j < m := by
  rw [aboveTo, List.mem_map] at h
  obtain ⟨k, hk, rfl⟩ := h
  have := List.mem_range.1 (List.mem_filter.1 hk).1
  omega
theorem costOf_fn (c : List Int) (j : Int) (hj : 0 ≤ j) : Fn Tryz.prog 74 [.lst 1 (c.map eI), .int .i64 j] (.int .i64 (costO c j)) := by
  obtain ⟨m, rfl⟩ : ∃ m : Nat, j = m := ⟨j.toNat, by omega⟩
  rcases Nat.lt_or_ge m c.length with hl | hl
  · obtain ⟨x, hx⟩ : ∃ x, c.getD m 0 = x := ⟨_, rfl⟩
    rw [costO, Int.toNat_natCast]
    refine fnb Tryz.func74 (entered_of (by kernel_rfl)) rfl rfl rfl ?_
    repeat' (first | refine sA ?_ | ((first | apply kM | apply kN); (iterate 3 (· exact rfl)); (· first | exact ya)) | refine sG ?_ | (refine sK ?_ ?_ <;> intro hc <;> (try simp only [KL, sL, reduceCtorEq] at hc) <;> (try (exfalso; omega))))
    all_goals first | (exfalso; omega) | exact retq rfl rfl
  · have e : costO c m = 0 := by rw [costO, Int.toNat_natCast, List.getD_eq_getElem?_getD, List.getElem?_eq_none hl]; rfl
    rw [e]
    refine fnb Tryz.func74 (entered_of (by kernel_rfl)) rfl rfl rfl ?_
    repeat' (first | refine sA ?_ | ((first | apply kM | apply kN); (iterate 3 (· exact rfl)); (· first | exact ya)) | refine sG ?_ | (refine sK ?_ ?_ <;> intro hc <;> (try simp only [KL, sL, reduceCtorEq] at hc) <;> (try (exfalso; omega))))
    all_goals first | (exfalso; omega) | exact retq rfl rfl
theorem load_fn (S : System) (h : OkS S) (i r : Int) (c : List Int) : Fn Tryz.prog 30 [.agg (eSystem S), .int .i64 i, .int .i64 r, .lst 1 (c.map eI)] (.int .i64 (loadI S i r c)) := by
  have h1 := h.tl
  by_cases hi : i < 0 ∨ (S.tasks.length : Int) ≤ i
  · rw [loadI, if_pos hi]
    refine fnb Tryz.func30 (entered_of (by kernel_rfl)) rfl rfl rfl ?_
    repeat' (first | refine sA ?_ | ((first | apply kM | apply kN); (iterate 3 (· exact rfl)); (· first | exact ya)) | refine sG ?_ | (refine sK ?_ ?_ <;> intro hc <;> (try simp only [KL, sL, reduceCtorEq] at hc) <;> (try (exfalso; omega))))
    all_goals first | (exfalso; omega) | exact retq rfl rfl
  rw [loadI, if_neg hi, ← loadL_eq]
  have c1 := job_fn S h i r
  have c2 := above_fn S.tasks i (by omega)
  have hB : ∀ x ∈ aboveL S.tasks i, 0 ≤ x ∧ x < S.tasks.length := fun x hx => above_in hx
  have hN := aboveTo_len S.tasks i S.tasks.length
  rw [← aboveL] at *
  generalize aboveL S.tasks i = L at *
  refine fnb Tryz.func30 (entered_of (by kernel_rfl)) rfl rfl rfl ?_
  repeat' (first | refine sA ?_ | ((first | apply kM | apply kN); (iterate 3 (· exact rfl)); (· first | exact ya | exact q_c (c1) rfl | exact q_c (c2) rfl)) | refine sG ?_ | (refine sK ?_ ?_ <;> intro hc <;> (try simp only [KL, sL, reduceCtorEq] at hc) <;> (try (exfalso; omega))))
  all_goals first | (exfalso; omega) | skip
  refine wloop (fun m : Nat => ([(2, .int .i64 r), (3, .lst 1 (c.map eI)), (4, .ref (eSystem S)), (9, .int .i64 (loadL S i r c (L.take m))), (28, .lst 1 (L.map eI)), (29, .int .i64 L.length), (30, .int .i64 m)], [])) (fun m => m ≤ L.length) (fun m => L.length - m) 0 (Nat.zero_le _) les leh (fun m hm => ?_)
  rcases Nat.lt_or_eq_of_le hm with hml | hml
  · obtain ⟨j, hj⟩ : ∃ j, L.getD m default = j := ⟨_, rfl⟩
    have hmem : j ∈ L := by rw [← hj, List.getD_eq_getElem?_getD, List.getElem?_eq_getElem hml, Option.getD_some]; exact List.getElem_mem hml
    have hjb := hB j hmem
    have hnx : loadL S i r c (L.take (m + 1)) = addI (loadL S i r c (L.take m)) (mulI (ceilI r (tskD S j).period) (costO c j)) := by
      rw [← List.take_append_getElem hml, loadL, List.foldl_append, ← loadL]
      have e : L[m] = j := by rw [← hj, List.getD_eq_getElem?_getD, List.getElem?_eq_getElem hml, Option.getD_some]
      rw [e]; rfl
    have c3 := costOf_fn c j hjb.1
    repeat' (first | refine sA ?_ | ((first | apply kM | apply kN); (iterate 3 (· exact rfl)); (· first | (show Y _ ⟨_, .indexAddr _ _ _, _, _, _, _⟩ _ _ _; first | exact Y.mk (ok_indexE (hj) rfl rfl rfl rfl rfl (by omega))) | exact ya | exact q_c (c3) rfl | exact q_c (kCeil_fn _ _) rfl | exact q_c (kMul_fn _ _) rfl | exact q_c (kAdd_fn _ _) rfl)) | refine sG ?_ | (refine sK ?_ ?_ <;> intro hc <;> (try simp only [KL, sL, reduceCtorEq] at hc) <;> (try (exfalso; omega))))
    all_goals first | (exfalso; omega) | exact ⟨m + 1, by omega, by omega, by simp only [hnx]; exact les, leh⟩
  · subst hml
    rw [List.take_length]
    repeat' (first | refine sA ?_ | ((first | apply kM | apply kN); (iterate 3 (· exact rfl)); (· first | exact ya)) | refine sG ?_ | (refine sK ?_ ?_ <;> intro hc <;> (try simp only [KL, sL, reduceCtorEq] at hc) <;> (try (exfalso; omega))))
    all_goals first | (exfalso; omega) | exact retq rfl rfl
theorem rload_fn (S : System) (h : OkS S) (i r : Int) (c : List Int) : Fn Tryz.prog 31 [.agg (eSystem S), .int .i64 i, .int .i64 r, .lst 1 (c.map eI)] (.int .i64 (loadI S i r c)) := by
  have h1 := h.tl
  by_cases hi : i < 0 ∨ (S.tasks.length : Int) ≤ i
  · rw [loadI, if_pos hi]
    refine fnb Tryz.func31 (entered_of (by kernel_rfl)) rfl rfl rfl ?_
    repeat' (first | refine sA ?_ | ((first | apply kM | apply kN); (iterate 3 (· exact rfl)); (· first | exact ya)) | refine sG ?_ | (refine sK ?_ ?_ <;> intro hc <;> (try simp only [KL, sL, reduceCtorEq] at hc) <;> (try (exfalso; omega))))
    all_goals first | (exfalso; omega) | exact retq rfl rfl
  rw [loadI, if_neg hi]
  have c1 := rjob_fn S h i r
  refine fnb Tryz.func31 (entered_of (by kernel_rfl)) rfl rfl rfl ?_
  repeat' (first | refine sA ?_ | ((first | apply kM | apply kN); (iterate 3 (· exact rfl)); (· first | exact ya | exact q_c (c1) rfl)) | refine sG ?_ | (refine sK ?_ ?_ <;> intro hc <;> (try simp only [KL, sL, reduceCtorEq] at hc) <;> (try (exfalso; omega))))
  all_goals first | (exfalso; omega) | skip
  refine wloop (fun m : Nat => ([(1, .int .i64 i), (2, .int .i64 r), (3, .lst 1 (c.map eI)), (4, .ref (eSystem S)), (9, .int .i64 (loadTo S i r c m)), (26, .lst 7 (S.tasks.map eTask)), (27, .int .i64 S.tasks.length), (28, .int .i64 m)], [])) (fun m => m ≤ S.tasks.length) (fun m => S.tasks.length - m) 0 (Nat.zero_le _) les leh (fun m hm => ?_)
  rcases Nat.lt_or_eq_of_le hm with hml | hml
  · have c2 := rahead_fn S.tasks (m : Int) i (by omega)
    obtain ⟨t, ht⟩ : ∃ t, S.tasks.getD m default = t := ⟨_, rfl⟩
    have hB := loadTo_B h i r c m
    cases hb : aheadB S.tasks (m : Int) i
    · rw [hb] at c2
      have hnx : loadTo S i r c (m + 1) = loadTo S i r c m := by rw [loadTo, hb, if_neg (by simp)]
      repeat' (first | refine sA ?_ | (show O _ _ _ _ _ _ _; first | refine ao_alloc (id := 10) rfl rfl rfl rfl rfl rfl rfl ?_) | ((first | apply kM | apply kN); (iterate 3 (· exact rfl)); (· first | (show Y _ ⟨_, .indexAddr _ _ _, _, _, _, _⟩ _ _ _; first | exact Y.mk (ok_indexE (ht) rfl rfl rfl rfl rfl (by omega))) | exact ya | exact q_c (c2) rfl)) | refine sG ?_ | (refine sK ?_ ?_ <;> intro hc <;> (try simp only [KL, sL, reduceCtorEq] at hc) <;> (try (exfalso; omega))))
      all_goals first | (exfalso; omega) | exact ⟨m + 1, by omega, by omega, by simp only [hnx]; exact les, leh⟩
    · rw [hb] at c2
      rcases Nat.lt_or_ge m c.length with hl | hl
      · have hnx : loadTo S i r c (m + 1) = addI (loadTo S i r c m) (mulI (ceilI r t.period) (c.getD m default)) := by rw [loadTo, hb, if_pos rfl, ht, costO, Int.toNat_natCast]; rfl
        repeat' (first | refine sA ?_ | (show O _ _ _ _ _ _ _; first | refine ao_alloc (id := 10) rfl rfl rfl rfl rfl rfl rfl ?_) | ((first | apply kM | apply kN); (iterate 3 (· exact rfl)); (· first | (show Y _ ⟨_, .indexAddr _ _ _, _, _, _, _⟩ _ _ _; first | exact Y.mk (ok_indexE (ht) rfl rfl rfl rfl rfl (by omega))) | exact ya | exact q_c (c2) rfl | exact q_c (rCeil_fn _ _) rfl | exact q_c (rMul_fn _ _) rfl | exact q_c (rAdd_fn _ _) rfl)) | refine sG ?_ | (refine sK ?_ ?_ <;> intro hc <;> (try simp only [KL, sL, reduceCtorEq] at hc) <;> (try (exfalso; omega))))
        all_goals first | (exfalso; omega) | exact ⟨m + 1, by omega, by omega, by simp only [hnx]; exact les, leh⟩
      · have e : costO c m = 0 := by rw [costO, Int.toNat_natCast, List.getD_eq_getElem?_getD, List.getElem?_eq_none hl]; rfl
        have hnx : loadTo S i r c (m + 1) = loadTo S i r c m := by rw [loadTo, hb, if_pos rfl, e, mul_0 (.inr rfl), addI_0, insId hB.1 hB.2]
        repeat' (first | refine sA ?_ | (show O _ _ _ _ _ _ _; first | refine ao_alloc (id := 10) rfl rfl rfl rfl rfl rfl rfl ?_) | ((first | apply kM | apply kN); (iterate 3 (· exact rfl)); (· first | (show Y _ ⟨_, .indexAddr _ _ _, _, _, _, _⟩ _ _ _; first | exact Y.mk (ok_indexE (ht) rfl rfl rfl rfl rfl (by omega))) | exact ya | exact q_c (c2) rfl)) | refine sG ?_ | (refine sK ?_ ?_ <;> intro hc <;> (try simp only [KL, sL, reduceCtorEq] at hc) <;> (try (exfalso; omega))))
        all_goals first | (exfalso; omega) | exact ⟨m + 1, by omega, by omega, by simp only [hnx]; exact les, leh⟩
  · subst hml
    repeat' (first | refine sA ?_ | ((first | apply kM | apply kN); (iterate 3 (· exact rfl)); (· first | exact ya)) | refine sG ?_ | (refine sK ?_ ?_ <;> intro hc <;> (try simp only [KL, sL, reduceCtorEq] at hc) <;> (try (exfalso; omega))))
    all_goals first | (exfalso; omega) | exact retq rfl rfl
def respTo (S : System) (i : Int) (c : List Int) : Nat → Int → Int × Int
  | 0, _ => (0, 14)
  | n + 1, r => if (tskD S i).deadline < r then (0, 13) else if loadI S i r c = r then (r, 0) else respTo S i c n (loadI S i r c)
def respI (S : System) (i : Int) (c : List Int) : Int × Int := if i < 0 ∨ (S.tasks.length : Int) ≤ i then (0, 1) else respTo S i c 10001 1
def roundR (S : System) (i : Int) (c : List Int) : Nat → Int
  | 0 => 1
  | n + 1 => loadI S i (roundR S i c n) c
theorem rresp_fn (S : System) (h : OkS S) (i : Int) (c : List Int) : Fn Tryz.prog 33 [.agg (eSystem S), .int .i64 i, .lst 1 (c.map eI)] (.tup [.int .i64 (respI S i c).1, .int .i64 (respI S i c).2]) := by
  have h1 := h.tl
  by_cases hi : i < 0 ∨ (S.tasks.length : Int) ≤ i
  · rw [respI, if_pos hi]
    refine fnb Tryz.func33 (entered_of (by kernel_rfl)) rfl rfl rfl ?_
    repeat' (first | refine sA ?_ | ((first | apply kM | apply kN); (iterate 3 (· exact rfl)); (· first | exact ya)) | refine sG ?_ | (refine sK ?_ ?_ <;> intro hc <;> (try simp only [KL, sL, reduceCtorEq] at hc) <;> (try (exfalso; omega))))
    all_goals first | (exfalso; omega) | exact retq rfl rfl
  rw [respI, if_neg hi]
  obtain ⟨j, rfl⟩ : ∃ j : Nat, i = j := ⟨i.toNat, by omega⟩
  obtain ⟨t, ht⟩ : ∃ t, S.tasks.getD j default = t := ⟨_, rfl⟩
  have htt : tskD S (j : Int) = t := by rw [tskD, Int.toNat_natCast, ht]
  obtain ⟨a, hae⟩ : ∃ a, respTo S j c 10001 1 = a := ⟨_, rfl⟩
  rw [hae]
  refine fnb Tryz.func33 (entered_of (by kernel_rfl)) rfl rfl rfl ?_
  repeat' (first | refine sA ?_ | ((first | apply kM | apply kN); (iterate 3 (· exact rfl)); (· first | exact ya)) | refine sG ?_ | (refine sK ?_ ?_ <;> intro hc <;> (try simp only [KL, sL, reduceCtorEq] at hc) <;> (try (exfalso; omega))))
  all_goals first | (exfalso; omega) | skip
  refine wloop (fun x : Nat × Int => ([(1, .int .i64 j), (2, .lst 1 (c.map eI)), (3, .ref (eSystem S)), (8, .int .i64 x.2), (9, .int .i64 x.1)], [])) (fun x => x.1 ≤ 10001 ∧ respTo S j c (10001 - x.1) x.2 = a) (fun x => 10001 - x.1) (0, 1) ⟨by omega, hae⟩ les leh (fun x hx => ?_)
  obtain ⟨m, r⟩ := x
  obtain ⟨hm, hr⟩ := hx
  dsimp only at hm hr ⊢
  rcases Nat.lt_or_eq_of_le hm with hml | hml
  · rw [show 10001 - m = (10000 - m) + 1 from by omega, respTo, htt] at hr
    have c1 := rload_fn S h j r c
    by_cases hd : t.deadline < r
    · rw [if_pos hd] at hr
      subst hr
      repeat' (first | refine sA ?_ | ((first | apply kM | apply kN); (iterate 3 (· exact rfl)); (· first | (show Y _ ⟨_, .indexAddr _ _ _, _, _, _, _⟩ _ _ _; first | exact Y.mk (ok_indexE (ht) rfl rfl rfl rfl rfl (by omega))) | exact ya)) | refine sG ?_ | (refine sK ?_ ?_ <;> intro hc <;> (try simp only [KL, sL, reduceCtorEq] at hc) <;> (try (exfalso; omega))))
      all_goals first | (exfalso; omega) | exact retq rfl rfl
    rw [if_neg hd] at hr
    by_cases he : loadI S j r c = r
    · rw [if_pos he] at hr
      subst hr
      rw [he] at c1
      repeat' (first | refine sA ?_ | ((first | apply kM | apply kN); (iterate 3 (· exact rfl)); (· first | (show Y _ ⟨_, .indexAddr _ _ _, _, _, _, _⟩ _ _ _; first | exact Y.mk (ok_indexE (ht) rfl rfl rfl rfl rfl (by omega))) | exact ya | exact q_c (c1) rfl)) | refine sG ?_ | (refine sK ?_ ?_ <;> intro hc <;> (try simp only [KL, sL, reduceCtorEq] at hc) <;> (try (exfalso; omega))))
      all_goals first | (exfalso; omega) | exact retq rfl rfl
    rw [if_neg he] at hr
    repeat' (first | refine sA ?_ | ((first | apply kM | apply kN); (iterate 3 (· exact rfl)); (· first | (show Y _ ⟨_, .indexAddr _ _ _, _, _, _, _⟩ _ _ _; first | exact Y.mk (ok_indexE (ht) rfl rfl rfl rfl rfl (by omega))) | exact ya | exact q_c (c1) rfl)) | refine sG ?_ | (refine sK ?_ ?_ <;> intro hc <;> (try simp only [KL, sL, reduceCtorEq] at hc) <;> (try (exfalso; omega))))
    all_goals first | (exfalso; omega) | exact ⟨(m + 1, loadI S j r c), ⟨by omega, by rw [show 10001 - (m + 1) = 10000 - m from by omega]; exact hr⟩, by dsimp only; omega, les, leh⟩
  · subst hml
    rw [Nat.sub_self, respTo] at hr
    subst hr
    repeat' (first | refine sA ?_ | ((first | apply kM | apply kN); (iterate 3 (· exact rfl)); (· first | exact ya)) | refine sG ?_ | (refine sK ?_ ?_ <;> intro hc <;> (try simp only [KL, sL, reduceCtorEq] at hc) <;> (try (exfalso; omega))))
    all_goals first | (exfalso; omega) | exact retq rfl rfl
theorem rtaR_fn (S : System) (i : Int) (c : List Int) : Fn Tryz.prog 75 [.agg (eSystem S), .int .i64 i, .lst 1 (c.map eI)] (.fn (.func 105) [] [.ref (eSystem S), .ref [.int .i64 i], .ref [.lst 1 (c.map eI)]]) := by
  refine fnb Tryz.func75 (entered_of (by kernel_rfl)) rfl rfl rfl ?_
  repeat' (first | refine sA ?_ | ((first | apply kM | apply kN); (iterate 3 (· exact rfl)); (· first | exact ya)) | refine sG ?_ | (refine sK ?_ ?_ <;> intro hc <;> (try simp only [KL, sL, reduceCtorEq] at hc) <;> (try (exfalso; omega))))
  exact retq rfl rfl
abbrev resH (l : Nat) (r : Loop) (σ0 : Sig) (a b : Int) : Heap := (8, .sem (objC l (.loop r))) :: (9, .sem (knowC σ0)) :: [(0, .blk 3 [.int .i64 a]), (1, .blk 45 [.int .i64 b])]
theorem resp_rd (S : System) (j : Nat) (hj : j < S.tasks.length) (t : Task) (ht : S.tasks.getD j default = t) (hn : S.tasks.length ≤ 1000000) (u v : Int) (l : Nat) (r : Loop) (σ0 : Sig) (pins : List (Nat × Value)) (hr : r.state = .ready) (hpd : r.pending = none) (hab : rfOf Tryz.f32.body = some (r.params, r.assign, r.body)) (hk : r.tmps.size = Tryz.f32.ntmps)
    (hs : SlotsOk σ0 pins [(3, .ref (eSystem S)), (4, .ref [.int .i64 j]), (6, .ptr 0 0), (7, .ptr 1 0)] r.tmps) :
    YF Tryz.prog l pins [.int .i64 u, .int .i64 v] (resH l r σ0 0 0) (fun b h' => (b = true ∧ ¬ t.deadline < u ∧ ¬ v = u ∧ h' = resH l { r with state := .ready, pending := none } σ0 0 0) ∨ (b = false ∧ t.deadline < u ∧ h' = resH l { r with state := .done, pending := some .ret } σ0 0 13) ∨ (b = false ∧ ¬ t.deadline < u ∧ v = u ∧ h' = resH l { r with state := .done, pending := some .ret } σ0 u 0)) := by
  change Option.some (_, _, _) = some _ at hab
  injection hab with hab
  injection hab with h1 hab
  injection hab with h2 h3
  refine yf_le (yf_body2 (R := fun b h' => (b = true ∧ ¬ t.deadline < u ∧ ¬ v = u ∧ LeH h' (resH l { r with state := .ready, pending := none } σ0 0 0)) ∨ (b = false ∧ t.deadline < u ∧ LeH h' (resH l { r with state := .done, pending := some .ret } σ0 0 13)) ∨ (b = false ∧ ¬ t.deadline < u ∧ v = u ∧ LeH h' (resH l { r with state := .done, pending := some .ret } σ0 u 0))) (idL := 8) (idK := 9) (σ0 := σ0) rfl rfl hr h1.symm hk (by decide) (by decide) (by decide) hs ?_) ?_
  · refine wcode h2 ?_
    repeat' (first | refine sA ?_ | ((first | apply kM | apply kN); (iterate 3 (· exact rfl)); (· first | exact ya)) | refine sG ?_ | (refine sK ?_ ?_ <;> intro hc <;> (try simp only [KL, sL, reduceCtorEq] at hc) <;> (try (exfalso; omega))))
    refine ⟨rfl, ?_⟩
    refine wcode h3 ?_
    repeat' (first | refine sA ?_ | ((first | apply kM | apply kN); (iterate 3 (· exact rfl)); (· first | (show Y _ ⟨_, .indexAddr _ _ _, _, _, _, _⟩ _ _ _; first | exact Y.mk (ok_indexE (ht) rfl rfl rfl rfl rfl (by omega))) | exact ya)) | refine sG ?_ | (refine sK ?_ ?_ <;> intro hc <;> (try simp only [KL, sL, reduceCtorEq] at hc) <;> (try (exfalso; omega))))
    all_goals first
      | (exfalso; omega)
      | exact ⟨rfl, .inr (.inl ⟨rfl, by omega, leh⟩)⟩
      | exact ⟨rfl, .inr (.inr ⟨rfl, by omega, by omega, leh⟩)⟩
      | exact ⟨rfl, .inl ⟨rfl, by omega, by omega, leh⟩⟩
  · rintro b h' (⟨rfl, h4, h5, h6⟩ | ⟨rfl, h4, h6⟩ | ⟨rfl, h4, h5, h6⟩)
    · exact ⟨_, h6, .inl ⟨rfl, h4, h5, rfl⟩⟩
    · exact ⟨_, h6, .inr (.inl ⟨rfl, h4, rfl⟩)⟩
    · exact ⟨_, h6, .inr (.inr ⟨rfl, h4, h5, rfl⟩)⟩
set_option maxHeartbeats 2000000 in
theorem resp_it (S : System) (h : OkS S) (c : List Int) (j : Nat) (hj : j < S.tasks.length) (l : Nat) (r : Loop) (σ0 : Sig) (pins : List (Nat × Value)) (hr : r.state = .ready) (hpd : r.pending = none) (hab : rfOf Tryz.f32.body = some (r.params, r.assign, r.body)) (hk : r.tmps.size = Tryz.f32.ntmps)
    (hs : SlotsOk σ0 pins [(3, .ref (eSystem S)), (4, .ref [.int .i64 j]), (6, .ptr 0 0), (7, .ptr 1 0)] r.tmps) (hp5 : ∀ p ∈ pins, p.1 < 5) (a : Int × Int) (ha : respTo S j c 10001 1 = a) :
    FnHp Tryz.prog pins 105 (.fn (.yield l) [] [] :: [.ref (eSystem S), .ref [.int .i64 j], .ref [.lst 1 (c.map eI)]]) (resH l r σ0 0 0) (fun v h' => v = .tup [] ∧ ((a = (0, 14) ∧ h' = resH l r σ0 0 0) ∨ h' = resH l { r with state := .done, pending := some .ret } σ0 a.1 a.2)) := by
  have hrd := rdy hr hpd
  have h1 := h.tl
  refine fnhbp Tryz.func105 (entered_of (by kernel_rfl)) rfl rfl ?_
  repeat' (first | refine sA ?_ | ((first | apply kM | apply kN); (iterate 3 (· exact rfl)); (· first | exact ya)) | refine sG ?_ | (refine sK ?_ ?_ <;> intro hc <;> (try simp only [KL, sL, reduceCtorEq] at hc) <;> (try (exfalso; omega))))
  refine wloop (fun x : Nat × Int => ([(0, .fn (.yield l) [] []), (1, .ref (eSystem S)), (2, .ref [.int .i64 j]), (3, .ref [.lst 1 (c.map eI)]), (5, .int .i64 x.2), (7, .int .i64 x.1)], resH l r σ0 0 0)) (fun x => x.1 ≤ 10001 ∧ respTo S j c (10001 - x.1) x.2 = a) (fun x => 10001 - x.1) (0, 1) ⟨by omega, ha⟩ les leh (fun x hx => ?_)
  obtain ⟨m, u⟩ := x
  obtain ⟨hm, hx⟩ := hx
  dsimp only at hm hx ⊢
  rcases Nat.lt_or_eq_of_le hm with hml | hml
  · rw [show 10001 - m = (10000 - m) + 1 from by omega, respTo, tskD, Int.toNat_natCast] at hx
    have c1 := load_fn S h j u c
    obtain ⟨v, hv⟩ : ∃ v, loadI S j u c = v := ⟨_, rfl⟩
    rw [hv] at c1 hx
    repeat' (first | refine sA ?_ | ((first | apply kM | apply kN); (iterate 3 (· exact rfl)); (· first | exact ya | exact q_c (c1) rfl)) | refine sG ?_ | (refine sK ?_ ?_ <;> intro hc <;> (try simp only [KL, sL, reduceCtorEq] at hc) <;> (try (exfalso; omega))))
    all_goals first | (exfalso; omega) | skip
    refine ycall (fun i => i) (resp_rd S j hj _ rfl (by omega) u v l r σ0 pins hr hpd hab hk hs) (fun p hp => hp) hp5 rfl rfl rfl rfl leh rfl rfl rfl rfl rfl rfl (fun r1 h' hR => ?_)
    rw [hrd] at hR
    rcases hR with ⟨rfl, h4, h5, rfl⟩ | ⟨rfl, h4, rfl⟩ | ⟨rfl, h4, h5, rfl⟩
    · rw [if_neg h4, if_neg h5] at hx
      refine ⟨rfl, ?_⟩
      refine ole (h' := resH l r σ0 0 0) (LeS.refl _) leh ?_
      repeat' (first | refine sA ?_ | ((first | apply kM | apply kN); (iterate 3 (· exact rfl)); (· first | exact ya)) | refine sG ?_ | (refine sK ?_ ?_ <;> intro hc <;> (try simp only [KL, sL, reduceCtorEq] at hc) <;> (try (exfalso; omega))))
      exact ⟨(m + 1, v), ⟨by omega, by rw [show 10001 - (m + 1) = 10000 - m from by omega]; exact hx⟩, by dsimp only; omega, les, leh⟩
    · rw [if_pos h4] at hx
      subst hx
      refine ⟨rfl, ?_⟩
      refine ole (h' := resH l { r with state := .done, pending := some .ret } σ0 0 13) (LeS.refl _) leh ?_
      repeat' (first | refine sA ?_ | ((first | apply kM | apply kN); (iterate 3 (· exact rfl)); (· first | exact ya)) | refine sG ?_ | (refine sK ?_ ?_ <;> intro hc <;> (try simp only [KL, sL, reduceCtorEq] at hc) <;> (try (exfalso; omega))))
      exact retn rfl ⟨rfl, .inr rfl⟩
    · rw [if_neg h4, if_pos h5] at hx
      subst hx
      refine ⟨rfl, ?_⟩
      refine ole (h' := resH l { r with state := .done, pending := some .ret } σ0 u 0) (LeS.refl _) leh ?_
      repeat' (first | refine sA ?_ | ((first | apply kM | apply kN); (iterate 3 (· exact rfl)); (· first | exact ya)) | refine sG ?_ | (refine sK ?_ ?_ <;> intro hc <;> (try simp only [KL, sL, reduceCtorEq] at hc) <;> (try (exfalso; omega))))
      exact retn rfl ⟨rfl, .inr rfl⟩
  · subst hml
    rw [Nat.sub_self, respTo] at hx
    repeat' (first | refine sA ?_ | ((first | apply kM | apply kN); (iterate 3 (· exact rfl)); (· first | exact ya)) | refine sG ?_ | (refine sK ?_ ?_ <;> intro hc <;> (try simp only [KL, sL, reduceCtorEq] at hc) <;> (try (exfalso; omega))))
    all_goals first | (exfalso; omega) | skip
    exact retn rfl ⟨rfl, .inl ⟨hx.symm, rfl⟩⟩
def ρq (i : Nat) : Nat := [10, 11, 2, 3, 4, 5, 6, 7, 21, 22].getD i i
theorem response_fn (S : System) (h : OkS S) (i : Int) (c : List Int) : Fn Tryz.prog 32 [.agg (eSystem S), .int .i64 i, .lst 1 (c.map eI)] (.tup [.int .i64 (respI S i c).1, .int .i64 (respI S i c).2]) := by
  have h1 := h.tl
  by_cases hi : i < 0 ∨ (S.tasks.length : Int) ≤ i
  · rw [respI, if_pos hi]
    refine fnm Tryz.func32 (entered_of (by kernel_rfl)) rfl rfl rfl ?_
    repeat' (first | (show M _ _ _ _ _ _; first | refine mseq ?_ | refine mregion (fun _ => ?_) | refine mcondT rfl rfl ?_ | refine mcondF rfl rfl ?_ | refine mblock ?_ | refine mskip ?_ | refine mexit ?_ | refine mret ?_) | refine sA ?_ | (show O _ _ _ _ _ _ _; first | refine ao_alloc (id := 10) rfl rfl rfl rfl rfl rfl rfl ?_ | refine ao_alloc (id := 11) rfl rfl rfl rfl rfl rfl rfl ?_) | ((first | apply kM | apply kN); (iterate 3 (· exact rfl)); (· first | exact ya)) | refine sG ?_ | ((first | refine kQ rfl rfl ?_ ?_ | refine mcond rfl rfl ?_ ?_ | refine kR rfl rfl rfl rfl rfl ?_ ?_ | refine kS rfl rfl rfl ?_ ?_) <;> intro hc <;> (try simp only [KL, sL, reduceCtorEq] at hc) <;> (try (exfalso; omega))))
    all_goals first | (exfalso; omega) | exact retq rfl rfl
  rw [respI, if_neg hi]
  obtain ⟨j, rfl⟩ : ∃ j : Nat, i = j := ⟨i.toNat, by omega⟩
  obtain ⟨a, ha⟩ : ∃ a, respTo S j c 10001 1 = a := ⟨_, rfl⟩
  rw [ha]
  refine fnm Tryz.func32 (entered_of (by kernel_rfl)) rfl rfl rfl ?_
  repeat' (first | (show M _ _ _ _ _ _; first | refine mseq ?_ | refine mregion (fun _ => ?_) | refine mcondT rfl rfl ?_ | refine mcondF rfl rfl ?_ | refine mblock ?_ | refine mskip ?_ | refine mexit ?_ | refine mret ?_) | refine sA ?_ | (show O _ _ _ _ _ _ _; first | refine ao_alloc (id := 10) rfl rfl rfl rfl rfl rfl rfl ?_ | refine ao_alloc (id := 11) rfl rfl rfl rfl rfl rfl rfl ?_) | ((first | apply kM | apply kN); (iterate 3 (· exact rfl)); (· first | exact ya | exact q_c (rtaR_fn S j c) rfl)) | refine sG ?_ | ((first | refine kQ rfl rfl ?_ ?_ | refine mcond rfl rfl ?_ ?_ | refine kR rfl rfl rfl rfl rfl ?_ ?_ | refine kS rfl rfl rfl ?_ ?_) <;> intro hc <;> (try simp only [KL, sL, reduceCtorEq] at hc) <;> (try (exfalso; omega))))
  all_goals first | (exfalso; omega) | skip
  refine mle (s' := [(3, .ref (eSystem S)), (4, .ref [.int .i64 j]), (6, .ptr 10 0), (7, .ptr 11 0), (22, .fn (.func 105) [] [.ref (eSystem S), .ref [.int .i64 j], .ref [.lst 1 (c.map eI)]])]) (h' := [(10, .blk 3 [.int .i64 0]), (11, .blk 45 [.int .i64 0])]) les leh ?_
  refine mrange ρq (caps0 := [.ref (eSystem S), .ref [.int .i64 j], .ref [.lst 1 (c.map eI)]]) (s0 := [(3, .ref (eSystem S)), (4, .ref [.int .i64 j]), (6, .ptr 0 0), (7, .ptr 1 0)]) (hin0 := [(0, .blk 3 [.int .i64 0]), (1, .blk 45 [.int .i64 0])]) 21 22
    (R := fun l r v h' => r.state = .ready ∧ r.pending = none ∧ v = .tup [] ∧ ∃ σ0, ((a = (0, 14) ∧ h' = resH l r σ0 0 0) ∨ h' = resH l { r with state := .done, pending := some .ret } σ0 a.1 a.2))
    rfl rfl rfl rfl (fun _ _ => rfl) (fun _ _ _ => leh) rfl rfl rfl (fun _ _ _ => rfl) les rfl (fun l r σ0 pins q1 q2 q3 q4 q5 q6 q7 q8 => ?_) (fun l r σ0 v h' hR => ?_) rfl
  · exact fnhp_mono (resp_it S h c j (by omega) l r σ0 pins q1 q2 (by rw [q3, q4, q5]; rfl) q6 q7 q8 a ha) fun v h' ⟨e1, e2⟩ => ⟨q1, q2, e1, σ0, e2⟩
  · obtain ⟨q1, q2, rfl, σ1, ⟨h2, rfl⟩ | rfl⟩ := hR
    · refine ⟨rfl, r, rfl, by rw [q1]; simp, fun _ => ?_, fun c e => by rw [q2] at e; cases e⟩
      subst h2
      refine nIn (nThen ?_)
      refine mle (s' := [(6, .ptr 10 0), (7, .ptr 11 0)]) (h' := [(10, .blk 3 [.int .i64 0]), (11, .blk 45 [.int .i64 0])]) les leh ?_
      repeat' (first | (show M _ _ _ _ _ _; first | refine mseq ?_ | refine mregion (fun _ => ?_) | refine mcondT rfl rfl ?_ | refine mcondF rfl rfl ?_ | refine mblock ?_ | refine mskip ?_ | refine mexit ?_ | refine mret ?_) | refine sA ?_ | ((first | apply kM | apply kN); (iterate 3 (· exact rfl)); (· first | exact ya)) | refine sG ?_ | ((first | refine kQ rfl rfl ?_ ?_ | refine mcond rfl rfl ?_ ?_ | refine kR rfl rfl rfl rfl rfl ?_ ?_ | refine kS rfl rfl rfl ?_ ?_) <;> intro hc <;> (try simp only [KL, sL, reduceCtorEq] at hc) <;> (try (exfalso; omega))))
      exact retq rfl rfl
    · refine ⟨rfl, { r with state := .done, pending := some .ret }, rfl, by simp, fun e => by simp at e, fun c e => ?_⟩
      injection e with e
      subst e
      refine mret (rIn (rThen ?_))
      exact retq rfl rfl
end Go.Proofs.YtkkmageogkkchaaGreat
namespace Go.Proofs.YtkkmageogkkchaaGreat
set_option maxRecDepth 100000
set_option maxRecDepth 100000
open Go.RowKit
def iterF (f : Int → Int) (D : Int) : Nat → Int → Int × Int
  | 0, _ => (0, 14)
  | n + 1, r => if D < r then (0, 13) else if f r = r then (r, 0) else iterF f D n (f r)
theorem respTo_iter (S : System) (i : Int) (c : List Int) : ∀ n r, respTo S i c n r = iterF (fun r => loadI S i r c) (tskD S i).deadline n r
  | 0, _ => rfl
  | n + 1, r => by rw [respTo, iterF, respTo_iter S i c n]
section
variable {f g : Int → Int} {D : Int}
theorem iter_fix : ∀ n r, (iterF f D n r).2 = 0 → f (iterF f D n r).1 = (iterF f D n r).1 ∧ (iterF f D n r).1 ≤ D
  | 0, _, h => by simp [iterF] at h
  | n + 1, r, h => by
    rw [iterF] at h ⊢
    by_cases h1 : D < r
    · rw [if_pos h1] at h; simp at h
    rw [if_neg h1] at h ⊢
    by_cases h2 : f r = r
    · rw [if_pos h2] at h ⊢; exact ⟨h2, by omega⟩
    · rw [if_neg h2] at h ⊢; exact iter_fix n _ h
end
def moreL (c : List Int) : List Int := c.map fun x => addI x 1
theorem loadTo_job {S : System} (h : OkS S) (i r : Int) (c : List Int) : ∀ m, jobI S i r ≤ loadTo S i r c m
  | 0 => Int.le_refl _
  | m + 1 => by
    have ih := loadTo_job h i r c m
    have hb := loadTo_B h i r c m
    rw [loadTo]
    split
    · refine Int.le_trans ih ?_
      have := insB (mulI (ceilI r (S.tasks.getD m default).period) (costO c m))
      have e := insId hb.1 hb.2
      unfold addI; rw [e]; omega
    · exact ih
end Go.Proofs.YtkkmageogkkchaaGreat
