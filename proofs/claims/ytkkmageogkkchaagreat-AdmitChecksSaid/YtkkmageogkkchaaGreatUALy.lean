/- Where all stands: regions one behind the other, the package layout, and the document's answer. No condition. -/
import Derived.Test.YtkkmageogkkchaaGreatUAX
set_option linter.unusedSimpArgs false
set_option linter.unusedVariables false
set_option maxHeartbeats 1000000
namespace Go.Proofs.YtkkmageogkkchaaGreat
set_option maxRecDepth 100000
set_option maxRecDepth 100000
open Go.RowKit
def eRg (x : Int × Int) : List AV := [.int .i64 x.1, .int .i64 x.2]
def sumL : List Int → Int
  | [] => 0
  | n :: l => n + sumL l
def cutL : Int → List Int → List (Int × Int)
  | _, [] => []
  | a, n :: l => (a, n) :: cutL (a + n) l
theorem sumL_app (l m : List Int) : sumL (l ++ m) = sumL l + sumL m := by
  induction l with
  | nil => simp [sumL]
  | cons x r ih => simp only [List.cons_append, sumL, ih]; omega
theorem cutL_app (l m : List Int) (a : Int) : cutL a (l ++ m) = cutL a l ++ cutL (a + sumL l) m := by
  induction l generalizing a with
  | nil => simp [sumL, cutL]
  | cons x r ih => simp only [List.cons_append, sumL, cutL, ih]; rw [show a + x + sumL r = a + (x + sumL r) from by omega]
theorem cutL_len (l : List Int) (a : Int) : (cutL a l).length = l.length := by
  induction l generalizing a with
  | nil => rfl
  | cons x r ih => simp only [cutL, List.length_cons, ih]
theorem sum_take {l : List Int} {k : Nat} (hk : k < l.length) : sumL (l.take (k + 1)) = sumL (l.take k) + l.getD k default := by
  rw [take_snoc hk, sumL_app]; simp [sumL]
theorem cut_take {l : List Int} {k : Nat} (hk : k < l.length) : cutL 0 (l.take (k + 1)) = cutL 0 (l.take k) ++ [(sumL (l.take k), l.getD k default)] := by
  rw [take_snoc hk, cutL_app]; simp [cutL]
theorem sum_B {l : List Int} {b : Int} (h : ∀ x ∈ l, 0 ≤ x ∧ x ≤ b) : 0 ≤ sumL l ∧ sumL l ≤ l.length * b := by
  induction l with
  | nil => simp [sumL]
  | cons x r ih =>
    have h1 := h x List.mem_cons_self
    have h2 := ih fun y hy => h y (List.mem_cons_of_mem _ hy)
    rw [sumL, List.length_cons, Int.natCast_add, Int.add_mul]
    omega
theorem sum_le {l : List Int} (h : ∀ x ∈ l, 0 ≤ x) (k : Nat) : sumL (l.take k) ≤ sumL l := by
  have e : sumL (l.take k) + sumL (l.drop k) = sumL l := by rw [← sumL_app, List.take_append_drop]
  have : ∀ m : List Int, (∀ x ∈ m, 0 ≤ x) → 0 ≤ sumL m := fun m => by
    induction m with
    | nil => intro _; exact Int.le_refl _
    | cons x r ih => intro h; have := h x List.mem_cons_self; have := ih fun y hy => h y (List.mem_cons_of_mem _ hy); rw [sumL]; omega
  have := this (l.drop k) fun x hx => h x (List.mem_of_mem_drop hx)
  omega
theorem idxInt_fn (xs : List Int) (F : FuncId) (cap : List AV) (q : Int → Bool) (hF : ∀ x, Fn Tryz.prog F ([.int .i64 x] ++ cap) (.bool (q x))) (hn : xs.length ≤ 1000000) :
    Fn Tryz.prog 208 [.lst 1 (xs.map eI), .fn (.func F) [] cap] (.int .i64 (idxV (fstN (fun i => q (xs.getD i default)) xs.length))) := by
  refine fnb Tryz.func208 (entered_of (by kernel_rfl)) rfl rfl rfl ?_
  repeat' (first | refine sA ?_ | ((first | apply kM | apply kN); (iterate 3 (· exact rfl)); (· first | exact ya)) | refine sG ?_ | (refine sK ?_ ?_ <;> intro hc <;> (try simp only [KL, sL, reduceCtorEq] at hc) <;> (try (exfalso; omega))))
  refine wloop (fun k : Nat => ([(0, .lst 1 (xs.map eI)), (1, .fn (.func F) [] cap), (7, .int .i64 xs.length), (8, .int .i64 k)], [])) (fun k => k ≤ xs.length ∧ ∀ j, j < k → q (xs.getD j default) = false) (fun k => xs.length - k) 0 ⟨Nat.zero_le _, fun j hj => absurd hj (by omega)⟩ les leh (fun k hk => ?_)
  obtain ⟨hk, hno⟩ := hk
  by_cases hlt : k < xs.length
  · repeat' (first | refine sA ?_ | ((first | apply kM | apply kN); (iterate 3 (· exact rfl)); (· first | exact ya | exact q_c (hF (xs.getD k default)) rfl)) | refine sG ?_ | (refine sK ?_ ?_ <;> intro hc <;> (try simp only [KL, sL, reduceCtorEq] at hc) <;> (try (exfalso; omega))))
    all_goals first | (exfalso; omega) | skip
    · rw [fstN_some (q := fun i => q (xs.getD i default)) hlt hc hno]; exact retq rfl rfl
    · exact ⟨k + 1, ⟨by omega, no_next (q := fun i => q (xs.getD i default)) hno hc⟩, by omega, les, leh⟩
  · obtain rfl : k = xs.length := by omega
    rw [fstN_none (q := fun i => q (xs.getD i default)) hno]
    repeat' (first | refine sA ?_ | ((first | apply kM | apply kN); (iterate 3 (· exact rfl)); (· first | exact ya)) | refine sG ?_ | (refine sK ?_ ?_ <;> intro hc <;> (try simp only [KL, sL, reduceCtorEq] at hc) <;> (try (exfalso; omega))))
    all_goals first | (exfalso; omega) | exact retq rfl rfl
theorem conInt_fn (xs : List Int) (F : FuncId) (cap : List AV) (q : Int → Bool) (hF : ∀ x, Fn Tryz.prog F ([.int .i64 x] ++ cap) (.bool (q x))) (hn : xs.length ≤ 1000000) :
    Fn Tryz.prog 180 [.lst 1 (xs.map eI), .fn (.func F) [] cap] (.bool (xs.any q)) := by
  rw [← any_fst]
  refine fnb Tryz.func180 (entered_of (by kernel_rfl)) rfl rfl rfl ?_
  repeat' (first | refine sA ?_ | ((first | apply kM | apply kN); (iterate 3 (· exact rfl)); (· first | exact ya | exact q_c (idxInt_fn xs F cap q hF hn) rfl)) | refine sG ?_ | (refine sK ?_ ?_ <;> intro hc <;> (try simp only [KL, sL, reduceCtorEq] at hc) <;> (try (exfalso; omega))))
  exact retq rfl rfl
theorem cutC_fn (n : Int) : Fn Tryz.prog 181 [.int .i64 n] (.bool (decide (n < 0))) := by
  refine fnb Tryz.func181 (entered_of (by kernel_rfl)) rfl rfl rfl ?_
  repeat' (first | refine sA ?_ | ((first | apply kM | apply kN); (iterate 3 (· exact rfl)); (· first | exact ya)) | refine sG ?_ | (refine sK ?_ ?_ <;> intro hc <;> (try simp only [KL, sL, reduceCtorEq] at hc) <;> (try (exfalso; omega))))
  exact retq rfl rfl
def cutR (l : List Int) : List (Int × Int) := if sumL l ≤ 4096 then cutL 0 l else []
def cutE (l : List Int) : Int := if sumL l ≤ 4096 then 0 else 6
theorem cut_fn (l : List Int) (h : ∀ x ∈ l, 0 ≤ x ∧ x ≤ 1000000) (hn : l.length ≤ 1000) : Fn Tryz.prog 159 [.int .i64 4096, .lst 1 (l.map eI)] (.tup [.lst 2 ((cutR l).map eRg), .int .i64 (cutE l)]) := by
  have c1 := conInt_fn l 181 [] (fun n => decide (n < 0)) (fun x => cutC_fn x) (by omega)
  have e1 : l.any (fun n => decide (n < 0)) = false := List.any_eq_false.2 fun x hx => by have := h x hx; simp; omega
  rw [e1] at c1
  have hs : ∀ k, sumL (l.take k) ≤ sumL l := sum_le fun x hx => (h x hx).1
  have hs0 : ∀ k, 0 ≤ sumL (l.take k) := fun k => (sum_B fun x hx => h x (List.mem_of_mem_take hx)).1
  refine fnb Tryz.func159 (entered_of (by kernel_rfl)) rfl rfl rfl ?_
  repeat' (first | refine sA ?_ | ((first | apply kM | apply kN); (iterate 3 (· exact rfl)); (· first | exact ya | exact q_c (c1) rfl)) | refine sG ?_ | (refine sK ?_ ?_ <;> intro hc <;> (try simp only [KL, sL, reduceCtorEq] at hc) <;> (try (exfalso; omega))))
  refine wturn (turn_own eRg (t := 6) rfl 10 135 2 (by omega) rfl) ?_
  refine wloop (fun k : Nat => ([(0, .int .i64 4096), (6, .own 10), (7, .int .i64 (sumL (l.take k))), (12, .lst 1 (l.map eI)), (13, .int .i64 l.length), (14, .int .i64 k)], [(10, .row 135 2 ((cutL 0 (l.take k)).map eRg))])) (fun k => k ≤ l.length ∧ sumL (l.take k) ≤ 4096) (fun k => l.length - k) 0 ⟨Nat.zero_le _, by rw [List.take_zero]; decide⟩ les leh (fun k hk => ?_)
  obtain ⟨hk, hx⟩ := hk
  have h0 := hs0 k
  rcases Nat.lt_or_eq_of_le hk with hkl | hkl
  · obtain ⟨n, hnn⟩ : ∃ n, l.getD k default = n := ⟨_, rfl⟩
    have e2 := sum_take hkl
    have e3 := cut_take hkl
    rw [hnn] at e2 e3
    have hnb : 0 ≤ n ∧ n ≤ 1000000 := h n (hnn ▸ getD_mem hkl)
    have hlen : (cutL 0 (l.take k)).length = k := by rw [cutL_len, List.length_take]; omega
    repeat' (first | refine sA ?_ | ((first | apply kM | apply kN); (iterate 3 (· exact rfl)); (· first | (show Y _ ⟨_, .indexAddr _ _ _, _, _, _, _⟩ _ _ _; first | exact Y.mk (ok_indexE (hnn) rfl rfl rfl rfl rfl (by omega))) | exact ya)) | refine sG ?_ | (refine sK ?_ ?_ <;> intro hc <;> (try simp only [KL, sL, reduceCtorEq] at hc) <;> (try (exfalso; omega))))
    all_goals first | (exfalso; omega) | skip
    · have := hs (k + 1)
      rw [cutR, cutE, if_neg (by omega), if_neg (by omega)]
      refine retT (fun _ => turn_nil 2 (t := 4) rfl) ?_
      exact retq rfl rfl
    · (refine ao_ap (id := 10) (ys := [(sumL (l.take k), n)]) (by_ := 16) rfl rfl rfl rfl rfl rfl rfl rfl rfl rfl (fun _ _ => rfl) ?_ ?_ rfl rfl rfl rfl rfl ?_; (· (first | omega | ((try simp only [List.length_cons, List.length_nil, List.length_append, List.length_map]) <;> omega))); (· (first | omega | ((try simp only [List.length_cons, List.length_nil, List.length_append, List.length_map]) <;> omega))))
      repeat' (first | refine sA ?_ | ((first | apply kM | apply kN); (iterate 3 (· exact rfl)); (· first | exact ya)) | refine sG ?_ | (refine sK ?_ ?_ <;> intro hc <;> (try simp only [KL, sL, reduceCtorEq] at hc) <;> (try (exfalso; omega))))
      exact ⟨k + 1, ⟨by omega, by omega⟩, by omega, by rw [e2]; exact les, by rw [e3]; exact leh⟩
  · subst hkl
    rw [List.take_length] at hx
    rw [cutR, cutE, if_pos hx, if_pos hx, List.take_length]
    repeat' (first | refine sA ?_ | ((first | apply kM | apply kN); (iterate 3 (· exact rfl)); (· first | exact ya)) | refine sG ?_ | (refine sK ?_ ?_ <;> intro hc <;> (try simp only [KL, sL, reduceCtorEq] at hc) <;> (try (exfalso; omega))))
    all_goals first | (exfalso; omega) | skip
    refine retT (fun _ => turn_freeze (t := 4) rfl rfl rfl) ?_
    exact retq rfl rfl
def lensB (S : System) : Bool := S.tasks.all (fun t => decide (1 ≤ t.own ∧ t.own ≤ 64)) && S.objects.all rightO
def lensL (S : System) : List Int := S.tasks.map (·.own) ++ S.objects.map sizeO
theorem size_0 (o : Object) : sizeO o = 0 ↔ rightO o = false := by
  unfold sizeO rightO
  by_cases h : rightP o
  · have := sizeK_B h
    rw [if_pos h, decide_eq_true h]; simp; omega
  · rw [if_neg h, decide_eq_false h]; simp
theorem size_B (o : Object) : 0 ≤ sizeO o ∧ sizeO o ≤ 200 := by
  unfold sizeO
  split
  · rename_i h; have := sizeK_B h; omega
  · omega
theorem map_take {α : Type} [Inhabited α] (f : α → Int) {l : List α} {k : Nat} (hk : k < l.length) : (l.take (k + 1)).map f = (l.take k).map f ++ [f (l.getD k default)] := by
  rw [List.take_succ_eq_append_getElem hk, List.map_append]; simp [hk]
theorem all_of {α : Type} [Inhabited α] {l : List α} {q : α → Bool} (h : ∀ j, j < l.length → q (l.getD j default) = true) : l.all q = true := List.all_eq_true.2 fun x hx => by
  obtain ⟨j, hj, rfl⟩ := List.getElem_of_mem hx
  have := h j hj
  simpa [hj] using this
theorem all_not {α : Type} [Inhabited α] {l : List α} {q : α → Bool} {k : Nat} (hk : k < l.length) (h : q (l.getD k default) = false) : l.all q = false := List.all_eq_false.2 ⟨_, getD_mem hk, by rw [h]; simp⟩
theorem lens_fn (S : System) (h : OkS S) : Fn Tryz.prog 158 [.agg (eSystem S)] (.tup [.lst 1 ((if lensB S = true then lensL S else []).map eI), .bool (lensB S)]) := by
  have h1 := h.tl
  have h2 := h.ol
  obtain ⟨ts, os⟩ := S
  dsimp only at h1 h2
  refine fnb Tryz.func158 (entered_of (by kernel_rfl)) rfl rfl rfl ?_
  repeat' (first | refine sA ?_ | ((first | apply kM | apply kN); (iterate 3 (· exact rfl)); (· first | exact ya)) | refine sG ?_ | (refine sK ?_ ?_ <;> intro hc <;> (try simp only [KL, sL, reduceCtorEq] at hc) <;> (try (exfalso; omega))))
  refine wturn (turn_own eI (t := 4) rfl 10 3 1 (by omega) rfl) ?_
  refine wloop (fun k : Nat => ([(1, .ref (eSystem ⟨ts, os⟩)), (4, .own 10), (11, .lst 7 (ts.map eTask)), (12, .int .i64 ts.length), (13, .int .i64 k)], [(10, .row 3 1 (((ts.take k).map (·.own)).map eI))])) (fun k => k ≤ ts.length ∧ ∀ j, j < k → decide (1 ≤ (ts.getD j default).own ∧ (ts.getD j default).own ≤ 64) = true) (fun k => ts.length - k) 0 ⟨Nat.zero_le _, fun j hj => by omega⟩ les leh (fun k hk => ?_)
  obtain ⟨hk, ha⟩ := hk
  rcases Nat.lt_or_eq_of_le hk with hkl | hkl
  · have e2 := map_take (fun t : Task => t.own) hkl
    have hlen : ((ts.take k).map (fun t : Task => t.own)).length = k := by simp; omega
    have hlen2 : (ts.take k).length = k := by simp; omega
    have hno := all_not (q := fun t : Task => decide (1 ≤ t.own ∧ t.own ≤ 64)) hkl
    obtain ⟨t, ht⟩ : ∃ t, ts.getD k default = t := ⟨_, rfl⟩
    rw [ht] at e2 hno
    by_cases hw : 1 ≤ t.own ∧ t.own ≤ 64
    · repeat' (first | refine sA ?_ | (show O _ _ _ _ _ _ _; first | refine ao_alloc (id := 11) rfl rfl rfl rfl rfl rfl rfl ?_) | ((first | apply kM | apply kN); (iterate 3 (· exact rfl)); (· first | (show Y _ ⟨_, .indexAddr _ _ _, _, _, _, _⟩ _ _ _; first | exact Y.mk (ok_indexE (ht) rfl rfl rfl rfl rfl (by omega))) | exact ya)) | refine sG ?_ | (refine sK ?_ ?_ <;> intro hc <;> (try simp only [KL, sL, reduceCtorEq] at hc) <;> (try (exfalso; omega))))
      all_goals first | (exfalso; omega) | skip
      (refine ao_ap (id := 10) (ys := [t.own]) (by_ := 8) rfl rfl rfl rfl rfl rfl rfl rfl rfl rfl (fun _ _ => rfl) ?_ ?_ rfl rfl rfl rfl rfl ?_; (· (first | omega | ((try simp only [List.length_cons, List.length_nil, List.length_append, List.length_map]) <;> omega))); (· (first | omega | ((try simp only [List.length_cons, List.length_nil, List.length_append, List.length_map]) <;> omega))))
      repeat' (first | refine sA ?_ | ((first | apply kM | apply kN); (iterate 3 (· exact rfl)); (· first | exact ya)) | refine sG ?_ | (refine sK ?_ ?_ <;> intro hc <;> (try simp only [KL, sL, reduceCtorEq] at hc) <;> (try (exfalso; omega))))
      refine ⟨k + 1, ⟨by omega, fun j hj => ?_⟩, by omega, les, by rw [e2]; exact leh⟩
      by_cases e : j = k
      · subst e; rw [ht]; exact decide_eq_true hw
      · exact ha j (by omega)
    · have e : lensB ⟨ts, os⟩ = false := by rw [lensB, hno (decide_eq_false hw), Bool.false_and]
      rw [e, if_neg (by simp)]
      repeat' (first | refine sA ?_ | (show O _ _ _ _ _ _ _; first | refine ao_alloc (id := 11) rfl rfl rfl rfl rfl rfl rfl ?_) | ((first | apply kM | apply kN); (iterate 3 (· exact rfl)); (· first | (show Y _ ⟨_, .indexAddr _ _ _, _, _, _, _⟩ _ _ _; first | exact Y.mk (ok_indexE (ht) rfl rfl rfl rfl rfl (by omega))) | exact ya)) | refine sG ?_ | (refine sK ?_ ?_ <;> intro hc <;> (try simp only [KL, sL, reduceCtorEq] at hc) <;> (try (exfalso; omega))))
      all_goals first | (exfalso; omega) | skip
      all_goals refine retT (fun _ => turn_nil 1 (t := 2) rfl) ?_
      all_goals exact retq rfl rfl
  subst hkl
  have hT := all_of (q := fun t : Task => decide (1 ≤ t.own ∧ t.own ≤ 64)) ha
  have hB : lensB ⟨ts, os⟩ = os.all rightO := by rw [lensB, hT, Bool.true_and]
  rw [hB]
  repeat' (first | refine sA ?_ | ((first | apply kM | apply kN); (iterate 3 (· exact rfl)); (· first | exact ya)) | refine sG ?_ | (refine sK ?_ ?_ <;> intro hc <;> (try simp only [KL, sL, reduceCtorEq] at hc) <;> (try (exfalso; omega))))
  all_goals first | (exfalso; omega) | skip
  refine wloop (fun k : Nat => ([(1, .ref (eSystem ⟨ts, os⟩)), (4, .own 10), (32, .lst 8 (os.map eObject)), (33, .int .i64 os.length), (34, .int .i64 k)], [(10, .row 3 1 ((ts.map (·.own) ++ (os.take k).map sizeO).map eI))])) (fun k => k ≤ os.length ∧ ∀ j, j < k → rightO (os.getD j default) = true) (fun k => os.length - k) 0 ⟨Nat.zero_le _, fun j hj => by omega⟩ les (by rw [List.take_length, List.take_zero, List.map_nil, List.append_nil]; exact leh) (fun k hk => ?_)
  obtain ⟨hk, ha⟩ := hk
  rcases Nat.lt_or_eq_of_le hk with hkl | hkl
  · have e2 := map_take sizeO hkl
    have hlen : (ts.map (fun t : Task => t.own) ++ (os.take k).map sizeO).length = ts.length + k := by simp; omega
    have hlen2 : (os.take k).length = k := by simp; omega
    have hno := all_not (q := rightO) hkl
    obtain ⟨o, ho⟩ : ∃ o, os.getD k default = o := ⟨_, rfl⟩
    rw [ho] at e2 hno
    have c1 := size_fn o
    have hs := size_0 o
    cases hr : rightO o
    · have hz := hs.2 hr
      rw [hz] at c1
      rw [hno hr, if_neg (by simp)]
      repeat' (first | refine sA ?_ | (show O _ _ _ _ _ _ _; first | refine ao_alloc (id := 11) rfl rfl rfl rfl rfl rfl rfl ?_) | ((first | apply kM | apply kN); (iterate 3 (· exact rfl)); (· first | (show Y _ ⟨_, .indexAddr _ _ _, _, _, _, _⟩ _ _ _; first | exact Y.mk (ok_indexE (ho) rfl rfl rfl rfl rfl (by omega))) | exact ya | exact q_c (c1) rfl)) | refine sG ?_ | (refine sK ?_ ?_ <;> intro hc <;> (try simp only [KL, sL, reduceCtorEq] at hc) <;> (try (exfalso; omega))))
      all_goals first | (exfalso; omega) | skip
      all_goals refine retT (fun _ => turn_nil 1 (t := 2) rfl) ?_
      all_goals exact retq rfl rfl
    · have hz : ¬ sizeO o = 0 := fun e => by rw [hs.1 e] at hr; cases hr
      repeat' (first | refine sA ?_ | (show O _ _ _ _ _ _ _; first | refine ao_alloc (id := 11) rfl rfl rfl rfl rfl rfl rfl ?_) | ((first | apply kM | apply kN); (iterate 3 (· exact rfl)); (· first | (show Y _ ⟨_, .indexAddr _ _ _, _, _, _, _⟩ _ _ _; first | exact Y.mk (ok_indexE (ho) rfl rfl rfl rfl rfl (by omega))) | exact ya | exact q_c (c1) rfl)) | refine sG ?_ | (refine sK ?_ ?_ <;> intro hc <;> (try simp only [KL, sL, reduceCtorEq] at hc) <;> (try (exfalso; omega))))
      all_goals first | (exfalso; omega) | skip
      (refine ao_ap (id := 10) (ys := [sizeO o]) (by_ := 8) rfl rfl rfl rfl rfl rfl rfl rfl rfl rfl (fun _ _ => rfl) ?_ ?_ rfl rfl rfl rfl rfl ?_; (· (first | omega | ((try simp only [List.length_cons, List.length_nil, List.length_append, List.length_map]) <;> omega))); (· (first | omega | ((try simp only [List.length_cons, List.length_nil, List.length_append, List.length_map]) <;> omega))))
      repeat' (first | refine sA ?_ | ((first | apply kM | apply kN); (iterate 3 (· exact rfl)); (· first | exact ya)) | refine sG ?_ | (refine sK ?_ ?_ <;> intro hc <;> (try simp only [KL, sL, reduceCtorEq] at hc) <;> (try (exfalso; omega))))
      refine ⟨k + 1, ⟨by omega, fun j hj => ?_⟩, by omega, les, by rw [e2, ← List.append_assoc]; exact leh⟩
      by_cases e : j = k
      · subst e; rw [ho]; exact hr
      · exact ha j (by omega)
  · subst hkl
    rw [all_of ha, if_pos rfl, List.take_length]
    repeat' (first | refine sA ?_ | ((first | apply kM | apply kN); (iterate 3 (· exact rfl)); (· first | exact ya)) | refine sG ?_ | (refine sK ?_ ?_ <;> intro hc <;> (try simp only [KL, sL, reduceCtorEq] at hc) <;> (try (exfalso; omega))))
    all_goals first | (exfalso; omega) | skip
    refine retT (fun _ => turn_freeze (t := 2) rfl rfl rfl) ?_
    exact retq rfl rfl
def layO (S : System) : List (Int × Int) := cutL 0 (lensL S)
def layE (S : System) : Int := if lensB S = true then cutE (lensL S) else 1
def layC (S : System) : List AV := if layE S = 0 then [.lst 2 (((layO S).take S.tasks.length).map eRg), .lst 2 (((layO S).drop S.tasks.length).map eRg), .int .i64 (sumL (lensL S))] else [.nils, .nils, .int .i64 0]
theorem lens_B {S : System} (h : lensB S = true) : ∀ x ∈ lensL S, 0 ≤ x ∧ x ≤ 1000000 := fun x hx => by
  rw [lensB, Bool.and_eq_true, List.all_eq_true, List.all_eq_true] at h
  rcases List.mem_append.1 hx with hx | hx
  · obtain ⟨t, ht, rfl⟩ := List.mem_map.1 hx
    have := of_decide_eq_true (h.1 t ht)
    omega
  · obtain ⟨o, ho, rfl⟩ := List.mem_map.1 hx
    have := size_B o
    omega
theorem lens_len (S : System) : (lensL S).length = S.tasks.length + S.objects.length := by simp [lensL]
theorem clV_Rg (l : List (Int × Int)) (hn : l.length ≤ 1000000) : Fn Tryz.prog 160 [.lst 2 (l.map eRg)] (.lst 2 (l.map eRg)) := by
  refine fnb Tryz.func160 (entered_of (by kernel_rfl)) rfl rfl rfl ?_
  repeat' (first | refine sA ?_ | ((first | apply kM | apply kN); (iterate 3 (· exact rfl)); (· first | exact ya)) | refine sG ?_ | (refine sK ?_ ?_ <;> intro hc <;> (try simp only [KL, sL, reduceCtorEq] at hc) <;> (try (exfalso; omega))))
  refine ao_nilq rfl rfl rfl rfl rfl rfl rfl (fun b hb => ?_)
  cases b
  · repeat' (first | refine sA ?_ | ((first | apply kM | apply kN); (iterate 3 (· exact rfl)); (· first | exact yag)) | refine sG ?_ | (refine sK ?_ ?_ <;> intro hc <;> (try simp only [KL, sL, reduceCtorEq] at hc) <;> (try (exfalso; omega))))
    refine o_blit (f := eRg) (l := []) (id := 10) (sz := 2) rfl rfl rfl rfl rfl rfl rfl rfl rfl rfl rfl rfl rfl rfl ?_
    repeat' (first | refine sA ?_ | ((first | apply kM | apply kN); (iterate 3 (· exact rfl)); (· first | exact ya)) | refine sG ?_ | (refine sK ?_ ?_ <;> intro hc <;> (try simp only [KL, sL, reduceCtorEq] at hc) <;> (try (exfalso; omega))))
    (refine ao_ap (id := 10) (ys := l) (by_ := 16) rfl rfl rfl rfl rfl rfl rfl rfl rfl rfl (fun _ _ => rfl) ?_ ?_ rfl rfl rfl rfl rfl ?_; (· (first | omega | ((try simp only [List.length_cons, List.length_nil, List.length_append, List.length_map]) <;> omega))); (· (first | omega | ((try simp only [List.length_cons, List.length_nil, List.length_append, List.length_map]) <;> omega))))
    repeat' (first | refine sA ?_ | ((first | apply kM | apply kN); (iterate 3 (· exact rfl)); (· first | exact ya)) | refine sG ?_ | (refine sK ?_ ?_ <;> intro hc <;> (try simp only [KL, sL, reduceCtorEq] at hc) <;> (try (exfalso; omega))))
    refine retT (fun _ => turn_freeze (t := 2) rfl rfl rfl) ?_
    exact retq rfl rfl
  · have h0 : l = [] := by simpa using hb rfl
    subst h0
    repeat' (first | refine sA ?_ | ((first | apply kM | apply kN); (iterate 3 (· exact rfl)); (· first | exact ya)) | refine sG ?_ | (refine sK ?_ ?_ <;> intro hc <;> (try simp only [KL, sL, reduceCtorEq] at hc) <;> (try (exfalso; omega))))
    refine retT (fun _ => turn_nil 2 (t := 2) rfl) ?_
    exact retq rfl rfl
theorem of31_fn (S : System) (h : OkS S) : Fn Tryz.prog 125 [.agg (eSystem S)] (.tup [.agg (layC S), .int .i64 (layE S)]) := by
  have h1 := h.tl
  have h2 := h.ol
  have c1 := lens_fn S h
  cases hb : lensB S
  · have e : layE S = 1 := by rw [layE, hb, if_neg (by simp)]
    rw [layC, e, if_neg (by omega)]
    rw [hb, if_neg (by simp)] at c1
    refine fnb Tryz.func125 (entered_of (by kernel_rfl)) rfl rfl rfl ?_
    repeat' (first | refine sA ?_ | (show O _ _ _ _ _ _ _; first | refine ao_alloc (id := 10) rfl rfl rfl rfl rfl rfl rfl ?_) | ((first | apply kM | apply kN); (iterate 3 (· exact rfl)); (· first | exact ya | exact q_c (c1) rfl)) | refine sG ?_ | (refine sK ?_ ?_ <;> intro hc <;> (try simp only [KL, sL, reduceCtorEq] at hc) <;> (try (exfalso; omega))))
    all_goals first | (exfalso; omega) | exact retq rfl rfl
  have hB := lens_B hb
  have hl := lens_len S
  have c2 := cut_fn (lensL S) hB (by omega)
  have e : layE S = cutE (lensL S) := by rw [layE, hb, if_pos rfl]
  rw [hb, if_pos rfl] at c1
  by_cases hs : sumL (lensL S) ≤ 4096
  case neg =>
    have e0 : cutE (lensL S) = 6 := by rw [cutE, if_neg hs]
    rw [layC, e, e0, if_neg (by omega)]
    rw [e0] at c2
    refine fnb Tryz.func125 (entered_of (by kernel_rfl)) rfl rfl rfl ?_
    repeat' (first | refine sA ?_ | (show O _ _ _ _ _ _ _; first | refine ao_alloc (id := 10) rfl rfl rfl rfl rfl rfl rfl ?_) | ((first | apply kM | apply kN); (iterate 3 (· exact rfl)); (· first | exact ya | exact q_c (c1) rfl | exact q_c (c2) rfl)) | refine sG ?_ | (refine sK ?_ ?_ <;> intro hc <;> (try simp only [KL, sL, reduceCtorEq] at hc) <;> (try (exfalso; omega))))
    all_goals first | (exfalso; omega) | exact retq rfl rfl
  have e0 : cutE (lensL S) = 0 := by rw [cutE, if_pos hs]
  have e1 : cutR (lensL S) = layO S := by rw [cutR, if_pos hs]; rfl
  rw [layC, e, e0, if_pos rfl]
  rw [e0, e1] at c2
  have hol : (layO S).length = S.tasks.length + S.objects.length := by rw [layO, cutL_len, hl]
  have hs0 := sum_B hB
  have hsk : ∀ k, 0 ≤ sumL ((lensL S).take k) ∧ sumL ((lensL S).take k) ≤ 4096 := fun k => by
    have q1 := (sum_B (l := (lensL S).take k) fun x hx => hB x (List.mem_of_mem_take hx)).1
    have q2 := sum_le (l := lensL S) (fun x hx => (hB x hx).1) k
    omega
  generalize lensL S = l at *
  generalize layO S = g at *
  have c3 := clV_Rg (g.take S.tasks.length) (by rw [List.length_take]; omega)
  have c4 : Fn Tryz.prog 160 [.lst 2 (((g.take g.length).drop S.tasks.length).map eRg)] (.lst 2 ((g.drop S.tasks.length).map eRg)) := by
    rw [List.take_length]; exact clV_Rg _ (by rw [List.length_drop]; omega)
  refine fnb Tryz.func125 (entered_of (by kernel_rfl)) rfl rfl rfl ?_
  repeat' (first | refine sB ?_ | (show O _ _ _ _ _ _ _; first | refine ao_alloc (id := 10) rfl rfl rfl rfl rfl rfl rfl ?_) | ((first | apply kM | apply kN); (iterate 3 (· exact rfl)); (· first | exact ya | exact q_c (c1) rfl | exact q_c (c2) rfl)) | refine sG ?_ | (refine sK ?_ ?_ <;> intro hc <;> (try simp only [KL, sL, reduceCtorEq] at hc) <;> (try (exfalso; omega))))
  all_goals first | (exfalso; omega) | skip
  refine wdrawN (H := fun (y : List AV) (f : Bool) => (bif f then [(12, .blk 109 y)] else []) ++ [(10, .blk 109 [.nils, .nils, .int .i64 0])]) (ok := fun _ => True) (ok1 := fun y => y = [.nils, .nils, .int .i64 0]) (tn := [14]) (ln := []) (c := 13) (N := 12) [.nils, .nils, .int .i64 0] leh (by kernel_rfl) (by kernel_rfl) (by kernel_rfl) trivial rfl rfl rfl rfl ?_
  repeat' (first | refine sA ?_ | ((first | apply kM | apply kN); (iterate 3 (· exact rfl)); (· first | exact ya | exact q_c (c3) rfl | exact q_c (c4) rfl)) | (show NW _ _ _ _ _ _ _ _ _ _ _ _ _ _; first | refine nnil ?_ | (apply n_any; (· exact rfl); (· exact rfl); (· exact rfl); (· intro y' f' hy'; first | exact ya | exact q_c (c3) rfl | exact q_c (c4) rfl); (· first | exact rfl | kernel_rfl))) | refine sG ?_ | (refine sK ?_ ?_ <;> intro hc <;> (try simp only [KL, sL, reduceCtorEq] at hc) <;> (try (exfalso; omega))))
  refine n_new (v := .ptr 12 0) rfl rfl (fun y hy1 => ?_) ?_
  · subst hy1
    exact TuN.post (tn_alloc rfl rfl rfl rfl rfl) leh
  repeat' (first | refine sA ?_ | ((first | apply kM | apply kN); (iterate 3 (· exact rfl)); (· first | exact ya)) | (show NW _ _ _ _ _ _ _ _ _ _ _ _ _ _; first | refine nnil ?_ | (apply n_any; (· exact rfl); (· exact rfl); (· exact rfl); (· intro y' f' hy'; first | exact ya); (· first | exact rfl | kernel_rfl))) | refine sG ?_ | (refine sK ?_ ?_ <;> intro hc <;> (try simp only [KL, sL, reduceCtorEq] at hc) <;> (try (exfalso; omega))))
  refine n_tu1 (x' := [.lst 2 ((g.take S.tasks.length).map eRg), .lst 2 ((g.drop S.tasks.length).map eRg), .int .i64 0]) rfl rfl rfl trivial (by first | exact rfl | kernel_rfl) (TuO.post (tu_st (sto_B rfl rfl rfl rfl rfl rfl (Nat.le_of_ble_eq_true rfl)) rfl) leh) (by first | exact rfl | kernel_rfl) ?_
  repeat' (first | refine sB ?_ | ((first | apply kM | apply kN); (iterate 3 (· exact rfl)); (· first | exact ya)) | (show NW _ _ _ _ _ _ _ _ _ _ _ _ _ _; first | refine nnil ?_ | (apply n_any; (· exact rfl); (· exact rfl); (· exact rfl); (· intro y' f' hy'; first | exact ya); (· first | exact rfl | kernel_rfl))) | refine sG ?_ | (refine sK ?_ ?_ <;> intro hc <;> (try simp only [KL, sL, reduceCtorEq] at hc) <;> (try (exfalso; omega))))
  refine wloop (fun k : Nat => ([(2, .ptr 10 0), (8, .ptr 12 0), (41, .lst 1 (l.map eI)), (42, .int .i64 l.length), (43, .int .i64 k)], [(10, .blk 109 [.nils, .nils, .int .i64 0]), (12, .blk 109 [.lst 2 ((g.take S.tasks.length).map eRg), .lst 2 ((g.drop S.tasks.length).map eRg), .int .i64 (sumL (l.take k))])])) (fun k => k ≤ l.length) (fun k => l.length - k) 0 (Nat.zero_le _) les leh (fun k hk => ?_)
  rcases Nat.lt_or_eq_of_le hk with hkl | hkl
  · obtain ⟨n, hnn⟩ : ∃ n, l.getD k default = n := ⟨_, rfl⟩
    have e2 := sum_take hkl
    rw [hnn] at e2
    have q1 := hsk k
    have q2 := hsk (k + 1)
    repeat' (first | refine sA ?_ | ((first | apply kM | apply kN); (iterate 3 (· exact rfl)); (· first | (show Y _ ⟨_, .indexAddr _ _ _, _, _, _, _⟩ _ _ _; first | exact Y.mk (ok_indexE (hnn) rfl rfl rfl rfl rfl (by omega))) | exact ya)) | refine sG ?_ | (refine sK ?_ ?_ <;> intro hc <;> (try simp only [KL, sL, reduceCtorEq] at hc) <;> (try (exfalso; omega))))
    all_goals first | (exfalso; omega) | exact ⟨k + 1, by omega, by omega, les, by rw [e2]; exact leh⟩
  · subst hkl
    rw [List.take_length]
    repeat' (first | refine sA ?_ | ((first | apply kM | apply kN); (iterate 3 (· exact rfl)); (· first | exact ya)) | refine sG ?_ | (refine sK ?_ ?_ <;> intro hc <;> (try simp only [KL, sL, reduceCtorEq] at hc) <;> (try (exfalso; omega))))
    all_goals first | (exfalso; omega) | exact retq rfl rfl
end Go.Proofs.YtkkmageogkkchaaGreat
