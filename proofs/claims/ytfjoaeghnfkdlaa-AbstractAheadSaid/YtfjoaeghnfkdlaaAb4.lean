/- How many ticks somebody has, and how long the slowest job took. No condition. -/
import Derived.Test.YtfjoaeghnfkdlaaAb3
namespace Go.Proofs.Ytfjoaeghnfkdlaa
set_option linter.unusedSimpArgs false
set_option linter.unusedVariables false
set_option maxRecDepth 100000
set_option linter.unusedSimpArgs false
set_option linter.unusedVariables false
set_option maxRecDepth 100000
open Go.RowKit
def LeV0 (x y : AV) : Prop := ∀ σ v, VR0 σ x v → VR0 σ y v
theorem LeV0.refl (x : AV) : LeV0 x x := fun _ _ h => h
theorem LeV0.nils (sz : Nat) : LeV0 .nils (.lst sz []) := fun σ v h => by
  cases h; exact .empty sz none 0 (by simp)
theorem LeV.lst {sz : Nat} {xs ys : List (List AV)} (hl : xs.map (·.length) = ys.map (·.length)) (h : L2 LeV0 xs.flatten ys.flatten) : LeV (.lst sz xs) (.lst sz ys) := fun σ ι v hv => by
  have hlen : xs.length = ys.length := by have := congrArg List.length hl; simpa using this
  cases hv with
  | base _ _ h0 =>
    cases h0 with
    | empty _ A cap hc =>
      have : ys = [] := List.eq_nil_of_length_eq_zero (by rw [← hlen]; rfl)
      subst this
      exact .base _ _ (.empty sz A cap hc)
    | lst _ _ b off cap g h1 h2 h3 h4 h5 =>
      rw [hlen] at h1 ⊢
      have hx : ∀ (j : Nat) (c : AV), ys.flatten[j]? = some c → ∃ c', xs.flatten[j]? = some c' ∧ LeV0 c' c := fun j c hc => by
        have hj : j < xs.flatten.length := by rw [h.1]; exact (List.getElem?_eq_some_iff.1 hc).1
        exact ⟨_, List.getElem?_eq_getElem hj, h.2 j _ c (List.getElem?_eq_getElem hj) hc⟩
      refine .base _ _ (.lst sz ys b off cap g h1 h2 (fun c hc => ?_) (fun j c hc => ?_) (fun j c hc => ?_))
      · obtain ⟨i, hi, rfl⟩ := List.getElem_of_mem hc
        have e : (xs.map (·.length))[i]? = (ys.map (·.length))[i]? := by rw [hl]
        have hi' : i < xs.length := by omega
        simp [hi, hi'] at e
        rw [← e]; exact h3 _ (List.getElem_mem hi')
      · obtain ⟨c', e1, _⟩ := hx j c hc
        exact h4 j c' e1
      · obtain ⟨c', e1, e2⟩ := hx j c hc
        exact e2 _ _ (h5 j c' e1)
theorem awake30_fn : Fn Try.prog 33 [] (.bool true) := by
  have f1 := timeline_fn [⟨0, 0, 0, 0, 4, 0, []⟩, ⟨0, 1, 0, 0, 4, 0, []⟩] [⟨0, 0⟩, ⟨0, 1⟩] [[2], [2]] 4 (by decide) (by decide)
  rw [show (layF [⟨0, 0, 0, 0, 4, 0, []⟩, ⟨0, 1, 0, 0, 4, 0, []⟩] [⟨0, 0⟩, ⟨0, 1⟩] [[2], [2]] 4).T = [1, 1, 0, 0] by decide] at f1
  have f2 := pl_Ints [1, 1, 0, 0] [1, 1, 0, 0]
  rw [show decide (([1, 1, 0, 0] : List Int) = [1, 1, 0, 0]) = true by decide] at f2
  have f3 : Fn Try.prog 35 [.lst 7 [[.int .i64 0, .int .i64 0, .int .i64 0, .int .i64 0, .int .i64 4, .int .i64 0, .nils], [.int .i64 0, .int .i64 1, .int .i64 0, .int .i64 0, .int .i64 4, .int .i64 0, .nils]], .lst 2 [[.int .i64 0, .int .i64 0], [.int .i64 0, .int .i64 1]], .lst 1 [[.lst 1 [[.int .i64 2]]], [.lst 1 [[.int .i64 2]]]], .int .i64 4] (.lst 1 (([1, 1, 0, 0] : List Int).map eI)) := by
    refine f1.le ?_
    refine L2.cons (LeV.lst rfl ?_) (L2.cons (LeV.of_eq rfl) (L2.cons (LeV.of_eq rfl) (L2.cons (LeV.of_eq rfl) (L2.nil _))))
    simp only [List.flatten, List.map, eTask, List.cons_append, List.nil_append]
    repeat' (first | exact L2.nil _ | refine L2.cons ?_ ?_ | exact LeV0.refl _ | exact LeV0.nils _)
  refine fnb Try.func33 (entered_of (by kernel_rfl)) rfl rfl rfl ?_
  repeat' (first | (show W _ _ _ _ _ _; first | refine wseq ?_ | refine wregion rfl ?_ | refine wcondT rfl rfl ?_ | refine wcondF rfl rfl ?_ | refine wblock ?_ | refine wskip ?_ | refine wexit ?_ | refine wret ?_ | refine wdraw (by kernel_rfl) (by kernel_rfl) ?_) | (show O _ _ _ _ _ _ _; first | (show O _ _ _ _ (⟨_, .store _ _ _, _, _, _, _⟩ :: _) _ _; refine ao_st rfl rfl rfl rfl rfl rfl rfl rfl rfl rfl rfl ?_) | refine onil ?_) | refine dnil ?_ | ((first | apply ao_k | apply ad_k); (· exact rfl); (· exact rfl); (· exact rfl); (· first | (show Y _ ⟨_, .call ⟨.value _, _, _⟩, _, _, _, _⟩ _ _ _; first | exact q_c (f3) rfl | exact q_c (f2) rfl) | exact ya)) | refine ogrdN rfl rfl rfl rfl rfl ?_ | refine dgrdN rfl rfl rfl ?_ | ((first | refine wcond rfl rfl (fun hc => ?_) (fun hc => ?_) | refine ogrd rfl rfl rfl rfl rfl (fun hc => ?_) (fun hc => ?_) | refine dgrd rfl rfl rfl (fun hc => ?_) (fun hc => ?_)) <;> (try simp only [KL, cond_true, cond_false, beq_iff_eq, bne_iff_ne, ne_eq, reduceCtorEq] at hc) <;> (try (have hT : True := hc; clear hT hc)) <;> (try (exfalso; omega))) | refine nThen ?_ | refine nIn ?_ | refine eThen ?_ | refine eIn ?_ | refine eInNe rfl ?_ | refine rThen ?_ | refine rIn ?_)
  exact retq rfl rfl
def respB (i : Int) (j : Job) : Bool := decide (j.task = i ∧ 0 ≤ j.fin)
theorem resp_spec (i : Int) : ∀ (js : List Job) (s : Int × Bool), (∀ j ∈ js, respB i j = true → difW j.fin j.release ≤ (js.foldl (respS i) s).1) ∧ (s.2 = true → s.1 ≤ (js.foldl (respS i) s).1) ∧
    (js.foldl (respS i) s).2 = (s.2 || js.any (respB i)) ∧ (js.foldl (respS i) s = s ∨ ∃ j ∈ js, respB i j = true ∧ difW j.fin j.release = (js.foldl (respS i) s).1)
  | [], s => ⟨fun j h => by simp at h, fun _ => Int.le_refl _, by simp, .inl rfl⟩
  | d :: js, s => by
    obtain ⟨h1, h2, h3, h4⟩ := resp_spec i js (respS i s d)
    rw [List.foldl_cons]
    generalize hf : js.foldl (respS i) (respS i s d) = F at *
    by_cases hb : d.task = i ∧ 0 ≤ d.fin
    · have e : respS i s d = (if s.2 = false ∨ s.1 < difW d.fin d.release then difW d.fin d.release else s.1, true) := by rw [respS, if_pos hb]
      have eb : respB i d = true := decide_eq_true hb
      rw [e] at h2 h3 h4
      have h2 := h2 rfl
      simp only at h2 h3 h4
      have h5 : difW d.fin d.release ≤ F.1 := by
        split at h2
        · exact h2
        · rename_i h; have := fun h' => h (.inr h'); omega
      refine ⟨fun j hj hr => ?_, fun hs => ?_, ?_, ?_⟩
      · rcases List.mem_cons.1 hj with rfl | hj
        · exact h5
        · exact h1 j hj hr
      · split at h2
        · rename_i h
          rcases h with h | h
          · rw [h] at hs; cases hs
          · omega
        · exact h2
      · rw [h3, List.any_cons, eb]; simp
      · rcases h4 with h4 | ⟨j, hj, hr, he⟩
        · by_cases hc : s.2 = false ∨ s.1 < difW d.fin d.release
          · rw [if_pos hc] at h4
            exact .inr ⟨d, List.mem_cons_self, eb, by rw [h4]⟩
          · rw [if_neg hc] at h4
            left
            rw [h4]
            obtain ⟨a, b⟩ := s
            have : b = true := by cases b; exact absurd (.inl rfl) hc; rfl
            rw [this]
        · exact .inr ⟨j, List.mem_cons_of_mem _ hj, hr, he⟩
    · have e : respS i s d = s := by rw [respS, if_neg hb]
      have eb : respB i d = false := decide_eq_false hb
      rw [e] at h2 h3 h4
      refine ⟨fun j hj hr => ?_, h2, ?_, ?_⟩
      · rcases List.mem_cons.1 hj with rfl | hj
        · rw [eb] at hr; cases hr
        · exact h1 j hj hr
      · rw [h3, List.any_cons, eb, Bool.false_or]
      · rcases h4 with h4 | ⟨j, hj, hr, he⟩
        · exact .inl h4
        · exact .inr ⟨j, List.mem_cons_of_mem _ hj, hr, he⟩
def metB (i r : Int) (j : Job) : Bool := respB i j && decide (difW j.fin j.release = r)
theorem any_take (p : Job → Bool) (js : List Job) (k : Nat) (h : k < js.length) : (js.take (k + 1)).any p = ((js.take k).any p || p (js.getD k default)) := by
  rw [List.take_succ_eq_append_getElem h, List.any_append]
  simp [h]
set_option maxHeartbeats 4000000 in
theorem abstractTells_fn (tl : List Int) (js : List Job) (i : Int) : Fn Try.prog 10 [.lst 1 (tl.map eI), .lst 8 (js.map eJob), .int .i64 i] (.bool true) := by
  have ha := awake30_fn
  refine fnb Try.func10 (entered_of (by kernel_rfl)) rfl rfl rfl ?_
  by_cases hn1 : tl.length ≤ 1000
  case neg =>
    repeat' (first | (show W _ _ _ _ _ _; first | refine wseq ?_ | refine wregion rfl ?_ | refine wcondT rfl rfl ?_ | refine wcondF rfl rfl ?_ | refine wblock ?_ | refine wskip ?_ | refine wexit ?_ | refine wret ?_ | refine wdraw (by kernel_rfl) (by kernel_rfl) ?_) | (show O _ _ _ _ _ _ _; first | (show O _ _ _ _ (⟨_, .store _ _ _, _, _, _, _⟩ :: _) _ _; refine ao_st rfl rfl rfl rfl rfl rfl rfl rfl rfl rfl rfl ?_) | refine onil ?_) | refine dnil ?_ | ((first | apply ao_k | apply ad_k); (· exact rfl); (· exact rfl); (· exact rfl); (· first | (show Y _ ⟨_, .call ⟨.value _, _, _⟩, _, _, _, _⟩ _ _ _; first | exact q_c (ha) rfl) | exact ya)) | refine ogrdN rfl rfl rfl rfl rfl ?_ | refine dgrdN rfl rfl rfl ?_ | ((first | refine wcond rfl rfl (fun hc => ?_) (fun hc => ?_) | refine ogrd rfl rfl rfl rfl rfl (fun hc => ?_) (fun hc => ?_) | refine dgrd rfl rfl rfl (fun hc => ?_) (fun hc => ?_)) <;> (try simp only [KL, cond_true, cond_false, beq_iff_eq, bne_iff_ne, ne_eq, reduceCtorEq] at hc) <;> (try (have hT : True := hc; clear hT hc)) <;> (try (exfalso; omega))) | refine nThen ?_ | refine nIn ?_ | refine eThen ?_ | refine eIn ?_ | refine eInNe rfl ?_ | refine rThen ?_ | refine rIn ?_)
    all_goals first | (exfalso; omega) | exact retq rfl rfl
  by_cases hn2 : js.length ≤ 1000
  case neg =>
    repeat' (first | (show W _ _ _ _ _ _; first | refine wseq ?_ | refine wregion rfl ?_ | refine wcondT rfl rfl ?_ | refine wcondF rfl rfl ?_ | refine wblock ?_ | refine wskip ?_ | refine wexit ?_ | refine wret ?_ | refine wdraw (by kernel_rfl) (by kernel_rfl) ?_) | (show O _ _ _ _ _ _ _; first | (show O _ _ _ _ (⟨_, .store _ _ _, _, _, _, _⟩ :: _) _ _; refine ao_st rfl rfl rfl rfl rfl rfl rfl rfl rfl rfl rfl ?_) | refine onil ?_) | refine dnil ?_ | ((first | apply ao_k | apply ad_k); (· exact rfl); (· exact rfl); (· exact rfl); (· first | (show Y _ ⟨_, .call ⟨.value _, _, _⟩, _, _, _, _⟩ _ _ _; first | exact q_c (ha) rfl) | exact ya)) | refine ogrdN rfl rfl rfl rfl rfl ?_ | refine dgrdN rfl rfl rfl ?_ | ((first | refine wcond rfl rfl (fun hc => ?_) (fun hc => ?_) | refine ogrd rfl rfl rfl rfl rfl (fun hc => ?_) (fun hc => ?_) | refine dgrd rfl rfl rfl (fun hc => ?_) (fun hc => ?_)) <;> (try simp only [KL, cond_true, cond_false, beq_iff_eq, bne_iff_ne, ne_eq, reduceCtorEq] at hc) <;> (try (have hT : True := hc; clear hT hc)) <;> (try (exfalso; omega))) | refine nThen ?_ | refine nIn ?_ | refine eThen ?_ | refine eIn ?_ | refine eInNe rfl ?_ | refine rThen ?_ | refine rIn ?_)
    all_goals first | (exfalso; omega) | exact retq rfl rfl
  repeat' (first | (show W _ _ _ _ _ _; first | refine wseq ?_ | refine wregion rfl ?_ | refine wcondT rfl rfl ?_ | refine wcondF rfl rfl ?_ | refine wblock ?_ | refine wskip ?_ | refine wexit ?_ | refine wret ?_ | refine wdraw (by kernel_rfl) (by kernel_rfl) ?_) | (show O _ _ _ _ _ _ _; first | (show O _ _ _ _ (⟨_, .store _ _ _, _, _, _, _⟩ :: _) _ _; refine ao_st rfl rfl rfl rfl rfl rfl rfl rfl rfl rfl rfl ?_) | refine onil ?_) | refine dnil ?_ | ((first | apply ao_k | apply ad_k); (· exact rfl); (· exact rfl); (· exact rfl); (· first | (show Y _ ⟨_, .call ⟨.value _, _, _⟩, _, _, _, _⟩ _ _ _; first | exact q_c (ha) rfl) | exact ya)) | refine ogrdN rfl rfl rfl rfl rfl ?_ | refine dgrdN rfl rfl rfl ?_ | ((first | refine wcond rfl rfl (fun hc => ?_) (fun hc => ?_) | refine ogrd rfl rfl rfl rfl rfl (fun hc => ?_) (fun hc => ?_) | refine dgrd rfl rfl rfl (fun hc => ?_) (fun hc => ?_)) <;> (try simp only [KL, cond_true, cond_false, beq_iff_eq, bne_iff_ne, ne_eq, reduceCtorEq] at hc) <;> (try (have hT : True := hc; clear hT hc)) <;> (try (exfalso; omega))) | refine nThen ?_ | refine nIn ?_ | refine eThen ?_ | refine eIn ?_ | refine eInNe rfl ?_ | refine rThen ?_ | refine rIn ?_)
  all_goals first | (exfalso; omega) | skip
  refine wloop (fun k : Nat => ([(0, .lst 1 (tl.map eI)), (1, .lst 8 (js.map eJob)), (2, .int .i64 i), (7, .int .i64 (busyL (tl.take k) i)), (25, .lst 1 (tl.map eI)), (26, .int .i64 tl.length), (27, .int .i64 k)], [])) (fun k => k ≤ tl.length) (fun k => tl.length - k) 0 (Nat.zero_le _) les leh (fun k hk => ?_)
  have hb := busy_le tl i k
  rcases Nat.lt_or_eq_of_le hk with hkl | hkl
  · have hnx := busy_next tl i k hkl
    obtain ⟨d, hd⟩ : ∃ d, tl.getD k default = d := ⟨_, rfl⟩
    rw [hd] at hnx
    by_cases hc0 : d = i
    · rw [if_pos hc0] at hnx
      repeat' (first | (show W _ _ _ _ _ _; first | refine wseq ?_ | refine wregion rfl ?_ | refine wcondT rfl rfl ?_ | refine wcondF rfl rfl ?_ | refine wblock ?_ | refine wskip ?_ | refine wexit ?_ | refine wret ?_ | refine wdraw (by kernel_rfl) (by kernel_rfl) ?_) | (show O _ _ _ _ _ _ _; first | (show O _ _ _ _ (⟨_, .store _ _ _, _, _, _, _⟩ :: _) _ _; refine ao_st rfl rfl rfl rfl rfl rfl rfl rfl rfl rfl rfl ?_) | refine onil ?_) | refine dnil ?_ | ((first | apply ao_k | apply ad_k); (· exact rfl); (· exact rfl); (· exact rfl); (· first | (show Y _ ⟨_, .indexAddr _ _ _, _, _, _, _⟩ _ _ _; first | exact Y.mk (ok_indexE (hd) rfl rfl rfl rfl rfl (by omega))) | exact ya)) | refine ogrdN rfl rfl rfl rfl rfl ?_ | refine dgrdN rfl rfl rfl ?_ | ((first | refine wcond rfl rfl (fun hc => ?_) (fun hc => ?_) | refine ogrd rfl rfl rfl rfl rfl (fun hc => ?_) (fun hc => ?_) | refine dgrd rfl rfl rfl (fun hc => ?_) (fun hc => ?_)) <;> (try simp only [KL, cond_true, cond_false, beq_iff_eq, bne_iff_ne, ne_eq, reduceCtorEq] at hc) <;> (try (have hT : True := hc; clear hT hc)) <;> (try (exfalso; omega))) | refine nThen ?_ | refine nIn ?_ | refine eThen ?_ | refine eIn ?_ | refine eInNe rfl ?_ | refine rThen ?_ | refine rIn ?_)
      all_goals first | (exfalso; omega) | exact ⟨k + 1, by omega, by omega, by simp only [hnx]; exact les, leh⟩
    · rw [if_neg hc0, Int.add_zero] at hnx
      repeat' (first | (show W _ _ _ _ _ _; first | refine wseq ?_ | refine wregion rfl ?_ | refine wcondT rfl rfl ?_ | refine wcondF rfl rfl ?_ | refine wblock ?_ | refine wskip ?_ | refine wexit ?_ | refine wret ?_ | refine wdraw (by kernel_rfl) (by kernel_rfl) ?_) | (show O _ _ _ _ _ _ _; first | (show O _ _ _ _ (⟨_, .store _ _ _, _, _, _, _⟩ :: _) _ _; refine ao_st rfl rfl rfl rfl rfl rfl rfl rfl rfl rfl rfl ?_) | refine onil ?_) | refine dnil ?_ | ((first | apply ao_k | apply ad_k); (· exact rfl); (· exact rfl); (· exact rfl); (· first | (show Y _ ⟨_, .indexAddr _ _ _, _, _, _, _⟩ _ _ _; first | exact Y.mk (ok_indexE (hd) rfl rfl rfl rfl rfl (by omega))) | exact ya)) | refine ogrdN rfl rfl rfl rfl rfl ?_ | refine dgrdN rfl rfl rfl ?_ | ((first | refine wcond rfl rfl (fun hc => ?_) (fun hc => ?_) | refine ogrd rfl rfl rfl rfl rfl (fun hc => ?_) (fun hc => ?_) | refine dgrd rfl rfl rfl (fun hc => ?_) (fun hc => ?_)) <;> (try simp only [KL, cond_true, cond_false, beq_iff_eq, bne_iff_ne, ne_eq, reduceCtorEq] at hc) <;> (try (have hT : True := hc; clear hT hc)) <;> (try (exfalso; omega))) | refine nThen ?_ | refine nIn ?_ | refine eThen ?_ | refine eIn ?_ | refine eInNe rfl ?_ | refine rThen ?_ | refine rIn ?_)
      all_goals first | (exfalso; omega) | exact ⟨k + 1, by omega, by omega, by simp only [hnx]; exact les, leh⟩
  subst hkl
  rw [List.take_length] at *
  have c1 := response_fn js i (by omega)
  have c2 := busy_fn tl i (by omega)
  obtain ⟨q1, q2, q3, q4⟩ := resp_spec i js (0, false)
  rw [respTo, List.take_length] at c1
  generalize hF : js.foldl (respS i) (0, false) = F at *
  obtain ⟨r, ok⟩ := F
  simp only [Bool.false_or] at q1 q2 q3 q4 c1
  repeat' (first | (show W _ _ _ _ _ _; first | refine wseq ?_ | refine wregion rfl ?_ | refine wcondT rfl rfl ?_ | refine wcondF rfl rfl ?_ | refine wblock ?_ | refine wskip ?_ | refine wexit ?_ | refine wret ?_ | refine wdraw (by kernel_rfl) (by kernel_rfl) ?_) | (show O _ _ _ _ _ _ _; first | (show O _ _ _ _ (⟨_, .store _ _ _, _, _, _, _⟩ :: _) _ _; refine ao_st rfl rfl rfl rfl rfl rfl rfl rfl rfl rfl rfl ?_) | refine onil ?_) | refine dnil ?_ | ((first | apply ao_k | apply ad_k); (· exact rfl); (· exact rfl); (· exact rfl); (· first | (show Y _ ⟨_, .call ⟨.value _, _, _⟩, _, _, _, _⟩ _ _ _; first | exact q_c (c1) rfl) | exact ya)) | refine ogrdN rfl rfl rfl rfl rfl ?_ | refine dgrdN rfl rfl rfl ?_ | ((first | refine wcond rfl rfl (fun hc => ?_) (fun hc => ?_) | refine ogrd rfl rfl rfl rfl rfl (fun hc => ?_) (fun hc => ?_) | refine dgrd rfl rfl rfl (fun hc => ?_) (fun hc => ?_)) <;> (try simp only [KL, cond_true, cond_false, beq_iff_eq, bne_iff_ne, ne_eq, reduceCtorEq] at hc) <;> (try (have hT : True := hc; clear hT hc)) <;> (try (exfalso; omega))) | refine nThen ?_ | refine nIn ?_ | refine eThen ?_ | refine eIn ?_ | refine eInNe rfl ?_ | refine rThen ?_ | refine rIn ?_)
  all_goals first | (exfalso; omega) | skip
  refine wloop (fun k : Nat => ([(0, .lst 1 (tl.map eI)), (2, .int .i64 i), (7, .int .i64 (busyL tl i)), (10, .int .i64 r), (11, .bool ok), (12, .bool ((js.take k).any (respB i))), (13, .bool ((js.take k).any (metB i r))), (43, .lst 8 (js.map eJob)), (44, .int .i64 js.length), (45, .int .i64 k)], [])) (fun k => k ≤ js.length) (fun k => js.length - k) 0 (Nat.zero_le _) les leh (fun k hk => ?_)
  rcases Nat.lt_or_eq_of_le hk with hkl | hkl
  · have hnx := any_take (respB i) js k hkl
    have hnx2 := any_take (metB i r) js k hkl
    have hmem := getD_mem hkl
    obtain ⟨d, hd⟩ : ∃ d, js.getD k default = d := ⟨_, rfl⟩
    rw [hd] at hnx hnx2 hmem
    have q1 := q1 d hmem
    generalize (js.take k).any (respB i) = any at *
    generalize (js.take k).any (metB i r) = met at *
    by_cases hr : 0 ≤ d.release ∧ d.release ≤ 1099511627776 ∧ d.fin ≤ 1099511627776
    case neg =>
      repeat' (first | (show W _ _ _ _ _ _; first | refine wseq ?_ | refine wregion rfl ?_ | refine wcondT rfl rfl ?_ | refine wcondF rfl rfl ?_ | refine wblock ?_ | refine wskip ?_ | refine wexit ?_ | refine wret ?_ | refine wdraw (by kernel_rfl) (by kernel_rfl) ?_) | (show O _ _ _ _ _ _ _; first | (show O _ _ _ _ (⟨_, .alloc _, _, _, _, _⟩ :: _) _ _; first | refine ao_alloc (id := 15) rfl rfl rfl rfl rfl rfl rfl ?_) | (show O _ _ _ _ (⟨_, .store _ _ _, _, _, _, _⟩ :: _) _ _; refine ao_st rfl rfl rfl rfl rfl rfl rfl rfl rfl rfl rfl ?_) | refine onil ?_) | refine dnil ?_ | ((first | apply ao_k | apply ad_k); (· exact rfl); (· exact rfl); (· exact rfl); (· first | (show Y _ ⟨_, .indexAddr _ _ _, _, _, _, _⟩ _ _ _; first | exact Y.mk (ok_indexE (hd) rfl rfl rfl rfl rfl (by omega))) | (show Y _ ⟨_, .call ⟨.value _, _, _⟩, _, _, _, _⟩ _ _ _; first | exact q_c (ha) rfl) | exact ya | exact q_w rfl)) | refine ogrdN rfl rfl rfl rfl rfl ?_ | refine dgrdN rfl rfl rfl ?_ | ((first | refine wcond rfl rfl (fun hc => ?_) (fun hc => ?_) | refine ogrd rfl rfl rfl rfl rfl (fun hc => ?_) (fun hc => ?_) | refine dgrd rfl rfl rfl (fun hc => ?_) (fun hc => ?_)) <;> (try simp only [KL, cond_true, cond_false, beq_iff_eq, bne_iff_ne, ne_eq, reduceCtorEq] at hc) <;> (try (have hT : True := hc; clear hT hc)) <;> (try (exfalso; omega))) | refine nThen ?_ | refine nIn ?_ | refine eThen ?_ | refine eIn ?_ | refine eInNe rfl ?_ | refine rThen ?_ | refine rIn ?_)
      all_goals first | (exfalso; omega) | exact retq rfl rfl
    have ed : IntKind.i64.wrap (d.fin - d.release) = d.fin - d.release ∨ d.fin < 0 := by
      by_cases h0 : 0 ≤ d.fin
      · exact .inl (wrap_in (by unfold rangeP; omega))
      · exact .inr (by omega)
    have hw := wrap_range .i64 (d.fin - d.release)
    by_cases hc0 : d.task = i ∧ 0 ≤ d.fin
    · have eb : respB i d = true := decide_eq_true hc0
      have q1 := q1 eb
      rw [eb, Bool.or_true] at hnx
      rw [metB, eb, Bool.true_and] at hnx2
      unfold difW at q1 hnx2
      rw [ed.resolve_right (by omega)] at q1 hnx2
      cases met
      · rw [Bool.false_or] at hnx2
        repeat' (first | (show W _ _ _ _ _ _; first | refine wseq ?_ | refine wregion rfl ?_ | refine wcondT rfl rfl ?_ | refine wcondF rfl rfl ?_ | refine wblock ?_ | refine wskip ?_ | refine wexit ?_ | refine wret ?_ | refine wdraw (by kernel_rfl) (by kernel_rfl) ?_) | (show O _ _ _ _ _ _ _; first | (show O _ _ _ _ (⟨_, .alloc _, _, _, _, _⟩ :: _) _ _; first | refine ao_alloc (id := 15) rfl rfl rfl rfl rfl rfl rfl ?_) | (show O _ _ _ _ (⟨_, .store _ _ _, _, _, _, _⟩ :: _) _ _; refine ao_st rfl rfl rfl rfl rfl rfl rfl rfl rfl rfl rfl ?_) | refine onil ?_) | refine dnil ?_ | ((first | apply ao_k | apply ad_k); (· exact rfl); (· exact rfl); (· exact rfl); (· first | (show Y _ ⟨_, .indexAddr _ _ _, _, _, _, _⟩ _ _ _; first | exact Y.mk (ok_indexE (hd) rfl rfl rfl rfl rfl (by omega))) | (show Y _ ⟨_, .call ⟨.value _, _, _⟩, _, _, _, _⟩ _ _ _; first | exact q_c (ha) rfl) | exact ya)) | refine ogrdN rfl rfl rfl rfl rfl ?_ | refine dgrdN rfl rfl rfl ?_ | ((first | refine wcond rfl rfl (fun hc => ?_) (fun hc => ?_) | refine ogrd rfl rfl rfl rfl rfl (fun hc => ?_) (fun hc => ?_) | refine dgrd rfl rfl rfl (fun hc => ?_) (fun hc => ?_)) <;> (try simp only [KL, cond_true, cond_false, beq_iff_eq, bne_iff_ne, ne_eq, reduceCtorEq] at hc) <;> (try (have hT : True := hc; clear hT hc)) <;> (try (exfalso; omega))) | refine nThen ?_ | refine nIn ?_ | refine eThen ?_ | refine eIn ?_ | refine eInNe rfl ?_ | refine rThen ?_ | refine rIn ?_)
        all_goals first | (exfalso; omega) | exact ⟨k + 1, by omega, by omega, by simp only [hnx, hnx2]; exact les, leh⟩
      · rw [Bool.true_or] at hnx2
        repeat' (first | (show W _ _ _ _ _ _; first | refine wseq ?_ | refine wregion rfl ?_ | refine wcondT rfl rfl ?_ | refine wcondF rfl rfl ?_ | refine wblock ?_ | refine wskip ?_ | refine wexit ?_ | refine wret ?_ | refine wdraw (by kernel_rfl) (by kernel_rfl) ?_) | (show O _ _ _ _ _ _ _; first | (show O _ _ _ _ (⟨_, .alloc _, _, _, _, _⟩ :: _) _ _; first | refine ao_alloc (id := 15) rfl rfl rfl rfl rfl rfl rfl ?_) | (show O _ _ _ _ (⟨_, .store _ _ _, _, _, _, _⟩ :: _) _ _; refine ao_st rfl rfl rfl rfl rfl rfl rfl rfl rfl rfl rfl ?_) | refine onil ?_) | refine dnil ?_ | ((first | apply ao_k | apply ad_k); (· exact rfl); (· exact rfl); (· exact rfl); (· first | (show Y _ ⟨_, .indexAddr _ _ _, _, _, _, _⟩ _ _ _; first | exact Y.mk (ok_indexE (hd) rfl rfl rfl rfl rfl (by omega))) | (show Y _ ⟨_, .call ⟨.value _, _, _⟩, _, _, _, _⟩ _ _ _; first | exact q_c (ha) rfl) | exact ya)) | refine ogrdN rfl rfl rfl rfl rfl ?_ | refine dgrdN rfl rfl rfl ?_ | ((first | refine wcond rfl rfl (fun hc => ?_) (fun hc => ?_) | refine ogrd rfl rfl rfl rfl rfl (fun hc => ?_) (fun hc => ?_) | refine dgrd rfl rfl rfl (fun hc => ?_) (fun hc => ?_)) <;> (try simp only [KL, cond_true, cond_false, beq_iff_eq, bne_iff_ne, ne_eq, reduceCtorEq] at hc) <;> (try (have hT : True := hc; clear hT hc)) <;> (try (exfalso; omega))) | refine nThen ?_ | refine nIn ?_ | refine eThen ?_ | refine eIn ?_ | refine eInNe rfl ?_ | refine rThen ?_ | refine rIn ?_)
        all_goals first | (exfalso; omega) | exact ⟨k + 1, by omega, by omega, by simp only [hnx, hnx2]; exact les, leh⟩
    · have eb : respB i d = false := decide_eq_false hc0
      rw [eb, Bool.or_false] at hnx
      rw [metB, eb, Bool.false_and, Bool.or_false] at hnx2
      repeat' (first | (show W _ _ _ _ _ _; first | refine wseq ?_ | refine wregion rfl ?_ | refine wcondT rfl rfl ?_ | refine wcondF rfl rfl ?_ | refine wblock ?_ | refine wskip ?_ | refine wexit ?_ | refine wret ?_ | refine wdraw (by kernel_rfl) (by kernel_rfl) ?_) | (show O _ _ _ _ _ _ _; first | (show O _ _ _ _ (⟨_, .alloc _, _, _, _, _⟩ :: _) _ _; first | refine ao_alloc (id := 15) rfl rfl rfl rfl rfl rfl rfl ?_) | (show O _ _ _ _ (⟨_, .store _ _ _, _, _, _, _⟩ :: _) _ _; refine ao_st rfl rfl rfl rfl rfl rfl rfl rfl rfl rfl rfl ?_) | refine onil ?_) | refine dnil ?_ | ((first | apply ao_k | apply ad_k); (· exact rfl); (· exact rfl); (· exact rfl); (· first | (show Y _ ⟨_, .indexAddr _ _ _, _, _, _, _⟩ _ _ _; first | exact Y.mk (ok_indexE (hd) rfl rfl rfl rfl rfl (by omega))) | (show Y _ ⟨_, .call ⟨.value _, _, _⟩, _, _, _, _⟩ _ _ _; first | exact q_c (ha) rfl) | exact ya)) | refine ogrdN rfl rfl rfl rfl rfl ?_ | refine dgrdN rfl rfl rfl ?_ | ((first | refine wcond rfl rfl (fun hc => ?_) (fun hc => ?_) | refine ogrd rfl rfl rfl rfl rfl (fun hc => ?_) (fun hc => ?_) | refine dgrd rfl rfl rfl (fun hc => ?_) (fun hc => ?_)) <;> (try simp only [KL, cond_true, cond_false, beq_iff_eq, bne_iff_ne, ne_eq, reduceCtorEq] at hc) <;> (try (have hT : True := hc; clear hT hc)) <;> (try (exfalso; omega))) | refine nThen ?_ | refine nIn ?_ | refine eThen ?_ | refine eIn ?_ | refine eInNe rfl ?_ | refine rThen ?_ | refine rIn ?_)
      all_goals first | (exfalso; omega) | exact ⟨k + 1, by omega, by omega, by simp only [hnx, hnx2]; exact les, leh⟩
  · subst hkl
    rw [List.take_length] at *
    have hmet : js.any (metB i r) = true ∨ (js.any (respB i) = false ∧ r = 0) := by
      rcases q4 with q4 | ⟨j, hj, h1, h2⟩
      · simp only [Prod.mk.injEq] at q4
        exact .inr ⟨by rw [← q3, q4.2], q4.1⟩
      · refine .inl (List.any_eq_true.2 ⟨j, hj, ?_⟩)
        rw [metB, h1, Bool.true_and]; exact decide_eq_true h2
    clear q1 q2 q4 hF
    rw [← q3] at *
    generalize js.any (metB i r) = met at *
    rcases hmet with rfl | ⟨rfl, rfl⟩
    · repeat' (first | (show W _ _ _ _ _ _; first | refine wseq ?_ | refine wregion rfl ?_ | refine wcondT rfl rfl ?_ | refine wcondF rfl rfl ?_ | refine wblock ?_ | refine wskip ?_ | refine wexit ?_ | refine wret ?_ | refine wdraw (by kernel_rfl) (by kernel_rfl) ?_) | (show O _ _ _ _ _ _ _; first | (show O _ _ _ _ (⟨_, .store _ _ _, _, _, _, _⟩ :: _) _ _; refine ao_st rfl rfl rfl rfl rfl rfl rfl rfl rfl rfl rfl ?_) | refine onil ?_) | refine dnil ?_ | ((first | apply ao_k | apply ad_k); (· exact rfl); (· exact rfl); (· exact rfl); (· first | (show Y _ ⟨_, .call ⟨.value _, _, _⟩, _, _, _, _⟩ _ _ _; first | exact q_c (c2) rfl | exact q_c (ha) rfl) | exact ya)) | refine ogrdN rfl rfl rfl rfl rfl ?_ | refine dgrdN rfl rfl rfl ?_ | ((first | refine wcond rfl rfl (fun hc => ?_) (fun hc => ?_) | refine ogrd rfl rfl rfl rfl rfl (fun hc => ?_) (fun hc => ?_) | refine dgrd rfl rfl rfl (fun hc => ?_) (fun hc => ?_)) <;> (try simp only [KL, cond_true, cond_false, beq_iff_eq, bne_iff_ne, ne_eq, reduceCtorEq] at hc) <;> (try (have hT : True := hc; clear hT hc)) <;> (try (exfalso; omega))) | refine nThen ?_ | refine nIn ?_ | refine eThen ?_ | refine eIn ?_ | refine eInNe rfl ?_ | refine rThen ?_ | refine rIn ?_)
      all_goals first | (exfalso; omega) | exact retq rfl rfl | (exfalso; clear ha c1 c2 hb; simp_all; done) | (exfalso; clear ha c1 c2 hb; simp_all; omega)
    · cases met
      · repeat' (first | (show W _ _ _ _ _ _; first | refine wseq ?_ | refine wregion rfl ?_ | refine wcondT rfl rfl ?_ | refine wcondF rfl rfl ?_ | refine wblock ?_ | refine wskip ?_ | refine wexit ?_ | refine wret ?_ | refine wdraw (by kernel_rfl) (by kernel_rfl) ?_) | (show O _ _ _ _ _ _ _; first | (show O _ _ _ _ (⟨_, .store _ _ _, _, _, _, _⟩ :: _) _ _; refine ao_st rfl rfl rfl rfl rfl rfl rfl rfl rfl rfl rfl ?_) | refine onil ?_) | refine dnil ?_ | ((first | apply ao_k | apply ad_k); (· exact rfl); (· exact rfl); (· exact rfl); (· first | (show Y _ ⟨_, .call ⟨.value _, _, _⟩, _, _, _, _⟩ _ _ _; first | exact q_c (c2) rfl | exact q_c (ha) rfl) | exact ya)) | refine ogrdN rfl rfl rfl rfl rfl ?_ | refine dgrdN rfl rfl rfl ?_ | ((first | refine wcond rfl rfl (fun hc => ?_) (fun hc => ?_) | refine ogrd rfl rfl rfl rfl rfl (fun hc => ?_) (fun hc => ?_) | refine dgrd rfl rfl rfl (fun hc => ?_) (fun hc => ?_)) <;> (try simp only [KL, cond_true, cond_false, beq_iff_eq, bne_iff_ne, ne_eq, reduceCtorEq] at hc) <;> (try (have hT : True := hc; clear hT hc)) <;> (try (exfalso; omega))) | refine nThen ?_ | refine nIn ?_ | refine eThen ?_ | refine eIn ?_ | refine eInNe rfl ?_ | refine rThen ?_ | refine rIn ?_)
        all_goals first | (exfalso; omega) | exact retq rfl rfl | (exfalso; clear ha c1 c2 hb; simp_all; done) | (exfalso; clear ha c1 c2 hb; simp_all; omega)
      · repeat' (first | (show W _ _ _ _ _ _; first | refine wseq ?_ | refine wregion rfl ?_ | refine wcondT rfl rfl ?_ | refine wcondF rfl rfl ?_ | refine wblock ?_ | refine wskip ?_ | refine wexit ?_ | refine wret ?_ | refine wdraw (by kernel_rfl) (by kernel_rfl) ?_) | (show O _ _ _ _ _ _ _; first | (show O _ _ _ _ (⟨_, .store _ _ _, _, _, _, _⟩ :: _) _ _; refine ao_st rfl rfl rfl rfl rfl rfl rfl rfl rfl rfl rfl ?_) | refine onil ?_) | refine dnil ?_ | ((first | apply ao_k | apply ad_k); (· exact rfl); (· exact rfl); (· exact rfl); (· first | (show Y _ ⟨_, .call ⟨.value _, _, _⟩, _, _, _, _⟩ _ _ _; first | exact q_c (c2) rfl | exact q_c (ha) rfl) | exact ya)) | refine ogrdN rfl rfl rfl rfl rfl ?_ | refine dgrdN rfl rfl rfl ?_ | ((first | refine wcond rfl rfl (fun hc => ?_) (fun hc => ?_) | refine ogrd rfl rfl rfl rfl rfl (fun hc => ?_) (fun hc => ?_) | refine dgrd rfl rfl rfl (fun hc => ?_) (fun hc => ?_)) <;> (try simp only [KL, cond_true, cond_false, beq_iff_eq, bne_iff_ne, ne_eq, reduceCtorEq] at hc) <;> (try (have hT : True := hc; clear hT hc)) <;> (try (exfalso; omega))) | refine nThen ?_ | refine nIn ?_ | refine eThen ?_ | refine eIn ?_ | refine eInNe rfl ?_ | refine rThen ?_ | refine rIn ?_)
        all_goals first | (exfalso; omega) | exact retq rfl rfl | (exfalso; clear ha c1 c2 hb; simp_all; done) | (exfalso; clear ha c1 c2 hb; simp_all; omega)
end Go.Proofs.Ytfjoaeghnfkdlaa
