/- What is wrong of a system: system.Check and the document's answer. No condition. -/
import Derived.Test.YtkkmageogkkchaaGreatUAX
import Derived.Test.YtkkmageogkkchaaGreatUALr
import Derived.Test.YtkkmageogkkchaaGreatUAEnSpot
set_option linter.unusedSimpArgs false
set_option linter.unusedVariables false
set_option maxHeartbeats 1000000
namespace Go.Proofs.YtkkmageogkkchaaGreat
set_option maxRecDepth 100000
set_option maxRecDepth 100000
open Go.RowKit
def sysF (S : System) : Int × Int × Int × Int :=
  if S.tasks.length = 0 ∨ 8 < S.tasks.length ∨ 8 < S.objects.length then (-1, -1, -1, 1)
  else if (tasksF 0 S.tasks).2.2 ≠ 0 then ((tasksF 0 S.tasks).1, -1, (tasksF 0 S.tasks).2.1, (tasksF 0 S.tasks).2.2)
  else if (objF S).2.2 ≠ 0 then ((objF S).1, (objF S).2.1, -1, (objF S).2.2)
  else if (codeF S 0 S.tasks).2.2.2 ≠ 0 then codeF S 0 S.tasks
  else (-1, -1, -1, layE S)
def spotC (a : Int × Int × Int × Int) : List AV := [.int .i64 a.1, .int .i64 a.2.1, .int .i64 a.2.2.1]
theorem objR_all : ∀ (k : Nat) (l : List Object), (objR k l).2.2 = 0 → ∀ o ∈ l, rightA o = true
  | _, [], _ => fun o ho => by cases ho
  | k, o :: l, h => by
    rw [objR] at h
    by_cases hr : rightA o = true
    · rw [if_pos hr] at h
      intro x hx
      rcases List.mem_cons.1 hx with rfl | hx
      · exact hr
      · exact objR_all _ l h x hx
    · rw [if_neg hr] at h; simp at h
theorem objF_all {S : System} (h : (objF S).2.2 = 0) : ∀ o ∈ S.objects, rightA o = true := by
  rw [objF] at h
  by_cases h1 : (objR 0 S.objects).2.2 = 0
  · exact objR_all 0 _ h1
  · rw [if_neg h1] at h; exact absurd h h1
theorem objF_w {S : System} (h : (objF S).2.2 = 0) (k : Nat) : 0 ≤ (S.objects.getD k default).width ∧ (S.objects.getD k default).width ≤ 1000000 := by
  by_cases hk : k < S.objects.length
  · have h1 := objF_all h _ (getD_mem hk)
    rw [rightA, Bool.and_eq_true] at h1
    have h2 := szP (of_decide_eq_true h1.1)
    omega
  · rw [List.getD_eq_getElem?_getD, List.getElem?_eq_none (by omega)]; decide
theorem check32_fn (S : System) (h : OkS S) : Fn Tryz.prog 85 [.agg (eSystem S)] (.tup [.agg (spotC (sysF S)), .int .i64 (sysF S).2.2.2]) := by
  have h1 := h.tl
  have h2 := h.ol
  have c1 := tasks32_fn S h
  have c2 := objects32_fn S h
  have c3 := fun hw => code32_fn S h hw
  have c4 := of31_fn S h
  have hw := fun e => objF_w (S := S) e
  have hsy : sysF S = if S.tasks.length = 0 ∨ 8 < S.tasks.length ∨ 8 < S.objects.length then (-1, -1, -1, 1)
    else if (tasksF 0 S.tasks).2.2 ≠ 0 then ((tasksF 0 S.tasks).1, -1, (tasksF 0 S.tasks).2.1, (tasksF 0 S.tasks).2.2)
    else if (objF S).2.2 ≠ 0 then ((objF S).1, (objF S).2.1, -1, (objF S).2.2)
    else if (codeF S 0 S.tasks).2.2.2 ≠ 0 then codeF S 0 S.tasks
    else (-1, -1, -1, layE S) := rfl
  rw [hsy]
  clear hsy
  refine fnb Tryz.func85 (entered_of (by kernel_rfl)) rfl rfl rfl ?_
  generalize tasksF 0 S.tasks = a at *
  generalize objF S = b at *
  by_cases h0 : S.tasks.length = 0 ∨ 8 < S.tasks.length ∨ 8 < S.objects.length
  · rw [if_pos h0]
    repeat' (first | refine sA ?_ | (show O _ _ _ _ _ _ _; first | refine ao_alloc (id := 10) rfl rfl rfl rfl rfl rfl rfl ?_) | ((first | apply kM | apply kN); (iterate 3 (· exact rfl)); (· first | exact ya | exact q_c (nowhere_fn) rfl)) | refine sG ?_ | (refine sK ?_ ?_ <;> intro hc <;> (try simp only [KL, sL, reduceCtorEq] at hc) <;> (try (exfalso; omega))))
    all_goals first | (exfalso; omega) | exact retq rfl rfl
  rw [if_neg h0]
  by_cases ha : a.2.2 = 0
  case neg =>
    rw [if_pos ha]
    repeat' (first | refine sA ?_ | (show O _ _ _ _ _ _ _; first | refine ao_alloc (id := 10) rfl rfl rfl rfl rfl rfl rfl ?_ | refine ao_alloc (id := 11) rfl rfl rfl rfl rfl rfl rfl ?_) | ((first | apply kM | apply kN); (iterate 3 (· exact rfl)); (· first | exact ya | exact q_c (nowhere_fn) rfl | exact q_c (c1) rfl)) | refine sG ?_ | (refine sK ?_ ?_ <;> intro hc <;> (try simp only [KL, sL, reduceCtorEq] at hc) <;> (try (exfalso; omega))))
    all_goals first | (exfalso; omega) | exact retq rfl rfl
  rw [if_neg (by simpa using ha)]
  rw [ha] at c1
  by_cases hb : b.2.2 = 0
  case neg =>
    rw [if_pos hb]
    repeat' (first | refine sA ?_ | (show O _ _ _ _ _ _ _; first | refine ao_alloc (id := 10) rfl rfl rfl rfl rfl rfl rfl ?_ | refine ao_alloc (id := 11) rfl rfl rfl rfl rfl rfl rfl ?_ | refine ao_alloc (id := 12) rfl rfl rfl rfl rfl rfl rfl ?_) | ((first | apply kM | apply kN); (iterate 3 (· exact rfl)); (· first | exact ya | exact q_c (nowhere_fn) rfl | exact q_c (c1) rfl | exact q_c (c2) rfl)) | refine sG ?_ | (refine sK ?_ ?_ <;> intro hc <;> (try simp only [KL, sL, reduceCtorEq] at hc) <;> (try (exfalso; omega))))
    all_goals first | (exfalso; omega) | exact retq rfl rfl
  rw [if_neg (by simpa using hb)]
  rw [hb] at c2
  have c3 := c3 (hw hb)
  generalize codeF S 0 S.tasks = c at *
  by_cases hcc : c.2.2.2 = 0
  case neg =>
    rw [if_pos hcc]
    repeat' (first | refine sA ?_ | (show O _ _ _ _ _ _ _; first | refine ao_alloc (id := 10) rfl rfl rfl rfl rfl rfl rfl ?_ | refine ao_alloc (id := 11) rfl rfl rfl rfl rfl rfl rfl ?_ | refine ao_alloc (id := 12) rfl rfl rfl rfl rfl rfl rfl ?_ | refine ao_alloc (id := 13) rfl rfl rfl rfl rfl rfl rfl ?_) | ((first | apply kM | apply kN); (iterate 3 (· exact rfl)); (· first | exact ya | exact q_c (nowhere_fn) rfl | exact q_c (c1) rfl | exact q_c (c2) rfl | exact q_c (c3) rfl)) | refine sG ?_ | (refine sK ?_ ?_ <;> intro hc <;> (try simp only [KL, sL, reduceCtorEq] at hc) <;> (try (exfalso; omega))))
    all_goals first | (exfalso; omega) | exact retq rfl rfl
  rw [if_neg (by simpa using hcc)]
  rw [hcc] at c3
  have hL : layC S = [.lst 2 (((layO S).take S.tasks.length).map eRg), .lst 2 (((layO S).drop S.tasks.length).map eRg), .int .i64 (sumL (lensL S))] ∨ layC S = [.nils, .nils, .int .i64 0] := by
    rw [layC]; split
    · exact .inl rfl
    · exact .inr rfl
  generalize layE S = d at *
  rcases hL with e | e
  all_goals
    rw [e] at c4
    repeat' (first | refine sA ?_ | (show O _ _ _ _ _ _ _; first | refine ao_alloc (id := 10) rfl rfl rfl rfl rfl rfl rfl ?_ | refine ao_alloc (id := 11) rfl rfl rfl rfl rfl rfl rfl ?_ | refine ao_alloc (id := 12) rfl rfl rfl rfl rfl rfl rfl ?_ | refine ao_alloc (id := 13) rfl rfl rfl rfl rfl rfl rfl ?_ | refine ao_alloc (id := 14) rfl rfl rfl rfl rfl rfl rfl ?_) | ((first | apply kM | apply kN); (iterate 3 (· exact rfl)); (· first | exact ya | exact q_c (nowhere_fn) rfl | exact q_c (c1) rfl | exact q_c (c2) rfl | exact q_c (c3) rfl | exact q_c (c4) rfl)) | refine sG ?_ | (refine sK ?_ ?_ <;> intro hc <;> (try simp only [KL, sL, reduceCtorEq] at hc) <;> (try (exfalso; omega))))
    all_goals first | (exfalso; omega) | exact retq rfl rfl
end Go.Proofs.YtkkmageogkkchaaGreat
