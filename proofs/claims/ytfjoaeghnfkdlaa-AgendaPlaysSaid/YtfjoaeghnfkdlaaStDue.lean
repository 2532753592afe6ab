/- slices.SortStableFunc, with a closure: stable and the function itself. Printed by gensort.py. No condition. -/
import Derived.Test.YtfjoaeghnfkdlaaSsDue
namespace Go.Proofs.Ytfjoaeghnfkdlaa
set_option linter.unusedSimpArgs false
set_option linter.unusedVariables false
set_option maxRecDepth 100000
set_option linter.unusedSimpArgs false
set_option linter.unusedVariables false
set_option maxRecDepth 100000
open Go.RowKit
set_option maxHeartbeats 8000000 in
theorem stb_Due (fc : FuncId) (c : Due → Due → Int) (p : Due → Prop) (hs : SWO (ltcDue c)) (hF : ∀ x y, p x → p y → Fn Try.prog fc ([(fun x : Due => AV.agg (eDue x)) x, (fun x : Due => AV.agg (eDue x)) y] ++ []) (.int .i64 (c x y))) (xx : List Due) (hp : ∀ x ∈ xx, p x) (n : Int) (hn : n = xx.length) (hl : xx.length ≤ 500000000) :
    FnH Try.prog 91 [.own 4, .int .i64 n, .fn (.func fc) [] []] [(4, .row 41 2 (xx.map eDue))]
    (fun r h' => r = .tup [] ∧ ∃ xx', StS (ltcDue c) xx xx' ∧ h' = [(4, .row 41 2 (xx'.map eDue))]) := by
  refine fnhb Try.func91 (entered_of (by kernel_rfl)) rfl rfl ?_
  subst hn
  repeat' (first | (show W _ _ _ _ _ _; first | apply kA | refine kB rfl ?_ | refine kC rfl rfl ?_ | refine kD rfl rfl ?_ | apply kE | apply kF | apply kG | apply kH | refine kI (by kernel_rfl) (by kernel_rfl) ?_) | (show O _ _ _ _ _ _ _; first | (show O _ _ _ _ (⟨_, .store _ _ _, _, _, _, _⟩ :: _) _ _; refine kJ rfl rfl rfl rfl rfl rfl rfl rfl rfl rfl rfl ?_) | apply kK) | apply kL | ((first | apply kM | apply kN); (iterate 3 (· exact rfl)); (· first | exact ya)) | refine kO rfl rfl rfl rfl rfl ?_ | refine kP rfl rfl rfl ?_ | ((first | refine kQ rfl rfl ?_ ?_ | refine kR rfl rfl rfl rfl rfl ?_ ?_ | refine kS rfl rfl rfl ?_ ?_) <;> intro hc <;> (try simp only [KL, cond_true, cond_false, beq_iff_eq, bne_iff_ne, ne_eq, reduceCtorEq] at hc) <;> (try (have hT : True := hc; clear hT hc)) <;> (try (exfalso; omega))) | apply kT | apply kU | apply kV | apply kW | refine kX rfl ?_ | apply kY | apply kZ)
  refine wloop (fun z : List (List Due) × List Due × List Due => ([(0, .own 4), (1, .int .i64 xx.length), (2, .fn (.func fc) [] []), (6, .int .i64 20), (7, .int .i64 z.2.1.length), (8, .int .i64 (z.2.1.length + 20))], [(4, .row 41 2 ((z.2.1 ++ z.2.2).map eDue))]))
    (fun z => Rch (ltcDue c) xx (z.2.1 ++ z.2.2) ∧ z.2.1 = z.1.flatten ∧ ∀ x ∈ z.1, x.length = 20 ∧ Srt (ltcDue c) x) (fun z => z.2.2.length) ([], [], xx)
    ⟨.refl, rfl, fun x hx => by cases hx⟩ les leh (fun z hz => ?_)
  obtain ⟨cs, dd, ee⟩ := z
  obtain ⟨k1, k2, k3⟩ := hz
  simp only at k1 k2 k3 ⊢
  have k4 : dd.length + ee.length = xx.length := by have := k1.len; rwa [List.length_append] at this
  have hpe : ∀ x ∈ ee, p x := fun x hx => hp x (k1.mem.1 (List.mem_append_right _ hx))
  rcases Nat.lt_or_ge ee.length 20 with h20 | h20
  · rw [show dd ++ ee = dd ++ ee ++ [] by simp]
    repeat' (first | (show W _ _ _ _ _ _; first | apply kA | refine kB rfl ?_ | refine kC rfl rfl ?_ | refine kD rfl rfl ?_ | apply kE | apply kF | apply kG | apply kH | refine kI (by kernel_rfl) (by kernel_rfl) ?_) | (show O _ _ _ _ _ _ _; first | (show O _ _ _ _ (⟨_, .store _ _ _, _, _, _, _⟩ :: _) _ _; refine kJ rfl rfl rfl rfl rfl rfl rfl rfl rfl rfl rfl ?_) | apply kK) | apply kL | ((first | apply kM | apply kN); (iterate 3 (· exact rfl)); (· first | exact ya)) | refine kO rfl rfl rfl rfl rfl ?_ | refine kP rfl rfl rfl ?_ | ((first | refine kQ rfl rfl ?_ ?_ | refine kR rfl rfl rfl rfl rfl ?_ ?_ | refine kS rfl rfl rfl ?_ ?_) <;> intro hc <;> (try simp only [KL, cond_true, cond_false, beq_iff_eq, bne_iff_ne, ne_eq, reduceCtorEq] at hc) <;> (try (have hT : True := hc; clear hT hc)) <;> (try (exfalso; omega))) | apply kT | apply kU | apply kV | apply kW | refine kX rfl ?_ | apply kY | apply kZ)
    all_goals first | (exfalso; omega) | skip
    refine zcall (fun i => i) (ins_Due fc  c p hs hF dd ee [] hpe _ _ (by omega) (by omega) (by simp only [List.length_nil]; omega)) rfl rfl leh rfl rfl rfl rfl rfl rfl (fun r h' hR => ?_)
    obtain ⟨rfl, e', he', rfl⟩ := hR
    refine ⟨rfl, rfl, ?_⟩
    have l1 := he'.1.len
    repeat' (first | (show W _ _ _ _ _ _; first | apply kA | refine kB rfl ?_ | refine kC rfl rfl ?_ | refine kD rfl rfl ?_ | apply kE | apply kF | apply kG | apply kH | refine kI (by kernel_rfl) (by kernel_rfl) ?_) | (show O _ _ _ _ _ _ _; first | (show O _ _ _ _ (⟨_, .store _ _ _, _, _, _, _⟩ :: _) _ _; refine kJ rfl rfl rfl rfl rfl rfl rfl rfl rfl rfl rfl ?_) | apply kK) | apply kL | ((first | apply kM | apply kN); (iterate 3 (· exact rfl)); (· first | exact ya)) | refine kO rfl rfl rfl rfl rfl ?_ | refine kP rfl rfl rfl ?_ | ((first | refine kQ rfl rfl ?_ ?_ | refine kR rfl rfl rfl rfl rfl ?_ ?_ | refine kS rfl rfl rfl ?_ ?_) <;> intro hc <;> (try simp only [KL, cond_true, cond_false, beq_iff_eq, bne_iff_ne, ne_eq, reduceCtorEq] at hc) <;> (try (have hT : True := hc; clear hT hc)) <;> (try (exfalso; omega))) | apply kT | apply kU | apply kV | apply kW | refine kX rfl ?_ | apply kY | apply kZ)
    refine wloop (fun z : Nat × List (List Due) × List Due × List Due => ([(0, .own 4), (1, .int .i64 xx.length), (2, .fn (.func fc) [] []), (6, .int .i64 z.1)], [(4, .row 41 2 (z.2.2.1.map eDue))]))
      (fun z => 0 < z.1 ∧ z.1 ≤ 40 + 2 * xx.length ∧ Rch (ltcDue c) xx z.2.2.1 ∧ BS (ltcDue c) z.1 z.2.2.1 z.2.1 z.2.2.2) (fun z => xx.length - z.1) (20, cs, dd ++ e', e')
      ⟨by simp only; omega, by simp only; omega, k1.trans ((Rch.refl (lt := ltcDue c) (l := dd)).app he'.1), ⟨by rw [← k2], k3, by simp only; omega, he'.2⟩⟩ les (by dsimp only; rw [List.append_nil]; exact leh) (fun z hz => ?_)
    obtain ⟨k, cs, bb, e'⟩ := z
    obtain ⟨m1, m2, m3, m4⟩ := hz
    simp only at m1 m2 m3 m4 ⊢
    have m5 : bb.length = xx.length := m3.len
    clear k1 k2 k3 k4 hpe he' l1 h20
    rcases Nat.lt_or_ge k xx.length with hk | hk
    · repeat' (first | (show W _ _ _ _ _ _; first | apply kA | refine kB rfl ?_ | refine kC rfl rfl ?_ | refine kD rfl rfl ?_ | apply kE | apply kF | apply kG | apply kH | refine kI (by kernel_rfl) (by kernel_rfl) ?_) | (show O _ _ _ _ _ _ _; first | (show O _ _ _ _ (⟨_, .store _ _ _, _, _, _, _⟩ :: _) _ _; refine kJ rfl rfl rfl rfl rfl rfl rfl rfl rfl rfl rfl ?_) | apply kK) | apply kL | ((first | apply kM | apply kN); (iterate 3 (· exact rfl)); (· first | exact ya)) | refine kO rfl rfl rfl rfl rfl ?_ | refine kP rfl rfl rfl ?_ | ((first | refine kQ rfl rfl ?_ ?_ | refine kR rfl rfl rfl rfl rfl ?_ ?_ | refine kS rfl rfl rfl ?_ ?_) <;> intro hc <;> (try simp only [KL, cond_true, cond_false, beq_iff_eq, bne_iff_ne, ne_eq, reduceCtorEq] at hc) <;> (try (have hT : True := hc; clear hT hc)) <;> (try (exfalso; omega))) | apply kT | apply kU | apply kV | apply kW | refine kX rfl ?_ | apply kY | apply kZ)
      all_goals first | (exfalso; omega) | skip
      refine wloop (fun z : List (List Due) × List (List Due) × List Due × List Due × List Due => ([(0, .own 4), (1, .int .i64 xx.length), (2, .fn (.func fc) [] []), (6, .int .i64 k), (7, .int .i64 z.2.2.1.length), (8, .int .i64 (z.2.2.1.length + 2 * k))], [(4, .row 41 2 ((z.2.2.1 ++ z.2.2.2.1).map eDue))]))
        (fun z => Rch (ltcDue c) xx (z.2.2.1 ++ z.2.2.2.1) ∧ z.2.2.1 = z.1.flatten ∧ (∀ x ∈ z.1, x.length = 2 * k ∧ Srt (ltcDue c) x) ∧ BS (ltcDue c) k z.2.2.2.1 z.2.1 z.2.2.2.2) (fun z => z.2.2.2.1.length) ([], cs, [], bb, e')
        ⟨m3, rfl, fun x hx => (by cases hx), m4⟩ les leh (fun z hz => ?_)
      obtain ⟨cs2, cs, dd, bb, e'⟩ := z
      obtain ⟨n1, n2, n3, n4⟩ := hz
      simp only at n1 n2 n3 n4 ⊢
      clear m3 m4 m5
      have n5 : dd.length + bb.length = xx.length := by have := n1.len; rwa [List.length_append] at this
      have hpb : ∀ x ∈ bb, p x := fun x hx => hp x (n1.mem.1 (List.mem_append_right _ hx))
      rcases Nat.lt_or_ge bb.length (2 * k) with h2k | h2k
      · rcases n4.last m1 h2k with ⟨o1, o2⟩ | ⟨o1, c1, c2, rfl, o2, o3, o4⟩
        · repeat' (first | (show W _ _ _ _ _ _; first | apply kA | refine kB rfl ?_ | refine kC rfl rfl ?_ | refine kD rfl rfl ?_ | apply kE | apply kF | apply kG | apply kH | refine kI (by kernel_rfl) (by kernel_rfl) ?_) | (show O _ _ _ _ _ _ _; first | (show O _ _ _ _ (⟨_, .store _ _ _, _, _, _, _⟩ :: _) _ _; refine kJ rfl rfl rfl rfl rfl rfl rfl rfl rfl rfl rfl ?_) | apply kK) | apply kL | ((first | apply kM | apply kN); (iterate 3 (· exact rfl)); (· first | exact ya)) | refine kO rfl rfl rfl rfl rfl ?_ | refine kP rfl rfl rfl ?_ | ((first | refine kQ rfl rfl ?_ ?_ | refine kR rfl rfl rfl rfl rfl ?_ ?_ | refine kS rfl rfl rfl ?_ ?_) <;> intro hc <;> (try simp only [KL, cond_true, cond_false, beq_iff_eq, bne_iff_ne, ne_eq, reduceCtorEq] at hc) <;> (try (have hT : True := hc; clear hT hc)) <;> (try (exfalso; omega))) | apply kT | apply kU | apply kV | apply kW | refine kX rfl ?_ | apply kY | apply kZ)
          all_goals first | (exfalso; omega) | skip
          exact ⟨(k * 2, cs2, dd ++ bb, bb), ⟨by simp only; omega, by simp only; omega, n1, ⟨by rw [n2], fun x hx => by have := n3 x hx; exact ⟨by simp only; omega, this.2⟩, by simp only; omega, o2⟩⟩, by simp only; omega, les, leh⟩
        · rw [List.length_append] at h2k n5 o1
          rw [show dd ++ (c1 ++ c2) = dd ++ c1 ++ c2 ++ [] by simp]
          repeat' (first | (show W _ _ _ _ _ _; first | apply kA | refine kB rfl ?_ | refine kC rfl rfl ?_ | refine kD rfl rfl ?_ | apply kE | apply kF | apply kG | apply kH | refine kI (by kernel_rfl) (by kernel_rfl) ?_) | (show O _ _ _ _ _ _ _; first | (show O _ _ _ _ (⟨_, .store _ _ _, _, _, _, _⟩ :: _) _ _; refine kJ rfl rfl rfl rfl rfl rfl rfl rfl rfl rfl rfl ?_) | apply kK) | apply kL | ((first | apply kM | apply kN); (iterate 3 (· exact rfl)); (· first | exact ya)) | refine kO rfl rfl rfl rfl rfl ?_ | refine kP rfl rfl rfl ?_ | ((first | refine kQ rfl rfl ?_ ?_ | refine kR rfl rfl rfl rfl rfl ?_ ?_ | refine kS rfl rfl rfl ?_ ?_) <;> intro hc <;> (try simp only [KL, cond_true, cond_false, beq_iff_eq, bne_iff_ne, ne_eq, reduceCtorEq] at hc) <;> (try (have hT : True := hc; clear hT hc)) <;> (try (exfalso; omega))) | apply kT | apply kU | apply kV | apply kW | refine kX rfl ?_ | apply kY | apply kZ)
          all_goals first | (exfalso; omega) | skip
          refine zcall (fun i => i) (sm_Due fc  c p hs hF _ dd c1 c2 [] (Nat.le_refl _) (fun x hx => hpb x (List.mem_append_left _ hx)) (fun x hx => hpb x (List.mem_append_right _ hx)) o3 o4 (by omega) (by omega) _ _ _ (by omega) (by omega) (by omega) (by simp only [List.length_nil]; omega)) rfl rfl leh rfl rfl rfl rfl rfl rfl (fun r h' hR => ?_)
          obtain ⟨rfl, mm, hmm, rfl⟩ := hR
          refine ⟨rfl, rfl, ?_⟩
          have l1 := hmm.1.len
          rw [List.length_append] at l1
          repeat' (first | (show W _ _ _ _ _ _; first | apply kA | refine kB rfl ?_ | refine kC rfl rfl ?_ | refine kD rfl rfl ?_ | apply kE | apply kF | apply kG | apply kH | refine kI (by kernel_rfl) (by kernel_rfl) ?_) | (show O _ _ _ _ _ _ _; first | (show O _ _ _ _ (⟨_, .store _ _ _, _, _, _, _⟩ :: _) _ _; refine kJ rfl rfl rfl rfl rfl rfl rfl rfl rfl rfl rfl ?_) | apply kK) | apply kL | ((first | apply kM | apply kN); (iterate 3 (· exact rfl)); (· first | exact ya)) | refine kO rfl rfl rfl rfl rfl ?_ | refine kP rfl rfl rfl ?_ | ((first | refine kQ rfl rfl ?_ ?_ | refine kR rfl rfl rfl rfl rfl ?_ ?_ | refine kS rfl rfl rfl ?_ ?_) <;> intro hc <;> (try simp only [KL, cond_true, cond_false, beq_iff_eq, bne_iff_ne, ne_eq, reduceCtorEq] at hc) <;> (try (have hT : True := hc; clear hT hc)) <;> (try (exfalso; omega))) | apply kT | apply kU | apply kV | apply kW | refine kX rfl ?_ | apply kY | apply kZ)
          all_goals first | (exfalso; omega) | skip
          exact ⟨(k * 2, cs2, dd ++ mm, mm), ⟨by simp only; omega, by simp only; omega, n1.trans ((Rch.refl (lt := ltcDue c) (l := dd)).app hmm.1), ⟨by rw [n2], fun x hx => by have := n3 x hx; exact ⟨by simp only; omega, this.2⟩, by simp only; omega, hmm.2⟩⟩, by simp only; omega, les, by dsimp only; rw [List.append_nil]; exact leh⟩
      · obtain ⟨c1, c2, b', cs', c', rfl, o1, o2, o3, o4, o5⟩ := n4.two m1 h2k
        rw [List.length_append, List.length_append] at h2k n5
        rw [show dd ++ (c1 ++ c2 ++ b') = dd ++ c1 ++ c2 ++ b' by simp]
        repeat' (first | (show W _ _ _ _ _ _; first | apply kA | refine kB rfl ?_ | refine kC rfl rfl ?_ | refine kD rfl rfl ?_ | apply kE | apply kF | apply kG | apply kH | refine kI (by kernel_rfl) (by kernel_rfl) ?_) | (show O _ _ _ _ _ _ _; first | (show O _ _ _ _ (⟨_, .store _ _ _, _, _, _, _⟩ :: _) _ _; refine kJ rfl rfl rfl rfl rfl rfl rfl rfl rfl rfl rfl ?_) | apply kK) | apply kL | ((first | apply kM | apply kN); (iterate 3 (· exact rfl)); (· first | exact ya)) | refine kO rfl rfl rfl rfl rfl ?_ | refine kP rfl rfl rfl ?_ | ((first | refine kQ rfl rfl ?_ ?_ | refine kR rfl rfl rfl rfl rfl ?_ ?_ | refine kS rfl rfl rfl ?_ ?_) <;> intro hc <;> (try simp only [KL, cond_true, cond_false, beq_iff_eq, bne_iff_ne, ne_eq, reduceCtorEq] at hc) <;> (try (have hT : True := hc; clear hT hc)) <;> (try (exfalso; omega))) | apply kT | apply kU | apply kV | apply kW | refine kX rfl ?_ | apply kY | apply kZ)
        all_goals first | (exfalso; omega) | skip
        refine zcall (fun i => i) (sm_Due fc  c p hs hF _ dd c1 c2 b' (Nat.le_refl _) (fun x hx => hpb x (List.mem_append_left _ (List.mem_append_left _ hx))) (fun x hx => hpb x (List.mem_append_left _ (List.mem_append_right _ hx))) o3 o4 (by omega) (by omega) _ _ _ (by omega) (by omega) (by omega) (by omega)) rfl rfl leh rfl rfl rfl rfl rfl rfl (fun r h' hR => ?_)
        obtain ⟨rfl, mm, hmm, rfl⟩ := hR
        refine ⟨rfl, rfl, ?_⟩
        have l1 := hmm.1.len
        rw [List.length_append] at l1
        repeat' (first | (show W _ _ _ _ _ _; first | apply kA | refine kB rfl ?_ | refine kC rfl rfl ?_ | refine kD rfl rfl ?_ | apply kE | apply kF | apply kG | apply kH | refine kI (by kernel_rfl) (by kernel_rfl) ?_) | (show O _ _ _ _ _ _ _; first | (show O _ _ _ _ (⟨_, .store _ _ _, _, _, _, _⟩ :: _) _ _; refine kJ rfl rfl rfl rfl rfl rfl rfl rfl rfl rfl rfl ?_) | apply kK) | apply kL | ((first | apply kM | apply kN); (iterate 3 (· exact rfl)); (· first | exact ya)) | refine kO rfl rfl rfl rfl rfl ?_ | refine kP rfl rfl rfl ?_ | ((first | refine kQ rfl rfl ?_ ?_ | refine kR rfl rfl rfl rfl rfl ?_ ?_ | refine kS rfl rfl rfl ?_ ?_) <;> intro hc <;> (try simp only [KL, cond_true, cond_false, beq_iff_eq, bne_iff_ne, ne_eq, reduceCtorEq] at hc) <;> (try (have hT : True := hc; clear hT hc)) <;> (try (exfalso; omega))) | apply kT | apply kU | apply kV | apply kW | refine kX rfl ?_ | apply kY | apply kZ)
        all_goals first | (exfalso; omega) | skip
        have hb := BS.snoc (lt := ltcDue c) (A := dd) (c := mm) n2 n3 (by omega) hmm.2
        exact ⟨(cs2 ++ [mm], cs', dd ++ mm, b', c'), ⟨by
          have := n1.trans (((Rch.refl (lt := ltcDue c) (l := dd)).app hmm.1).app (Rch.refl (lt := ltcDue c) (l := b')) |> fun h => by simpa using h)
          simpa using this, hb.1, hb.2, o5⟩, by simp only [List.length_append]; omega, les, leh⟩
    · have m6 := m4.whole m1 (by omega)
      repeat' (first | (show W _ _ _ _ _ _; first | apply kA | refine kB rfl ?_ | refine kC rfl rfl ?_ | refine kD rfl rfl ?_ | apply kE | apply kF | apply kG | apply kH | refine kI (by kernel_rfl) (by kernel_rfl) ?_) | (show O _ _ _ _ _ _ _; first | (show O _ _ _ _ (⟨_, .store _ _ _, _, _, _, _⟩ :: _) _ _; refine kJ rfl rfl rfl rfl rfl rfl rfl rfl rfl rfl rfl ?_) | apply kK) | apply kL | ((first | apply kM | apply kN); (iterate 3 (· exact rfl)); (· first | exact ya)) | refine kO rfl rfl rfl rfl rfl ?_ | refine kP rfl rfl rfl ?_ | ((first | refine kQ rfl rfl ?_ ?_ | refine kR rfl rfl rfl rfl rfl ?_ ?_ | refine kS rfl rfl rfl ?_ ?_) <;> intro hc <;> (try simp only [KL, cond_true, cond_false, beq_iff_eq, bne_iff_ne, ne_eq, reduceCtorEq] at hc) <;> (try (have hT : True := hc; clear hT hc)) <;> (try (exfalso; omega))) | apply kT | apply kU | apply kV | apply kW | refine kX rfl ?_ | apply kY | apply kZ)
      all_goals first | (exfalso; omega) | skip
      first | exact retn rfl ⟨rfl, bb, ⟨m3, m6⟩, rfl⟩ | exact retq rfl ⟨rfl, bb, ⟨m3, m6⟩, rfl⟩
  · obtain ⟨e1, e2, rfl, he1⟩ : ∃ e1 e2, ee = e1 ++ e2 ∧ e1.length = 20 := ⟨ee.take 20, ee.drop 20, (tdl _ _).symm, by rw [List.length_take]; omega⟩
    rw [List.length_append] at k4
    rw [show dd ++ (e1 ++ e2) = dd ++ e1 ++ e2 by simp]
    repeat' (first | (show W _ _ _ _ _ _; first | apply kA | refine kB rfl ?_ | refine kC rfl rfl ?_ | refine kD rfl rfl ?_ | apply kE | apply kF | apply kG | apply kH | refine kI (by kernel_rfl) (by kernel_rfl) ?_) | (show O _ _ _ _ _ _ _; first | (show O _ _ _ _ (⟨_, .store _ _ _, _, _, _, _⟩ :: _) _ _; refine kJ rfl rfl rfl rfl rfl rfl rfl rfl rfl rfl rfl ?_) | apply kK) | apply kL | ((first | apply kM | apply kN); (iterate 3 (· exact rfl)); (· first | exact ya)) | refine kO rfl rfl rfl rfl rfl ?_ | refine kP rfl rfl rfl ?_ | ((first | refine kQ rfl rfl ?_ ?_ | refine kR rfl rfl rfl rfl rfl ?_ ?_ | refine kS rfl rfl rfl ?_ ?_) <;> intro hc <;> (try simp only [KL, cond_true, cond_false, beq_iff_eq, bne_iff_ne, ne_eq, reduceCtorEq] at hc) <;> (try (have hT : True := hc; clear hT hc)) <;> (try (exfalso; omega))) | apply kT | apply kU | apply kV | apply kW | refine kX rfl ?_ | apply kY | apply kZ)
    all_goals first | (exfalso; omega) | skip
    refine zcall (fun i => i) (ins_Due fc  c p hs hF dd e1 e2 (fun x hx => hpe x (List.mem_append_left _ hx)) _ _ (by omega) (by omega) (by omega)) rfl rfl leh rfl rfl rfl rfl rfl rfl (fun r h' hR => ?_)
    obtain ⟨rfl, mm, hmm, rfl⟩ := hR
    refine ⟨rfl, rfl, ?_⟩
    have l1 := hmm.1.len
    repeat' (first | (show W _ _ _ _ _ _; first | apply kA | refine kB rfl ?_ | refine kC rfl rfl ?_ | refine kD rfl rfl ?_ | apply kE | apply kF | apply kG | apply kH | refine kI (by kernel_rfl) (by kernel_rfl) ?_) | (show O _ _ _ _ _ _ _; first | (show O _ _ _ _ (⟨_, .store _ _ _, _, _, _, _⟩ :: _) _ _; refine kJ rfl rfl rfl rfl rfl rfl rfl rfl rfl rfl rfl ?_) | apply kK) | apply kL | ((first | apply kM | apply kN); (iterate 3 (· exact rfl)); (· first | exact ya)) | refine kO rfl rfl rfl rfl rfl ?_ | refine kP rfl rfl rfl ?_ | ((first | refine kQ rfl rfl ?_ ?_ | refine kR rfl rfl rfl rfl rfl ?_ ?_ | refine kS rfl rfl rfl ?_ ?_) <;> intro hc <;> (try simp only [KL, cond_true, cond_false, beq_iff_eq, bne_iff_ne, ne_eq, reduceCtorEq] at hc) <;> (try (have hT : True := hc; clear hT hc)) <;> (try (exfalso; omega))) | apply kT | apply kU | apply kV | apply kW | refine kX rfl ?_ | apply kY | apply kZ)
    all_goals first | (exfalso; omega) | skip
    have hb := BS.snoc (lt := ltcDue c) (A := dd) (c := mm) k2 k3 (by omega) hmm.2
    exact ⟨(cs ++ [mm], dd ++ mm, e2), ⟨by
      have := k1.trans (((Rch.refl (lt := ltcDue c) (l := dd)).app hmm.1).app (Rch.refl (lt := ltcDue c) (l := e2)) |> fun h => by simpa using h)
      simpa using this, hb.1, hb.2⟩, by simp only [List.length_append]; omega, les, leh⟩
theorem sort_Due (fc : FuncId) (c : Due → Due → Int) (p : Due → Prop) (hs : SWO (ltcDue c)) (hF : ∀ x y, p x → p y → Fn Try.prog fc ([(fun x : Due => AV.agg (eDue x)) x, (fun x : Due => AV.agg (eDue x)) y] ++ []) (.int .i64 (c x y))) (xx : List Due) (hp : ∀ x ∈ xx, p x) (hl : xx.length ≤ 500000000) :
    FnH Try.prog 71 [.own 4, .fn (.func fc) [] []] [(4, .row 41 2 (xx.map eDue))]
    (fun r h' => r = .tup [] ∧ ∃ xx', StS (ltcDue c) xx xx' ∧ h' = [(4, .row 41 2 (xx'.map eDue))]) := by
  refine fnhb Try.func71 (entered_of (by kernel_rfl)) rfl rfl ?_
  repeat' (first | (show W _ _ _ _ _ _; first | apply kA | refine kB rfl ?_ | refine kC rfl rfl ?_ | refine kD rfl rfl ?_ | apply kE | apply kF | apply kG | apply kH | refine kI (by kernel_rfl) (by kernel_rfl) ?_) | (show O _ _ _ _ _ _ _; first | (show O _ _ _ _ (⟨_, .store _ _ _, _, _, _, _⟩ :: _) _ _; refine kJ rfl rfl rfl rfl rfl rfl rfl rfl rfl rfl rfl ?_) | apply kK) | apply kL | ((first | apply kM | apply kN); (iterate 3 (· exact rfl)); (· first | exact ya)) | refine kO rfl rfl rfl rfl rfl ?_ | refine kP rfl rfl rfl ?_ | ((first | refine kQ rfl rfl ?_ ?_ | refine kR rfl rfl rfl rfl rfl ?_ ?_ | refine kS rfl rfl rfl ?_ ?_) <;> intro hc <;> (try simp only [KL, cond_true, cond_false, beq_iff_eq, bne_iff_ne, ne_eq, reduceCtorEq] at hc) <;> (try (have hT : True := hc; clear hT hc)) <;> (try (exfalso; omega))) | apply kT | apply kU | apply kV | apply kW | refine kX rfl ?_ | apply kY | apply kZ)
  refine zcall (fun i => i) (stb_Due fc  c p hs hF xx hp _ rfl hl) rfl rfl leh rfl rfl rfl rfl rfl rfl (fun r h' hR => ?_)
  obtain ⟨rfl, mm, hmm, rfl⟩ := hR
  refine ⟨rfl, rfl, ?_⟩
  repeat' (first | (show W _ _ _ _ _ _; first | apply kA | refine kB rfl ?_ | refine kC rfl rfl ?_ | refine kD rfl rfl ?_ | apply kE | apply kF | apply kG | apply kH | refine kI (by kernel_rfl) (by kernel_rfl) ?_) | (show O _ _ _ _ _ _ _; first | (show O _ _ _ _ (⟨_, .store _ _ _, _, _, _, _⟩ :: _) _ _; refine kJ rfl rfl rfl rfl rfl rfl rfl rfl rfl rfl rfl ?_) | apply kK) | apply kL | ((first | apply kM | apply kN); (iterate 3 (· exact rfl)); (· first | exact ya)) | refine kO rfl rfl rfl rfl rfl ?_ | refine kP rfl rfl rfl ?_ | ((first | refine kQ rfl rfl ?_ ?_ | refine kR rfl rfl rfl rfl rfl ?_ ?_ | refine kS rfl rfl rfl ?_ ?_) <;> intro hc <;> (try simp only [KL, cond_true, cond_false, beq_iff_eq, bne_iff_ne, ne_eq, reduceCtorEq] at hc) <;> (try (have hT : True := hc; clear hT hc)) <;> (try (exfalso; omega))) | apply kT | apply kU | apply kV | apply kW | refine kX rfl ?_ | apply kY | apply kZ)
  first | exact retn rfl ⟨rfl, mm, hmm, rfl⟩ | exact retq rfl ⟨rfl, mm, hmm, rfl⟩
end Go.Proofs.Ytfjoaeghnfkdlaa
