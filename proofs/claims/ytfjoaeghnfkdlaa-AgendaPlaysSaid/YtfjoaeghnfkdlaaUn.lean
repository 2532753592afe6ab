/- What an agenda gives until a time. No condition. -/
import Derived.Test.YtfjoaeghnfkdlaaAg3
import Derived.Test.YtfjoaeghnfkdlaaAvI2
import Derived.Test.YtfjoaeghnfkdlaaIt
namespace Go.Proofs.Ytfjoaeghnfkdlaa
set_option linter.unusedSimpArgs false
set_option linter.unusedVariables false
set_option maxRecDepth 100000
set_option linter.unusedSimpArgs false
set_option linter.unusedVariables false
set_option maxRecDepth 100000
open Go.RowKit
def dueU (t : Int) (S : List Due) : List Due := S.takeWhile fun d => decide (d.at_ ≤ t)
def restU (t : Int) (S : List Due) : List Due := S.dropWhile fun d => decide (d.at_ ≤ t)
theorem sort_pop {xs ys : List Due} (h : HpA xs) (hp : xs.Perm (dG xs 0 :: ys)) : sortD xs = dG xs 0 :: sortD ys := by
  refine (sortD_eq ((List.Perm.cons _ (sortD_perm ys)).trans hp.symm) ?_).symm
  rw [List.pairwise_cons]
  refine ⟨fun a ha => ?_, sortD_srt ys⟩
  have ha : a ∈ xs := hp.mem_iff.2 (List.mem_cons_of_mem _ ((sortD_perm ys).mem_iff.1 ha))
  obtain ⟨j, hj, rfl⟩ := List.getElem_of_mem ha
  have := root_least h j hj
  rwa [show dG xs j = xs[j] by simp [dG, hj]] at this
theorem sortD_nil : sortD [] = [] := rfl
theorem sortD_congr {a b : List Due} (h : a.Perm b) : sortD a = sortD b := sortD_eq ((sortD_perm a).trans h) (sortD_srt a)
theorem FnHp.drop {P : Program} {pins : List (Nat × Value)} {f : FuncId} {args : List AV} {hin : Heap} {R : AV → Heap → Prop} (hf : FnHp P pins f args hin (fun r h' => ∃ h2, LeH h' h2 ∧ R r h2)) : FnHp P pins f args hin R :=
  ⟨hf.1, fun may pin σ ι w vs h1 h2 h3 => (hf.2 may pin σ ι w vs h1 h2 h3).mono fun e w' ⟨u, r, h', σ', ι', h1, ⟨h2, hl, hR⟩, h3, h4⟩ => ⟨u, r, h2, σ', ι', h1, hR, h3, h4.le hl⟩⟩
abbrev setU (l : Nat) (r : Loop) (σ0 : Sig) (t room : Int) (xs : List Due) (rest : Heap) : Heap :=
  (8, .sem (objC l (.loop r))) :: (9, .sem (knowC σ0)) :: (0, .blk 44 [.ptr 2 0]) :: (1, .blk 3 [.int .i64 t]) :: (2, .blk 99 [.int .i64 room, .own 5]) :: (5, .row 41 2 (xs.map eDue)) :: rest
abbrev outU (ys : List Due) : Heap := [(3, .blk 29 [.own 6]), (6, .row 41 2 (ys.map eDue))]
theorem useq_rd (l : Nat) (r : Loop) (σ0 : Sig) (pins : List (Nat × Value)) (t room : Int) (xs ys : List Due) (d : Due) (hr : r.state = .ready) (hpd : r.pending = none) (hab : rfOf Try.f75.body = some (r.params, r.assign, r.body)) (hk : r.tmps.size = Try.f75.ntmps)
    (hs : SlotsOk σ0 pins [(2, .ptr 3 0)] r.tmps) (hx : ys.length ≤ 100000) :
    YF Try.prog l pins [.agg (eDue d)] (setU l r σ0 t room xs (outU ys)) (fun b h' => b = true ∧ h' = setU l { r with state := .ready, pending := none } σ0 t room xs (outU (ys ++ [d]))) := by
  change Option.some (_, _, _) = some _ at hab
  injection hab with hab
  injection hab with h1 hab
  injection hab with h2 h3
  refine yf_le (yf_body (R := fun b h' => b = true ∧ LeH h' (setU l { r with state := .ready, pending := none } σ0 t room xs (outU (ys ++ [d])))) (idL := 8) (idK := 9) (σ0 := σ0) rfl rfl hr h1.symm hk (by decide) hs ?_) ?_
  · refine wcode h2 ?_
    repeat' (first | (show W _ _ _ _ _ _; first | apply kA | refine kB rfl ?_ | refine kC rfl rfl ?_ | refine kD rfl rfl ?_ | apply kE | apply kF | apply kG | apply kH | refine kI (by kernel_rfl) (by kernel_rfl) ?_) | (show O _ _ _ _ _ _ _; first | (show O _ _ _ _ (⟨_, .alloc _, _, _, _, _⟩ :: _) _ _; first | refine ao_alloc (id := 14) rfl rfl rfl rfl rfl rfl rfl ?_) | (show O _ _ _ _ (⟨_, .store _ _ _, _, _, _, _⟩ :: _) _ _; refine kJ rfl rfl rfl rfl rfl rfl rfl rfl rfl rfl rfl ?_) | apply kK) | apply kL | ((first | apply kM | apply kN); (iterate 3 (· exact rfl)); (· first | exact ya)) | refine kO rfl rfl rfl rfl rfl ?_ | refine kP rfl rfl rfl ?_ | ((first | refine kQ rfl rfl ?_ ?_ | refine kR rfl rfl rfl rfl rfl ?_ ?_ | refine kS rfl rfl rfl ?_ ?_) <;> intro hc <;> (try simp only [KL, cond_true, cond_false, beq_iff_eq, bne_iff_ne, ne_eq, reduceCtorEq] at hc) <;> (try (have hT : True := hc; clear hT hc)) <;> (try (exfalso; omega))) | apply kT | apply kU | apply kV | apply kW | refine kX rfl ?_ | apply kY | apply kZ)
    refine ⟨rfl, ?_⟩
    refine wcode h3 ?_
    repeat' (first | (show W _ _ _ _ _ _; first | apply kA | refine kB rfl ?_ | refine kC rfl rfl ?_ | refine kD rfl rfl ?_ | apply kE | apply kF | apply kG | apply kH | refine kI (by kernel_rfl) (by kernel_rfl) ?_) | (show O _ _ _ _ _ _ _; first | (show O _ _ _ _ (⟨_, .store _ _ _, _, _, _, _⟩ :: _) _ _; refine kJ rfl rfl rfl rfl rfl rfl rfl rfl rfl rfl rfl ?_) | apply kK) | apply kL | ((first | apply kM | apply kN); (iterate 3 (· exact rfl)); (· first | exact ya)) | refine kO rfl rfl rfl rfl rfl ?_ | refine kP rfl rfl rfl ?_ | ((first | refine kQ rfl rfl ?_ ?_ | refine kR rfl rfl rfl rfl rfl ?_ ?_ | refine kS rfl rfl rfl ?_ ?_) <;> intro hc <;> (try simp only [KL, cond_true, cond_false, beq_iff_eq, bne_iff_ne, ne_eq, reduceCtorEq] at hc) <;> (try (have hT : True := hc; clear hT hc)) <;> (try (exfalso; omega))) | apply kT | apply kU | apply kV | apply kW | refine kX rfl ?_ | apply kY | apply kZ)
    refine oturn (turn_undef (id := 3) rfl) ?_
    refine ole (h' := (8, .sem (objC l (.loop { r with state := .busy }))) :: (9, .sem (knowC σ0)) :: (0, .blk 44 [.ptr 2 0]) :: (1, .blk 3 [.int .i64 t]) :: (2, .blk 99 [.int .i64 room, .own 5]) :: (5, .row 41 2 (xs.map eDue)) :: [(3, .blk 29 [.undef]), (6, .row 41 2 (ys.map eDue))]) (LeS.refl _) leh ?_
    (refine ao_ap (id := 6) (ys := [d]) (by_ := 16) rfl rfl rfl rfl rfl rfl rfl rfl rfl rfl (fun _ _ => rfl) ?_ ?_ rfl rfl rfl rfl rfl ?_; (· (first | omega | ((try simp only [List.length_cons, List.length_nil, List.length_append, List.length_map]) <;> omega))); (· (first | omega | ((try simp only [List.length_cons, List.length_nil, List.length_append, List.length_map]) <;> omega))))
    repeat' (first | (show W _ _ _ _ _ _; first | apply kA | refine kB rfl ?_ | refine kC rfl rfl ?_ | refine kD rfl rfl ?_ | apply kE | apply kF | apply kG | apply kH | refine kI (by kernel_rfl) (by kernel_rfl) ?_) | (show O _ _ _ _ _ _ _; first | (show O _ _ _ _ (⟨_, .store _ _ _, _, _, _, _⟩ :: _) _ _; refine kJ rfl rfl rfl rfl rfl rfl rfl rfl rfl rfl rfl ?_) | apply kK) | apply kL | ((first | apply kM | apply kN); (iterate 3 (· exact rfl)); (· first | exact ya)) | refine kO rfl rfl rfl rfl rfl ?_ | refine kP rfl rfl rfl ?_ | ((first | refine kQ rfl rfl ?_ ?_ | refine kR rfl rfl rfl rfl rfl ?_ ?_ | refine kS rfl rfl rfl ?_ ?_) <;> intro hc <;> (try simp only [KL, cond_true, cond_false, beq_iff_eq, bne_iff_ne, ne_eq, reduceCtorEq] at hc) <;> (try (have hT : True := hc; clear hT hc)) <;> (try (exfalso; omega))) | apply kT | apply kU | apply kV | apply kW | refine kX rfl ?_ | apply kY | apply kZ)
    exact ⟨rfl, rfl, leh⟩
  · rintro b h' ⟨rfl, h5⟩
    exact ⟨_, h5, rfl, rfl⟩
def ρk (i : Nat) : Nat := [2, 1, 12, 13, 5, 5].getD i (i + 30)
set_option maxHeartbeats 2000000 in
theorem useq_it (t room : Int) (xs0 : List Due) (h0 : HpA xs0) (hl0 : xs0.length ≤ 10000) (l : Nat) (r : Loop) (σ0 : Sig) (pins : List (Nat × Value)) (hr : r.state = .ready) (hpd : r.pending = none) (hab : rfOf Try.f75.body = some (r.params, r.assign, r.body)) (hk : r.tmps.size = Try.f75.ntmps)
    (hs : SlotsOk σ0 pins [(2, .ptr 3 0)] r.tmps) (hp5 : ∀ p ∈ pins, p.1 < 5) :
    FnHp Try.prog pins 76 (.fn (.yield l) [] [] :: [.ptr 0 0, .ptr 1 0]) (setU l r σ0 t room xs0 (outU [])) (fun v h' => v = .tup [] ∧ ∃ ys, HpA ys ∧ ys.Perm (restU t (sortD xs0)) ∧ h' = setU l r σ0 t room ys (outU (dueU t (sortD xs0)))) := by
  refine FnHp.drop (fnhbp Try.func76 (entered_of (by kernel_rfl)) rfl rfl ?_)
  repeat' (first | (show W _ _ _ _ _ _; first | apply kA | refine kB rfl ?_ | refine kC rfl rfl ?_ | refine kD rfl rfl ?_ | apply kE | apply kF | apply kG | apply kH | refine kI (by kernel_rfl) (by kernel_rfl) ?_) | (show O _ _ _ _ _ _ _; first | (show O _ _ _ _ (⟨_, .store _ _ _, _, _, _, _⟩ :: _) _ _; refine kJ rfl rfl rfl rfl rfl rfl rfl rfl rfl rfl rfl ?_) | apply kK) | apply kL | ((first | apply kM | apply kN); (iterate 3 (· exact rfl)); (· first | exact ya)) | refine kO rfl rfl rfl rfl rfl ?_ | refine kP rfl rfl rfl ?_ | ((first | refine kQ rfl rfl ?_ ?_ | refine kR rfl rfl rfl rfl rfl ?_ ?_ | refine kS rfl rfl rfl ?_ ?_) <;> intro hc <;> (try simp only [KL, cond_true, cond_false, beq_iff_eq, bne_iff_ne, ne_eq, reduceCtorEq] at hc) <;> (try (have hT : True := hc; clear hT hc)) <;> (try (exfalso; omega))) | apply kT | apply kU | apply kV | apply kW | refine kX rfl ?_ | apply kY | apply kZ)
  refine wloop (fun x : List Due × List Due => ([(0, .fn (.yield l) [] []), (1, .ptr 0 0), (2, .ptr 1 0)], setU l r σ0 t room x.1 (outU x.2))) (fun x => HpA x.1 ∧ x.1.length + x.2.length ≤ 10000 ∧ x.2 ++ dueU t (sortD x.1) = dueU t (sortD xs0) ∧ restU t (sortD x.1) = restU t (sortD xs0)) (fun x => x.1.length) (xs0, []) ⟨h0, by simpa using hl0, rfl, rfl⟩ les leh (fun x hx => ?_)
  obtain ⟨xs, ys⟩ := x
  obtain ⟨g1, g2, g3, g4⟩ := hx
  simp only at g1 g2 g3 g4 ⊢
  repeat' (first | (show W _ _ _ _ _ _; first | apply kA | refine kB rfl ?_ | refine kC rfl rfl ?_ | refine kD rfl rfl ?_ | apply kE | apply kF | apply kG | apply kH | refine kI (by kernel_rfl) (by kernel_rfl) ?_) | (show O _ _ _ _ _ _ _; first | (show O _ _ _ _ (⟨_, .store _ _ _, _, _, _, _⟩ :: _) _ _; refine kJ rfl rfl rfl rfl rfl rfl rfl rfl rfl rfl rfl ?_) | apply kK) | apply kL | ((first | apply kM | apply kN); (iterate 3 (· exact rfl)); (· first | exact ya)) | refine kO rfl rfl rfl rfl rfl ?_ | refine kP rfl rfl rfl ?_ | ((first | refine kQ rfl rfl ?_ ?_ | refine kR rfl rfl rfl rfl rfl ?_ ?_ | refine kS rfl rfl rfl ?_ ?_) <;> intro hc <;> (try simp only [KL, cond_true, cond_false, beq_iff_eq, bne_iff_ne, ne_eq, reduceCtorEq] at hc) <;> (try (have hT : True := hc; clear hT hc)) <;> (try (exfalso; omega))) | apply kT | apply kU | apply kV | apply kW | refine kX rfl ?_ | apply kY | apply kZ)
  refine zcall (fun i => ρk i) (peek05_fn room xs) rfl rfl leh rfl rfl rfl rfl rfl rfl (fun r h' hR => ?_)
  obtain ⟨rfl, rfl⟩ := hR
  refine ⟨rfl, rfl, ?_⟩
  refine ole (s' := [(0, .fn (.yield l) [] []), (1, .ptr 0 0), (2, .ptr 1 0), (8, .tup [.agg (eDue (dG xs 0)), .bool (decide (0 < xs.length))])]) (h' := setU l r σ0 t room xs (outU ys)) les leh ?_
  by_cases hn : 0 < xs.length
  · rw [decide_eq_true hn]
    by_cases ht : (dG xs 0).at_ ≤ t
    · repeat' (first | (show W _ _ _ _ _ _; first | apply kA | refine kB rfl ?_ | refine kC rfl rfl ?_ | refine kD rfl rfl ?_ | apply kE | apply kF | apply kG | apply kH | refine kI (by kernel_rfl) (by kernel_rfl) ?_) | (show O _ _ _ _ _ _ _; first | (show O _ _ _ _ (⟨_, .alloc _, _, _, _, _⟩ :: _) _ _; first | refine ao_alloc (id := 14) rfl rfl rfl rfl rfl rfl rfl ?_) | (show O _ _ _ _ (⟨_, .store _ _ _, _, _, _, _⟩ :: _) _ _; refine kJ rfl rfl rfl rfl rfl rfl rfl rfl rfl rfl rfl ?_) | apply kK) | apply kL | ((first | apply kM | apply kN); (iterate 3 (· exact rfl)); (· first | exact ya)) | refine kO rfl rfl rfl rfl rfl ?_ | refine kP rfl rfl rfl ?_ | ((first | refine kQ rfl rfl ?_ ?_ | refine kR rfl rfl rfl rfl rfl ?_ ?_ | refine kS rfl rfl rfl ?_ ?_) <;> intro hc <;> (try simp only [KL, cond_true, cond_false, beq_iff_eq, bne_iff_ne, ne_eq, reduceCtorEq] at hc) <;> (try (have hT : True := hc; clear hT hc)) <;> (try (exfalso; omega))) | apply kT | apply kU | apply kV | apply kW | refine kX rfl ?_ | apply kY | apply kZ)
      all_goals first | (exfalso; omega) | skip
      refine zcall (fun i => ρk i) (pop05_fn room xs (by omega) g1) rfl rfl leh rfl rfl rfl rfl rfl rfl (fun r h' hR => ?_)
      obtain ⟨rfl, zs, k1, k2, k3, rfl⟩ := hR
      refine ⟨rfl, rfl, ?_⟩
      have hsp := sort_pop g1 (k2 hn)
      have hzl := (k2 hn).length_eq
      rw [List.length_cons] at hzl
      repeat' (first | (show W _ _ _ _ _ _; first | apply kA | refine kB rfl ?_ | refine kC rfl rfl ?_ | refine kD rfl rfl ?_ | apply kE | apply kF | apply kG | apply kH | refine kI (by kernel_rfl) (by kernel_rfl) ?_) | (show O _ _ _ _ _ _ _; first | (show O _ _ _ _ (⟨_, .store _ _ _, _, _, _, _⟩ :: _) _ _; refine kJ rfl rfl rfl rfl rfl rfl rfl rfl rfl rfl rfl ?_) | apply kK) | apply kL | ((first | apply kM | apply kN); (iterate 3 (· exact rfl)); (· first | exact ya)) | refine kO rfl rfl rfl rfl rfl ?_ | refine kP rfl rfl rfl ?_ | ((first | refine kQ rfl rfl ?_ ?_ | refine kR rfl rfl rfl rfl rfl ?_ ?_ | refine kS rfl rfl rfl ?_ ?_) <;> intro hc <;> (try simp only [KL, cond_true, cond_false, beq_iff_eq, bne_iff_ne, ne_eq, reduceCtorEq] at hc) <;> (try (have hT : True := hc; clear hT hc)) <;> (try (exfalso; omega))) | apply kT | apply kU | apply kV | apply kW | refine kX rfl ?_ | apply kY | apply kZ)
      have hrd := rdy hr hpd
      refine ycall (fun i => i) (useq_rd l r σ0 pins t room zs ys (dG xs 0) hr hpd hab hk hs (by omega)) (fun p hp => hp) hp5 rfl rfl rfl rfl leh rfl rfl rfl rfl rfl rfl (fun r1 h' hR => ?_)
      rw [hrd] at hR
      obtain ⟨rfl, rfl⟩ := hR
      refine ⟨rfl, ?_⟩
      repeat' (first | (show W _ _ _ _ _ _; first | apply kA | refine kB rfl ?_ | refine kC rfl rfl ?_ | refine kD rfl rfl ?_ | apply kE | apply kF | apply kG | apply kH | refine kI (by kernel_rfl) (by kernel_rfl) ?_) | (show O _ _ _ _ _ _ _; first | (show O _ _ _ _ (⟨_, .store _ _ _, _, _, _, _⟩ :: _) _ _; refine kJ rfl rfl rfl rfl rfl rfl rfl rfl rfl rfl rfl ?_) | apply kK) | apply kL | ((first | apply kM | apply kN); (iterate 3 (· exact rfl)); (· first | exact ya | exact q_w rfl)) | refine kO rfl rfl rfl rfl rfl ?_ | refine kP rfl rfl rfl ?_ | ((first | refine kQ rfl rfl ?_ ?_ | refine kR rfl rfl rfl rfl rfl ?_ ?_ | refine kS rfl rfl rfl ?_ ?_) <;> intro hc <;> (try simp only [KL, cond_true, cond_false, beq_iff_eq, bne_iff_ne, ne_eq, reduceCtorEq] at hc) <;> (try (have hT : True := hc; clear hT hc)) <;> (try (exfalso; omega))) | apply kT | apply kU | apply kV | apply kW | refine kX rfl ?_ | apply kY | apply kZ)
      refine ⟨(zs, ys ++ [dG xs 0]), ⟨k1, ?_, ?_, ?_⟩, ?_, les, leh⟩
      · simp only [List.length_append, List.length_cons, List.length_nil]; omega
      · rw [← g3, hsp, dueU, dueU, List.takeWhile_cons, decide_eq_true ht]; simp
      · rw [← g4, hsp, restU, restU, List.dropWhile_cons, decide_eq_true ht]; simp
      · simp only; omega
    · have e1 : dueU t (sortD xs) = [] ∧ restU t (sortD xs) = sortD xs := by
        have hpp : xs.Perm (dG xs 0 :: popD xs) := popD_perm hn
        rw [sort_pop g1 hpp, dueU, restU, List.takeWhile_cons, List.dropWhile_cons, decide_eq_false ht]; exact ⟨rfl, rfl⟩
      rw [e1.1, List.append_nil] at g3
      rw [e1.2] at g4
      repeat' (first | (show W _ _ _ _ _ _; first | apply kA | refine kB rfl ?_ | refine kC rfl rfl ?_ | refine kD rfl rfl ?_ | apply kE | apply kF | apply kG | apply kH | refine kI (by kernel_rfl) (by kernel_rfl) ?_) | (show O _ _ _ _ _ _ _; first | (show O _ _ _ _ (⟨_, .alloc _, _, _, _, _⟩ :: _) _ _; first | refine ao_alloc (id := 14) rfl rfl rfl rfl rfl rfl rfl ?_) | (show O _ _ _ _ (⟨_, .store _ _ _, _, _, _, _⟩ :: _) _ _; refine kJ rfl rfl rfl rfl rfl rfl rfl rfl rfl rfl rfl ?_) | apply kK) | apply kL | ((first | apply kM | apply kN); (iterate 3 (· exact rfl)); (· first | exact ya)) | refine kO rfl rfl rfl rfl rfl ?_ | refine kP rfl rfl rfl ?_ | ((first | refine kQ rfl rfl ?_ ?_ | refine kR rfl rfl rfl rfl rfl ?_ ?_ | refine kS rfl rfl rfl ?_ ?_) <;> intro hc <;> (try simp only [KL, cond_true, cond_false, beq_iff_eq, bne_iff_ne, ne_eq, reduceCtorEq] at hc) <;> (try (have hT : True := hc; clear hT hc)) <;> (try (exfalso; omega))) | apply kT | apply kU | apply kV | apply kW | refine kX rfl ?_ | apply kY | apply kZ)
      all_goals first | (exfalso; omega) | skip
      all_goals exact retn rfl ⟨setU l r σ0 t room xs (outU ys), leh, rfl, xs, g1, g4 ▸ (sortD_perm xs).symm, by rw [← g3]⟩
  · rw [decide_eq_false hn]
    have e : xs = [] := List.eq_nil_of_length_eq_zero (by omega)
    subst e
    have e1 : dueU t (sortD []) = [] ∧ restU t (sortD []) = [] := ⟨rfl, rfl⟩
    rw [e1.1, List.append_nil] at g3
    rw [e1.2] at g4
    repeat' (first | (show W _ _ _ _ _ _; first | apply kA | refine kB rfl ?_ | refine kC rfl rfl ?_ | refine kD rfl rfl ?_ | apply kE | apply kF | apply kG | apply kH | refine kI (by kernel_rfl) (by kernel_rfl) ?_) | (show O _ _ _ _ _ _ _; first | (show O _ _ _ _ (⟨_, .alloc _, _, _, _, _⟩ :: _) _ _; first | refine ao_alloc (id := 14) rfl rfl rfl rfl rfl rfl rfl ?_) | (show O _ _ _ _ (⟨_, .store _ _ _, _, _, _, _⟩ :: _) _ _; refine kJ rfl rfl rfl rfl rfl rfl rfl rfl rfl rfl rfl ?_) | apply kK) | apply kL | ((first | apply kM | apply kN); (iterate 3 (· exact rfl)); (· first | exact ya)) | refine kO rfl rfl rfl rfl rfl ?_ | refine kP rfl rfl rfl ?_ | ((first | refine kQ rfl rfl ?_ ?_ | refine kR rfl rfl rfl rfl rfl ?_ ?_ | refine kS rfl rfl rfl ?_ ?_) <;> intro hc <;> (try simp only [KL, cond_true, cond_false, beq_iff_eq, bne_iff_ne, ne_eq, reduceCtorEq] at hc) <;> (try (have hT : True := hc; clear hT hc)) <;> (try (exfalso; omega))) | apply kT | apply kU | apply kV | apply kW | refine kX rfl ?_ | apply kY | apply kZ)
    all_goals first | (exfalso; omega) | skip
    all_goals exact retn rfl ⟨setU l r σ0 t room [] (outU ys), leh, rfl, [], g1, g4 ▸ List.Perm.refl _, by rw [← g3]⟩
def ρu (i : Nat) : Nat := [0, 1, 2, 10, 4, 5, 11, 7, 21, 22].getD i i
theorem useq_fn (t room : Int) (xs : List Due) (h0 : HpA xs) (hl0 : xs.length ≤ 10000) : FnH Try.prog 75 [.nils, .fn (.func 76) [] [.ptr 0 0, .ptr 1 0]]
    [(0, .blk 44 [.ptr 2 0]), (1, .blk 3 [.int .i64 t]), (2, .blk 99 [.int .i64 room, .own 5]), (5, .row 41 2 (xs.map eDue))]
    (fun v h' => v = .lst 2 ((dueU t (sortD xs)).map eDue) ∧ ∃ ys, HpA ys ∧ ys.Perm (restU t (sortD xs)) ∧ h' = [(2, .blk 99 [.int .i64 room, .own 5]), (5, .row 41 2 (ys.map eDue))]) := by
  refine fnhv Try.func75 (entered_of (by kernel_rfl)) rfl rfl ?_
  refine v_seq (v_w ?_)
  refine wturn (turn_own eDue (t := 0) rfl 11 41 2 (by omega) rfl) ?_
  repeat' (first | (show W _ _ _ _ _ _; first | apply kA | refine kB rfl ?_ | refine kC rfl rfl ?_ | refine kD rfl rfl ?_ | apply kE | apply kF | apply kG | apply kH | refine kI (by kernel_rfl) (by kernel_rfl) ?_) | (show O _ _ _ _ _ _ _; first | (show O _ _ _ _ (⟨_, .box _ _, _, _, _, _⟩ :: _) _ _; first | refine ao_box (id := 10) rfl rfl rfl rfl rfl rfl rfl rfl ?_) | (show O _ _ _ _ (⟨_, .store _ _ _, _, _, _, _⟩ :: _) _ _; refine kJ rfl rfl rfl rfl rfl rfl rfl rfl rfl rfl rfl ?_) | apply kK) | apply kL | ((first | apply kM | apply kN); (iterate 3 (· exact rfl)); (· first | exact yab)) | refine kO rfl rfl rfl rfl rfl ?_ | refine kP rfl rfl rfl ?_ | ((first | refine kQ rfl rfl ?_ ?_ | refine kR rfl rfl rfl rfl rfl ?_ ?_ | refine kS rfl rfl rfl ?_ ?_) <;> intro hc <;> (try simp only [KL, cond_true, cond_false, beq_iff_eq, bne_iff_ne, ne_eq, reduceCtorEq] at hc) <;> (try (have hT : True := hc; clear hT hc)) <;> (try (exfalso; omega))) | apply kT | apply kU | apply kV | apply kW | refine kX rfl ?_ | apply kY | apply kZ)
  refine vThenN ?_
  refine v_mid (fun D : {D : Nat × List Due // HpA D.2 ∧ D.2.Perm (restU t (sortD xs))} => ([mark D.1.1], [(2, .ptr 10 0)], [(10, .blk 29 [.own 11]), (11, .row 41 2 ((dueU t (sortD xs)).map eDue)), (2, .blk 99 [.int .i64 room, .own 5]), (5, .row 41 2 (D.1.2.map eDue)), (20, .sem (objC D.1.1 (.deferred (some []))))])) ?_ (fun D => ?_)
  · refine v_seq (v_w ?_)
    repeat' (first | (show W _ _ _ _ _ _; first | apply kA | refine kB rfl ?_ | refine kC rfl rfl ?_ | refine kD rfl rfl ?_ | apply kE | apply kF | apply kG | apply kH | refine kI (by kernel_rfl) (by kernel_rfl) ?_) | (show O _ _ _ _ _ _ _; first | (show O _ _ _ _ (⟨_, .store _ _ _, _, _, _, _⟩ :: _) _ _; refine kJ rfl rfl rfl rfl rfl rfl rfl rfl rfl rfl rfl ?_) | apply kK) | apply kL | ((first | apply kM | apply kN); (iterate 3 (· exact rfl)); (· first | exact ya)) | refine kO rfl rfl rfl rfl rfl ?_ | refine kP rfl rfl rfl ?_ | ((first | refine kQ rfl rfl ?_ ?_ | refine kR rfl rfl rfl rfl rfl ?_ ?_ | refine kS rfl rfl rfl ?_ ?_) <;> intro hc <;> (try simp only [KL, cond_true, cond_false, beq_iff_eq, bne_iff_ne, ne_eq, reduceCtorEq] at hc) <;> (try (have hT : True := hc; clear hT hc)) <;> (try (exfalso; omega))) | apply kT | apply kU | apply kV | apply kW | refine kX rfl ?_ | apply kY | apply kZ)
    refine vThenN (v_block ?_)
    refine v_le (s' := [(2, .ptr 10 0), (6, .fn (.func 76) [] [.ptr 0 0, .ptr 1 0])]) (h' := [(10, .blk 29 [.own 11]), (11, .row 41 2 (([] : List Due).map eDue)), (0, .blk 44 [.ptr 2 0]), (1, .blk 3 [.int .i64 t]), (2, .blk 99 [.int .i64 room, .own 5]), (5, .row 41 2 (xs.map eDue))]) les leh ?_
    refine v_range (ρu) (caps0 := [.ptr 0 0, .ptr 1 0]) (s0 := [(2, .ptr 3 0)]) (hin0 := [(0, .blk 44 [.ptr 2 0]), (1, .blk 3 [.int .i64 t]), (2, .blk 99 [.int .i64 room, .own 5]), (5, .row 41 2 (xs.map eDue)), (3, .blk 29 [.own 6]), (6, .row 41 2 (([] : List Due).map eDue))]) 20 21 22 (R := fun l r v h' => r.state = .ready ∧ r.pending = none ∧ v = .tup [] ∧ ∃ σ0 ys, HpA ys ∧ ys.Perm (restU t (sortD xs)) ∧ h' = setU l r σ0 t room ys (outU (dueU t (sortD xs))))
      rfl rfl rfl rfl (fun _ => rfl) (fun _ _ _ => rfl) (fun _ _ _ _ => leh) rfl rfl rfl (fun _ _ _ _ => rfl) les rfl (fun l D r σ0 pins q1 q2 q3 q4 q5 q6 q7 q8 => ?_) (fun l D r σ0 v h' hR => ?_) rfl
    · exact fnhp_mono (useq_it t room xs h0 hl0 l r σ0 pins q1 q2 (by rw [q3, q4, q5]; rfl) q6 q7 q8) fun v h' ⟨e1, ys, e2, e3, e4⟩ => ⟨q1, q2, e1, σ0, ys, e2, e3, e4⟩
    · obtain ⟨q1, q2, rfl, σ1, ys, e2, e3, rfl⟩ := hR
      refine ⟨rfl, r, rfl, by rw [q1]; simp, fun _ => ?_, fun c e => by rw [q2] at e; cases e⟩
      exact vInN (vThenN ⟨⟨(D, ys), e2, e3⟩, rfl, les, leh⟩)
  · obtain ⟨⟨D, ys⟩, e2, e3⟩ := D
    refine v_seq (v_w ?_)
    repeat' (first | (show W _ _ _ _ _ _; first | apply kA | refine kB rfl ?_ | refine kC rfl rfl ?_ | refine kD rfl rfl ?_ | apply kE | apply kF | apply kG | apply kH | refine kI (by kernel_rfl) (by kernel_rfl) ?_) | (show O _ _ _ _ _ _ _; first | (show O _ _ _ _ (⟨_, .store _ _ _, _, _, _, _⟩ :: _) _ _; refine kJ rfl rfl rfl rfl rfl rfl rfl rfl rfl rfl rfl ?_) | apply kK) | apply kL | ((first | apply kM | apply kN); (iterate 3 (· exact rfl)); (· first | exact ya)) | refine kO rfl rfl rfl rfl rfl ?_ | refine kP rfl rfl rfl ?_ | ((first | refine kQ rfl rfl ?_ ?_ | refine kR rfl rfl rfl rfl rfl ?_ ?_ | refine kS rfl rfl rfl ?_ ?_) <;> intro hc <;> (try simp only [KL, cond_true, cond_false, beq_iff_eq, bne_iff_ne, ne_eq, reduceCtorEq] at hc) <;> (try (have hT : True := hc; clear hT hc)) <;> (try (exfalso; omega))) | apply kT | apply kU | apply kV | apply kW | refine kX rfl ?_ | apply kY | apply kZ)
    refine vThenN (v_w (wret ?_))
    refine retvT (fun _ => turn_freeze (t := 4) rfl rfl rfl) ?_
    exact retv1 (id := 20) rfl rfl (h0 := [(2, .blk 99 [.int .i64 room, .own 5]), (5, .row 41 2 (ys.map eDue))]) leh rfl ⟨rfl, ys, e2, e3, rfl⟩
theorem due05_fn (t room : Int) (xs : List Due) : FnH Try.prog 53 [.ptr 0 0, .int .i64 t] (agH 5 room xs ++ [(6, .row 3 1 (([] : List Int).map eI)), (7, .row 3 1 (([] : List Int).map eI))])
    (fun v h' => v = .fn (.func 76) [] [.ptr 6 0, .ptr 7 0] ∧ h' = agH 5 room xs ++ [(6, .blk 44 [.ptr 0 0]), (7, .blk 3 [.int .i64 t])]) := by
  refine fnhb Try.func53 (entered_of (by kernel_rfl)) rfl rfl ?_
  refine wle (s' := [(0, .ptr 0 0), (1, .int .i64 t)]) (h' := agH 5 room xs) les leh ?_
  repeat' (first | (show W _ _ _ _ _ _; first | apply kA | refine kB rfl ?_ | refine kC rfl rfl ?_ | refine kD rfl rfl ?_ | apply kE | apply kF | apply kG | apply kH | refine kI (by kernel_rfl) (by kernel_rfl) ?_) | (show O _ _ _ _ _ _ _; first | (show O _ _ _ _ (⟨_, .box _ _, _, _, _, _⟩ :: _) _ _; first | refine ao_box (id := 6) rfl rfl rfl rfl rfl rfl rfl rfl ?_ | refine ao_box (id := 7) rfl rfl rfl rfl rfl rfl rfl rfl ?_) | (show O _ _ _ _ (⟨_, .store _ _ _, _, _, _, _⟩ :: _) _ _; refine kJ rfl rfl rfl rfl rfl rfl rfl rfl rfl rfl rfl ?_) | apply kK) | apply kL | ((first | apply kM | apply kN); (iterate 3 (· exact rfl)); (· first | exact yab)) | refine kO rfl rfl rfl rfl rfl ?_ | refine kP rfl rfl rfl ?_ | ((first | refine kQ rfl rfl ?_ ?_ | refine kR rfl rfl rfl rfl rfl ?_ ?_ | refine kS rfl rfl rfl ?_ ?_) <;> intro hc <;> (try simp only [KL, cond_true, cond_false, beq_iff_eq, bne_iff_ne, ne_eq, reduceCtorEq] at hc) <;> (try (have hT : True := hc; clear hT hc)) <;> (try (exfalso; omega))) | apply kT | apply kU | apply kV | apply kW | refine kX rfl ?_ | apply kY | apply kZ)
  exact reth (h' := agH 5 room xs ++ [(6, .blk 44 [.ptr 0 0]), (7, .blk 3 [.int .i64 t])]) rfl leh ⟨rfl, rfl⟩
theorem ucol_fn (t room : Int) (xs : List Due) (h0 : HpA xs) (hl0 : xs.length ≤ 10000) : FnH Try.prog 52 [.fn (.func 76) [] [.ptr 0 0, .ptr 1 0]]
    [(0, .blk 44 [.ptr 2 0]), (1, .blk 3 [.int .i64 t]), (2, .blk 99 [.int .i64 room, .own 5]), (5, .row 41 2 (xs.map eDue))]
    (fun v h' => v = .lst 2 ((dueU t (sortD xs)).map eDue) ∧ ∃ ys, HpA ys ∧ ys.Perm (restU t (sortD xs)) ∧ h' = [(2, .blk 99 [.int .i64 room, .own 5]), (5, .row 41 2 (ys.map eDue))]) := by
  refine fnhb Try.func52 (entered_of (by kernel_rfl)) rfl rfl ?_
  repeat' (first | (show W _ _ _ _ _ _; first | apply kA | refine kB rfl ?_ | refine kC rfl rfl ?_ | refine kD rfl rfl ?_ | apply kE | apply kF | apply kG | apply kH | refine kI (by kernel_rfl) (by kernel_rfl) ?_) | (show O _ _ _ _ _ _ _; first | (show O _ _ _ _ (⟨_, .store _ _ _, _, _, _, _⟩ :: _) _ _; refine kJ rfl rfl rfl rfl rfl rfl rfl rfl rfl rfl rfl ?_) | apply kK) | apply kL | ((first | apply kM | apply kN); (iterate 3 (· exact rfl)); (· first | exact ya)) | refine kO rfl rfl rfl rfl rfl ?_ | refine kP rfl rfl rfl ?_ | ((first | refine kQ rfl rfl ?_ ?_ | refine kR rfl rfl rfl rfl rfl ?_ ?_ | refine kS rfl rfl rfl ?_ ?_) <;> intro hc <;> (try simp only [KL, cond_true, cond_false, beq_iff_eq, bne_iff_ne, ne_eq, reduceCtorEq] at hc) <;> (try (have hT : True := hc; clear hT hc)) <;> (try (exfalso; omega))) | apply kT | apply kU | apply kV | apply kW | refine kX rfl ?_ | apply kY | apply kZ)
  refine zcall (fun i => i) (useq_fn t room xs h0 hl0) rfl rfl leh rfl rfl rfl rfl rfl rfl (fun r h' hR => ?_)
  obtain ⟨rfl, ys, e2, e3, rfl⟩ := hR
  refine ⟨rfl, rfl, ?_⟩
  repeat' (first | (show W _ _ _ _ _ _; first | apply kA | refine kB rfl ?_ | refine kC rfl rfl ?_ | refine kD rfl rfl ?_ | apply kE | apply kF | apply kG | apply kH | refine kI (by kernel_rfl) (by kernel_rfl) ?_) | (show O _ _ _ _ _ _ _; first | (show O _ _ _ _ (⟨_, .store _ _ _, _, _, _, _⟩ :: _) _ _; refine kJ rfl rfl rfl rfl rfl rfl rfl rfl rfl rfl rfl ?_) | apply kK) | apply kL | ((first | apply kM | apply kN); (iterate 3 (· exact rfl)); (· first | exact ya)) | refine kO rfl rfl rfl rfl rfl ?_ | refine kP rfl rfl rfl ?_ | ((first | refine kQ rfl rfl ?_ ?_ | refine kR rfl rfl rfl rfl rfl ?_ ?_ | refine kS rfl rfl rfl ?_ ?_) <;> intro hc <;> (try simp only [KL, cond_true, cond_false, beq_iff_eq, bne_iff_ne, ne_eq, reduceCtorEq] at hc) <;> (try (have hT : True := hc; clear hT hc)) <;> (try (exfalso; omega))) | apply kT | apply kU | apply kV | apply kW | refine kX rfl ?_ | apply kY | apply kZ)
  exact reth rfl leh ⟨rfl, ys, e2, e3, rfl⟩
def ρv (i : Nat) : Nat := [16, 17, 0, 13, 14, 5].getD i (i + 30)
/-- What is due until a time; what is not, stays. -/
theorem until05_fn (t room : Int) (xs : List Due) (h0 : HpA xs) (hl0 : xs.length ≤ 10000) : FnH Try.prog 29 [.ptr 0 0, .int .i64 t] (agH 5 room xs)
    (fun v h' => v = .lst 2 ((dueU t (sortD xs)).map eDue) ∧ ∃ ys, HpA ys ∧ ys.Perm (restU t (sortD xs)) ∧ h' = agH 5 room ys) := by
  refine fnhb Try.func29 (entered_of (by kernel_rfl)) rfl rfl ?_
  repeat' (first | (show W _ _ _ _ _ _; first | apply kA | refine kB rfl ?_ | refine kC rfl rfl ?_ | refine kD rfl rfl ?_ | apply kE | apply kF | apply kG | apply kH | refine kI (by kernel_rfl) (by kernel_rfl) ?_) | (show O _ _ _ _ _ _ _; first | (show O _ _ _ _ (⟨_, .store _ _ _, _, _, _, _⟩ :: _) _ _; refine kJ rfl rfl rfl rfl rfl rfl rfl rfl rfl rfl rfl ?_) | apply kK) | apply kL | ((first | apply kM | apply kN); (iterate 3 (· exact rfl)); (· first | exact ya)) | refine kO rfl rfl rfl rfl rfl ?_ | refine kP rfl rfl rfl ?_ | ((first | refine kQ rfl rfl ?_ ?_ | refine kR rfl rfl rfl rfl rfl ?_ ?_ | refine kS rfl rfl rfl ?_ ?_) <;> intro hc <;> (try simp only [KL, cond_true, cond_false, beq_iff_eq, bne_iff_ne, ne_eq, reduceCtorEq] at hc) <;> (try (have hT : True := hc; clear hT hc)) <;> (try (exfalso; omega))) | apply kT | apply kU | apply kV | apply kW | refine kX rfl ?_ | apply kY | apply kZ)
  refine oturn (turn_dummy eI 16 3 1 (by omega) rfl) ?_
  refine oturn (turn_dummy eI 17 3 1 (by omega) rfl) ?_
  refine zcall (fun i => [0, 1, 2, 3, 4, 5, 16, 17].getD i (i + 30)) (due05_fn t room xs) rfl rfl leh rfl rfl rfl rfl rfl rfl (fun r h' hR => ?_)
  obtain ⟨rfl, rfl⟩ := hR
  refine ⟨rfl, rfl, ?_⟩
  repeat' (first | (show W _ _ _ _ _ _; first | apply kA | refine kB rfl ?_ | refine kC rfl rfl ?_ | refine kD rfl rfl ?_ | apply kE | apply kF | apply kG | apply kH | refine kI (by kernel_rfl) (by kernel_rfl) ?_) | (show O _ _ _ _ _ _ _; first | (show O _ _ _ _ (⟨_, .store _ _ _, _, _, _, _⟩ :: _) _ _; refine kJ rfl rfl rfl rfl rfl rfl rfl rfl rfl rfl rfl ?_) | apply kK) | apply kL | ((first | apply kM | apply kN); (iterate 3 (· exact rfl)); (· first | exact ya)) | refine kO rfl rfl rfl rfl rfl ?_ | refine kP rfl rfl rfl ?_ | ((first | refine kQ rfl rfl ?_ ?_ | refine kR rfl rfl rfl rfl rfl ?_ ?_ | refine kS rfl rfl rfl ?_ ?_) <;> intro hc <;> (try simp only [KL, cond_true, cond_false, beq_iff_eq, bne_iff_ne, ne_eq, reduceCtorEq] at hc) <;> (try (have hT : True := hc; clear hT hc)) <;> (try (exfalso; omega))) | apply kT | apply kU | apply kV | apply kW | refine kX rfl ?_ | apply kY | apply kZ)
  refine zcall (fun i => ρv i) (ucol_fn t room xs h0 hl0) rfl rfl leh rfl rfl rfl rfl rfl rfl (fun r h' hR => ?_)
  obtain ⟨rfl, ys, e2, e3, rfl⟩ := hR
  refine ⟨rfl, rfl, ?_⟩
  repeat' (first | (show W _ _ _ _ _ _; first | apply kA | refine kB rfl ?_ | refine kC rfl rfl ?_ | refine kD rfl rfl ?_ | apply kE | apply kF | apply kG | apply kH | refine kI (by kernel_rfl) (by kernel_rfl) ?_) | (show O _ _ _ _ _ _ _; first | (show O _ _ _ _ (⟨_, .store _ _ _, _, _, _, _⟩ :: _) _ _; refine kJ rfl rfl rfl rfl rfl rfl rfl rfl rfl rfl rfl ?_) | apply kK) | apply kL | ((first | apply kM | apply kN); (iterate 3 (· exact rfl)); (· first | exact ya)) | refine kO rfl rfl rfl rfl rfl ?_ | refine kP rfl rfl rfl ?_ | ((first | refine kQ rfl rfl ?_ ?_ | refine kR rfl rfl rfl rfl rfl ?_ ?_ | refine kS rfl rfl rfl ?_ ?_) <;> intro hc <;> (try simp only [KL, cond_true, cond_false, beq_iff_eq, bne_iff_ne, ne_eq, reduceCtorEq] at hc) <;> (try (have hT : True := hc; clear hT hc)) <;> (try (exfalso; omega))) | apply kT | apply kU | apply kV | apply kW | refine kX rfl ?_ | apply kY | apply kZ)
  exact reth (h' := agH 5 room ys) rfl leh ⟨rfl, ys, e2, e3, rfl⟩
end Go.Proofs.Ytfjoaeghnfkdlaa
