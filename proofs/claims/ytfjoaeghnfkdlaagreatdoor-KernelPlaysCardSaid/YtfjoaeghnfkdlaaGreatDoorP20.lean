/- The agenda: one more, one less. No condition. -/
import Derived.Test.YtfjoaeghnfkdlaaGreatDoorP11
import Derived.Test.YtfjoaeghnfkdlaaGreatDoorP19
import Derived.Test.YtfjoaeghnfkdlaaGreatDoorP13
import Derived.Test.YtfjoaeghnfkdlaaGreatDoorP9
import Derived.Test.YtfjoaeghnfkdlaaGreatDoorP12
import Derived.Test.YtfjoaeghnfkdlaaGreatDoorP8
import Derived.WalkKit
import Derived.Test.YtfjoaeghnfkdlaaGreatDoorP15
import Derived.Test.YtfjoaeghnfkdlaaGreatDoorP17
import Derived.Test.YtfjoaeghnfkdlaaGreatDoorP16
set_option linter.unusedSimpArgs false
set_option linter.unusedVariables false
set_option maxHeartbeats 1000000
namespace Go.Proofs.YtfjoaeghnfkdlaaGreatDoor
set_option maxRecDepth 100000
set_option maxRecDepth 100000
open Go.RowKit
def ρ45 (i : Nat) : Nat := [0, 1, 2, 3, 5].getD i i
def pushE (room : Int) (n : Nat) (d : Due) : Int := if d.at_ < 0 ∨ d.task < 0 then 5 else if room ≤ n then 6 else 0
theorem push05_fn (room : Int) (xs : List Due) (d : Due) (hl : xs.length ≤ 10000) (hh : HpA xs) : FnH Tryz.prog 39 [.ptr 0 0, .agg (eDue d)] (agH 5 room xs) (fun r h' => r = .int .i64 (pushE room xs.length d) ∧ ∃ ys, HpA ys ∧ ys.Perm (if pushE room xs.length d = 0 then xs ++ [d] else xs) ∧ h' = agH 5 room ys) := by
  refine (fnhb Tryz.func39 (entered_of (by kernel_rfl)) rfl rfl ?_).drop
  by_cases h1 : d.at_ < 0 ∨ d.task < 0
  · have e : pushE room xs.length d = 5 := by rw [pushE, if_pos h1]
    rw [e, if_neg (by omega)]
    repeat' (first | refine sA ?_ | ((first | apply kM | apply kN); (iterate 3 (· exact rfl)); (· first | exact ya)) | refine sG ?_ | (refine sK ?_ ?_ <;> intro hc <;> (try simp only [KL, sL, reduceCtorEq] at hc) <;> (try (have hT : True := hc; clear hT hc)) <;> (try (exfalso; omega))))
    all_goals first | (exfalso; omega) | skip
    all_goals exact retq rfl ⟨agH 5 room xs, leh, rfl, xs, hh, List.Perm.refl _, rfl⟩
  by_cases h2 : room ≤ xs.length
  · have e : pushE room xs.length d = 6 := by rw [pushE, if_neg h1, if_pos h2]
    rw [e, if_neg (by omega)]
    repeat' (first | refine sA ?_ | ((first | apply kM | apply kN); (iterate 3 (· exact rfl)); (· first | exact ya)) | refine sG ?_ | (refine sK ?_ ?_ <;> intro hc <;> (try simp only [KL, sL, reduceCtorEq] at hc) <;> (try (have hT : True := hc; clear hT hc)) <;> (try (exfalso; omega))))
    all_goals first | (exfalso; omega) | skip
    all_goals exact retq rfl ⟨agH 5 room xs, leh, rfl, xs, hh, List.Perm.refl _, rfl⟩
  have e : pushE room xs.length d = 0 := by rw [pushE, if_neg h1, if_neg h2]
  rw [e, if_pos rfl]
  repeat' (first | refine sB ?_ | ((first | apply kM | apply kN); (iterate 3 (· exact rfl)); (· first | exact ya)) | refine sG ?_ | (refine sK ?_ ?_ <;> intro hc <;> (try simp only [KL, sL, reduceCtorEq] at hc) <;> (try (have hT : True := hc; clear hT hc)) <;> (try (exfalso; omega))))
  all_goals first | (exfalso; omega) | skip
  refine wdraw (by kernel_rfl) (by kernel_rfl) ?_
  repeat' (first | refine sB ?_ | ((first | apply kM | apply kN); (iterate 3 (· exact rfl)); (· first | exact ya)) | refine sG ?_ | (refine sK ?_ ?_ <;> intro hc <;> (try simp only [KL, sL, reduceCtorEq] at hc) <;> (try (have hT : True := hc; clear hT hc)) <;> (try (exfalso; omega))))
  all_goals first | (exfalso; omega) | skip
  refine wdrawK (H := fun y : Heap => y) (ok := fun _ => True) (tn := [7, 10]) (ln := [4]) (c := 7) (R := 5) (agH 5 room xs) leh (by kernel_rfl) (by kernel_rfl) (by kernel_rfl) trivial ?_
  repeat' (first | refine sA ?_ | ((first | apply kM | apply kN); (iterate 3 (· exact rfl)); (· first | exact ya)) | (show KW _ _ _ _ _ _ _ _ _ _ _ _ _; first | refine knil rfl ?_ | (apply k_any; (· exact rfl); (· exact rfl); (· exact rfl); (· intro y' hy'; first | exact ya); (· first | exact rfl | kernel_rfl)) | (apply k_ld; (· exact rfl); (· exact rfl); (· exact rfl); (· exact rfl); (· first | exact ya); (· first | exact rfl | kernel_rfl))) | refine sG ?_ | (refine sK ?_ ?_ <;> intro hc <;> (try simp only [KL, sL, reduceCtorEq] at hc) <;> (try (have hT : True := hc; clear hT hc)) <;> (try (exfalso; omega))))
  refine k_mv (x' := [(5, .row 60 2 ((xs ++ [d]).map eDue)), (0, .blk 129 [.int .i64 room, .undef])]) rfl rfl rfl trivial
    (TuK.post (TuK.pre (pre_mask (h2 := [(5, .row 60 2 (xs.map eDue)), (0, .blk 129 [.int .i64 room, .undef])]) [false, true] (id := 0) rfl leh)
      (tk_append (ys := [d]) (by_ := 16) rfl rfl rfl rfl rfl rfl rfl rfl rfl rfl (fun _ _ => rfl) (by simp only [List.length_cons, List.length_nil]; omega) (by simp only [List.length_cons, List.length_nil]; omega) rfl rfl)) leh) ?_
  repeat' (first | refine sA ?_ | ((first | apply kM | apply kN); (iterate 3 (· exact rfl)); (· first | exact ya)) | (show KW _ _ _ _ _ _ _ _ _ _ _ _ _; first | refine knil rfl ?_ | (apply k_any; (· exact rfl); (· exact rfl); (· exact rfl); (· intro y' hy'; first | exact ya); (· first | exact rfl | kernel_rfl)) | (apply k_ld; (· exact rfl); (· exact rfl); (· exact rfl); (· exact rfl); (· first | exact ya); (· first | exact rfl | kernel_rfl))) | refine sG ?_ | (refine sK ?_ ?_ <;> intro hc <;> (try simp only [KL, sL, reduceCtorEq] at hc) <;> (try (have hT : True := hc; clear hT hc)) <;> (try (exfalso; omega))))
  refine k_tu (x' := agH 5 room (xs ++ [d])) rfl rfl rfl trivial ((tu_st (sto_B rfl rfl rfl rfl rfl rfl (Nat.le_of_ble_eq_true rfl)) rfl).post leh) (by kernel_rfl) ?_
  have hlen : (xs ++ [d]).length = xs.length + 1 := by simp
  repeat' (first | refine sA ?_ | ((first | apply kM | apply kN); (iterate 3 (· exact rfl)); (· first | exact ya)) | (show KW _ _ _ _ _ _ _ _ _ _ _ _ _; first | refine knil rfl ?_ | (apply k_any; (· exact rfl); (· exact rfl); (· exact rfl); (· intro y' hy'; first | exact ya); (· first | exact rfl | kernel_rfl)) | (apply k_ld; (· exact rfl); (· exact rfl); (· exact rfl); (· exact rfl); (· first | exact ya); (· first | exact rfl | kernel_rfl))) | refine sG ?_ | (refine sK ?_ ?_ <;> intro hc <;> (try simp only [KL, sL, reduceCtorEq] at hc) <;> (try (have hT : True := hc; clear hT hc)) <;> (try (exfalso; omega))))
  refine ole (s' := [(38, .ptr 0 0), (44, .int .i64 xs.length)]) (h' := agH 5 room (xs ++ [d])) les leh ?_
  refine zcall (fun i => ρ45 i) (up05_fn room (xs ++ [d]) xs.length (by omega) (by omega) (up_new hh d)) rfl rfl leh rfl rfl rfl rfl rfl rfl (fun r h' hR => ?_)
  obtain ⟨rfl, ys, h3, h4, rfl⟩ := hR
  refine ⟨rfl, rfl, ?_⟩
  repeat' (first | refine sA ?_ | ((first | apply kM | apply kN); (iterate 3 (· exact rfl)); (· first | exact ya)) | refine sG ?_ | (refine sK ?_ ?_ <;> intro hc <;> (try simp only [KL, sL, reduceCtorEq] at hc) <;> (try (have hT : True := hc; clear hT hc)) <;> (try (exfalso; omega))))
  exact retq rfl ⟨agH 5 room ys, leh, rfl, ys, h4, h3, rfl⟩
theorem pop05_fn (room : Int) (xs : List Due) (hl : xs.length ≤ 10000) (hh : HpA xs) : FnH Tryz.prog 112 [.ptr 0 0] (agH 5 room xs) (fun r h' => r = .tup [.agg (eDue (dG xs 0)), .bool (decide (0 < xs.length))] ∧ ∃ ys, HpA ys ∧ (0 < xs.length → xs.Perm (dG xs 0 :: ys)) ∧ (xs.length = 0 → ys = []) ∧ h' = agH 5 room ys) := by
  refine (fnhb Tryz.func112 (entered_of (by kernel_rfl)) rfl rfl ?_).drop
  repeat' (first | refine sA ?_ | (show O _ _ _ _ _ _ _; first | refine ao_alloc (id := 12) rfl rfl rfl rfl rfl rfl rfl ?_) | ((first | apply kM | apply kN); (iterate 3 (· exact rfl)); (· first | exact ya)) | refine sG ?_ | (refine sK ?_ ?_ <;> intro hc <;> (try simp only [KL, sL, reduceCtorEq] at hc) <;> (try (have hT : True := hc; clear hT hc)) <;> (try (exfalso; omega))))
  refine zcall (fun i => ρ45 i) (peek05_fn room xs) rfl rfl leh rfl rfl rfl rfl rfl rfl (fun r h' hR => ?_)
  obtain ⟨rfl, rfl⟩ := hR
  refine ⟨rfl, rfl, ?_⟩
  by_cases h0 : 0 < xs.length
  · rw [decide_eq_true h0]
    repeat' (first | refine sB ?_ | (show O _ _ _ _ _ _ _; first | refine ao_alloc (id := 14) rfl rfl rfl rfl rfl rfl rfl ?_) | ((first | apply kM | apply kN); (iterate 3 (· exact rfl)); (· first | exact ya)) | refine sG ?_ | (refine sK ?_ ?_ <;> intro hc <;> (try simp only [KL, sL, reduceCtorEq] at hc) <;> (try (have hT : True := hc; clear hT hc)) <;> (try (exfalso; omega))))
    all_goals first | (exfalso; omega) | skip
    refine wle (s' := [(0, .ptr 0 0), (2, .ptr 12 0), (4, .ptr 14 0), (6, .int .i64 (xs.length - 1 : Nat))]) (h' := [(5, .row 60 2 (xs.map eDue)), (0, .blk 129 [.int .i64 room, .own 5]), (12, .blk 60 [.int .i64 0, .int .i64 0]), (14, .blk 60 (eDue (dG xs 0)))]) les leh ?_
    have e1 : xs.getD (xs.length - 1) default = dG xs (xs.length - 1) := rfl
    repeat' (first | (show W _ _ _ _ _ _; first | refine wdrawS rfl (by kernel_rfl) (by kernel_rfl) (by kernel_rfl) ?_ | apply kA | refine kB rfl ?_ | refine kC rfl rfl ?_ | refine kD rfl rfl ?_ | apply kE | apply kF | apply kG | apply kH | refine kI (by kernel_rfl) (by kernel_rfl) ?_) | (show O _ _ _ _ _ _ _; first | (show O _ _ _ _ (⟨_, .store _ _ _, _, _, _, _⟩ :: _) _ _; refine kJ rfl rfl rfl rfl rfl rfl rfl rfl rfl rfl rfl ?_) | apply kK) | apply kL | ((first | apply kM | apply kN); (iterate 3 (· exact rfl)); (· first | (show Y _ ⟨_, .indexAddr _ _ _, _, _, _, _⟩ _ _ _; first | exact q_ioE (0) rfl rfl rfl rfl rfl rfl (by omega) (by omega) | exact q_ioE (xs.length - 1) rfl rfl rfl rfl rfl rfl (by omega) (by omega)) | exact ya)) | (show F _ _ _ _ _ _ _ _ _ _ _; first | refine fnil ?_ | (apply f_ld; (· exact rfl); (· exact rfl); (· first | exact yp)) | refine f_se (x' := dG xs (xs.length - 1)) rfl rfl rfl rfl rfl rfl rfl rfl rfl (by (first | rfl | omega | (simp only [List.length_set]; omega) | simp only [List.length_set])) (by (first | rfl | omega | (simp only [List.length_set]; omega) | simp only [List.length_set])) ?_ | (apply f_k; (· exact rfl); (· intro y' hy'; first | (show Y _ ⟨_, .indexAddr _ _ _, _, _, _, _⟩ _ _ _; first | exact q_ioE (0) rfl rfl rfl rfl rfl rfl (by omega) (by omega) | exact q_ioE (xs.length - 1) rfl rfl rfl rfl rfl rfl (by omega) (by omega)) | exact ya))) | refine kO rfl rfl rfl rfl rfl ?_ | refine kP rfl rfl rfl ?_ | ((first | refine kQ rfl rfl ?_ ?_ | refine kR rfl rfl rfl rfl rfl ?_ ?_ | refine kS rfl rfl rfl ?_ ?_) <;> intro hc <;> (try simp only [KL, cond_true, cond_false, beq_iff_eq, bne_iff_ne, ne_eq, reduceCtorEq] at hc) <;> (try (have hT : True := hc; clear hT hc)) <;> (try (exfalso; omega))) | apply kT | apply kU | apply kV | apply kW | refine kX rfl ?_ | apply kY | apply kZ)
    all_goals first | (exfalso; omega) | skip
    refine oturn (turn_mask [false, true] (id := 0) rfl) ?_
    refine ole (h' := [(5, .row 60 2 ((xs.set 0 (dG xs (xs.length - 1))).map eDue)), (0, .blk 129 [.int .i64 room, .undef]), (12, .blk 60 [.int .i64 0, .int .i64 0]), (14, .blk 60 (eDue (dG xs 0)))]) (LeS.refl _) leh ?_
    (refine ao_cut rfl rfl rfl rfl rfl rfl ?_ rfl rfl rfl rfl rfl ?_; (· first | omega | (simp only [List.length_set, List.length_cons, List.length_nil, List.length_append, List.length_map, List.length_take, List.length_replicate]; omega)))
    repeat' (first | refine sA ?_ | ((first | apply kM | apply kN); (iterate 3 (· exact rfl)); (· first | exact ya)) | refine sG ?_ | (refine sK ?_ ?_ <;> intro hc <;> (try simp only [KL, sL, reduceCtorEq] at hc) <;> (try (have hT : True := hc; clear hT hc)) <;> (try (exfalso; omega))))
    refine zcall (fun i => ρ45 i) (down05_fn room (popD xs) (by rw [popD_len]; omega) 0 (popD_heap hh) (by omega)) rfl rfl leh rfl rfl rfl rfl rfl rfl (fun r h' hR => ?_)
    obtain ⟨rfl, ys, h3, h4, rfl⟩ := hR
    refine ⟨rfl, rfl, ?_⟩
    repeat' (first | refine sA ?_ | ((first | apply kM | apply kN); (iterate 3 (· exact rfl)); (· first | exact ya)) | refine sG ?_ | (refine sK ?_ ?_ <;> intro hc <;> (try simp only [KL, sL, reduceCtorEq] at hc) <;> (try (have hT : True := hc; clear hT hc)) <;> (try (exfalso; omega))))
    exact retq rfl ⟨agH 5 room ys, leh, rfl, ys, h4, fun _ => (popD_perm h0).trans (h3.symm.cons _), fun h => by omega, rfl⟩
  · rw [decide_eq_false h0]
    have e : xs = [] := List.eq_nil_of_length_eq_zero (by omega)
    subst e
    repeat' (first | refine sA ?_ | (show O _ _ _ _ _ _ _; first | refine ao_alloc (id := 14) rfl rfl rfl rfl rfl rfl rfl ?_) | ((first | apply kM | apply kN); (iterate 3 (· exact rfl)); (· first | exact ya)) | refine sG ?_ | (refine sK ?_ ?_ <;> intro hc <;> (try simp only [KL, sL, reduceCtorEq] at hc) <;> (try (have hT : True := hc; clear hT hc)) <;> (try (exfalso; omega))))
    all_goals exact retq rfl ⟨agH 5 room [], leh, rfl, [], hh, fun h => absurd h (by simp), fun _ => rfl, rfl⟩
theorem new05_fn (most : Int) : FnH Tryz.prog 37 [.int .i64 most] [(5, .row 3 1 (([] : List Int).map eI))] (fun r h' => r = .ptr 5 0 ∧ h' = [(5, .blk 129 [.int .i64 (max 0 (min most 4096)), .nils])]) := by
  refine fnhb Tryz.func37 (entered_of (by kernel_rfl)) rfl rfl ?_
  refine wle (s' := [(0, .int .i64 most)]) (h' := []) les (LeH.nil _) ?_
  repeat' (first | refine sA ?_ | (show O _ _ _ _ _ _ _; first | (show O _ _ _ _ (⟨_, .box _ _, _, _, _, _⟩ :: _) _ _; first | refine ao_box (id := 5) rfl rfl rfl rfl rfl rfl rfl rfl ?_)) | ((first | apply kM | apply kN); (iterate 3 (· exact rfl)); (· first | exact yab)) | refine sG ?_ | (refine sK ?_ ?_ <;> intro hc <;> (try simp only [KL, sL, reduceCtorEq] at hc) <;> (try (have hT : True := hc; clear hT hc)) <;> (try (exfalso; omega))))
  exact retq rfl ⟨rfl, rfl⟩
end Go.Proofs.YtfjoaeghnfkdlaaGreatDoor
namespace Go.Proofs.YtfjoaeghnfkdlaaGreatDoor
set_option maxRecDepth 100000
set_option maxRecDepth 100000
open Go.RowKit
def dueU (t : Int) (S : List Due) : List Due := S.takeWhile fun d => decide (d.at_ ≤ t)
def restU (t : Int) (S : List Due) : List Due := S.dropWhile fun d => decide (d.at_ ≤ t)
theorem sort_pop {xs ys : List Due} (h : HpA xs) (hp : xs.Perm (dG xs 0 :: ys)) : sortD xs = dG xs 0 :: sortD ys := by
  refine (sortD_eq ((List.Perm.cons _ (sortD_perm ys)).trans hp.symm) ?_).symm
  rw [List.pairwise_cons]
  refine ⟨fun a ha => ?_, sortD_srt ys⟩
  have ha : a ∈ xs := hp.mem_iff.2 (List.mem_cons_of_mem _ ((sortD_perm ys).mem_iff.1 ha))
  obtain ⟨j, hj, rfl⟩ := List.getElem_of_mem ha
  have := root_least h j hj
  rwa [show dG xs j = xs[j] by simp [dG, hj]] at this
theorem sortD_congr {a b : List Due} (h : a.Perm b) : sortD a = sortD b := sortD_eq ((sortD_perm a).trans h) (sortD_srt a)
theorem FnHp.drop {P : Program} {pins : List (Nat × Value)} {f : FuncId} {args : List AV} {hin : Heap} {R : AV → Heap → Prop} (hf : FnHp P pins f args hin (fun r h' => ∃ h2, LeH h' h2 ∧ R r h2)) : FnHp P pins f args hin R :=
  ⟨hf.1, fun may pin σ ι w vs h1 h2 h3 => (hf.2 may pin σ ι w vs h1 h2 h3).mono fun e w' ⟨u, r, h', σ', ι', h1, ⟨h2, hl, hR⟩, h3, h4⟩ => ⟨u, r, h2, σ', ι', h1, hR, h3, h4.le hl⟩⟩
abbrev setU (l : Nat) (r : Loop) (σ0 : Sig) (t room : Int) (xs : List Due) (rest : Heap) : Heap :=
  (8, .sem (objC l (.loop r))) :: (9, .sem (knowC σ0)) :: (0, .blk 83 [.ptr 2 0]) :: (1, .blk 3 [.int .i64 t]) :: (2, .blk 129 [.int .i64 room, .own 5]) :: (5, .row 60 2 (xs.map eDue)) :: rest
abbrev outU (ys : List Due) : Heap := [(3, .blk 40 [.own 6]), (6, .row 60 2 (ys.map eDue))]
theorem useq_rd (l : Nat) (r : Loop) (σ0 : Sig) (pins : List (Nat × Value)) (t room : Int) (xs ys : List Due) (d : Due) (hr : r.state = .ready) (hpd : r.pending = none) (hab : rfOf Tryz.f109.body = some (r.params, r.assign, r.body)) (hk : r.tmps.size = Tryz.f109.ntmps)
    (hs : SlotsOk σ0 pins [(2, .ptr 3 0)] r.tmps) (hx : ys.length ≤ 100000) :
    YF Tryz.prog l pins [.agg (eDue d)] (setU l r σ0 t room xs (outU ys)) (fun b h' => b = true ∧ h' = setU l { r with state := .ready, pending := none } σ0 t room xs (outU (ys ++ [d]))) := by
  change Option.some (_, _, _) = some _ at hab
  injection hab with hab
  injection hab with h1 hab
  injection hab with h2 h3
  refine yf_le (yf_body (R := fun b h' => b = true ∧ LeH h' (setU l { r with state := .ready, pending := none } σ0 t room xs (outU (ys ++ [d])))) (idL := 8) (idK := 9) (σ0 := σ0) rfl rfl hr h1.symm hk (by decide) hs ?_) ?_
  · refine wcode h2 ?_
    repeat' (first | refine sA ?_ | (show O _ _ _ _ _ _ _; first | refine ao_alloc (id := 14) rfl rfl rfl rfl rfl rfl rfl ?_) | ((first | apply kM | apply kN); (iterate 3 (· exact rfl)); (· first | exact ya)) | refine sG ?_ | (refine sK ?_ ?_ <;> intro hc <;> (try simp only [KL, sL, reduceCtorEq] at hc) <;> (try (have hT : True := hc; clear hT hc)) <;> (try (exfalso; omega))))
    refine ⟨rfl, ?_⟩
    refine wcode h3 ?_
    repeat' (first | refine sA ?_ | ((first | apply kM | apply kN); (iterate 3 (· exact rfl)); (· first | exact ya)) | refine sG ?_ | (refine sK ?_ ?_ <;> intro hc <;> (try simp only [KL, sL, reduceCtorEq] at hc) <;> (try (have hT : True := hc; clear hT hc)) <;> (try (exfalso; omega))))
    refine oturn (turn_undef (id := 3) rfl) ?_
    refine ole (h' := (8, .sem (objC l (.loop { r with state := .busy }))) :: (9, .sem (knowC σ0)) :: (0, .blk 83 [.ptr 2 0]) :: (1, .blk 3 [.int .i64 t]) :: (2, .blk 129 [.int .i64 room, .own 5]) :: (5, .row 60 2 (xs.map eDue)) :: [(3, .blk 40 [.undef]), (6, .row 60 2 (ys.map eDue))]) (LeS.refl _) leh ?_
    (refine ao_ap (id := 6) (ys := [d]) (by_ := 16) rfl rfl rfl rfl rfl rfl rfl rfl rfl rfl (fun _ _ => rfl) ?_ ?_ rfl rfl rfl rfl rfl ?_; (· (first | omega | ((try simp only [List.length_cons, List.length_nil, List.length_append, List.length_map]) <;> omega))); (· (first | omega | ((try simp only [List.length_cons, List.length_nil, List.length_append, List.length_map]) <;> omega))))
    repeat' (first | refine sA ?_ | ((first | apply kM | apply kN); (iterate 3 (· exact rfl)); (· first | exact ya)) | refine sG ?_ | (refine sK ?_ ?_ <;> intro hc <;> (try simp only [KL, sL, reduceCtorEq] at hc) <;> (try (have hT : True := hc; clear hT hc)) <;> (try (exfalso; omega))))
    exact ⟨rfl, rfl, leh⟩
  · rintro b h' ⟨rfl, h5⟩
    exact ⟨_, h5, rfl, rfl⟩
def ρk (i : Nat) : Nat := [2, 1, 12, 13, 5, 5].getD i (i + 30)
set_option maxHeartbeats 2000000 in
theorem useq_it (t room : Int) (xs0 : List Due) (h0 : HpA xs0) (hl0 : xs0.length ≤ 10000) (l : Nat) (r : Loop) (σ0 : Sig) (pins : List (Nat × Value)) (hr : r.state = .ready) (hpd : r.pending = none) (hab : rfOf Tryz.f109.body = some (r.params, r.assign, r.body)) (hk : r.tmps.size = Tryz.f109.ntmps)
    (hs : SlotsOk σ0 pins [(2, .ptr 3 0)] r.tmps) (hp5 : ∀ p ∈ pins, p.1 < 5) :
    FnHp Tryz.prog pins 110 (.fn (.yield l) [] [] :: [.ptr 0 0, .ptr 1 0]) (setU l r σ0 t room xs0 (outU [])) (fun v h' => v = .tup [] ∧ ∃ ys, HpA ys ∧ ys.Perm (restU t (sortD xs0)) ∧ h' = setU l r σ0 t room ys (outU (dueU t (sortD xs0)))) := by
  refine FnHp.drop (fnhbp Tryz.func110 (entered_of (by kernel_rfl)) rfl rfl ?_)
  repeat' (first | refine sA ?_ | ((first | apply kM | apply kN); (iterate 3 (· exact rfl)); (· first | exact ya)) | refine sG ?_ | (refine sK ?_ ?_ <;> intro hc <;> (try simp only [KL, sL, reduceCtorEq] at hc) <;> (try (have hT : True := hc; clear hT hc)) <;> (try (exfalso; omega))))
  refine wloop (fun x : List Due × List Due => ([(0, .fn (.yield l) [] []), (1, .ptr 0 0), (2, .ptr 1 0)], setU l r σ0 t room x.1 (outU x.2))) (fun x => HpA x.1 ∧ x.1.length + x.2.length ≤ 10000 ∧ x.2 ++ dueU t (sortD x.1) = dueU t (sortD xs0) ∧ restU t (sortD x.1) = restU t (sortD xs0)) (fun x => x.1.length) (xs0, []) ⟨h0, by simpa using hl0, rfl, rfl⟩ les leh (fun x hx => ?_)
  obtain ⟨xs, ys⟩ := x
  obtain ⟨g1, g2, g3, g4⟩ := hx
  simp only at g1 g2 g3 g4 ⊢
  repeat' (first | refine sA ?_ | ((first | apply kM | apply kN); (iterate 3 (· exact rfl)); (· first | exact ya)) | refine sG ?_ | (refine sK ?_ ?_ <;> intro hc <;> (try simp only [KL, sL, reduceCtorEq] at hc) <;> (try (have hT : True := hc; clear hT hc)) <;> (try (exfalso; omega))))
  refine zcall (fun i => ρk i) (peek05_fn room xs) rfl rfl leh rfl rfl rfl rfl rfl rfl (fun r h' hR => ?_)
  obtain ⟨rfl, rfl⟩ := hR
  refine ⟨rfl, rfl, ?_⟩
  refine ole (s' := [(0, .fn (.yield l) [] []), (1, .ptr 0 0), (2, .ptr 1 0), (8, .tup [.agg (eDue (dG xs 0)), .bool (decide (0 < xs.length))])]) (h' := setU l r σ0 t room xs (outU ys)) les leh ?_
  by_cases hn : 0 < xs.length
  · rw [decide_eq_true hn]
    by_cases ht : (dG xs 0).at_ ≤ t
    · repeat' (first | refine sA ?_ | (show O _ _ _ _ _ _ _; first | refine ao_alloc (id := 14) rfl rfl rfl rfl rfl rfl rfl ?_) | ((first | apply kM | apply kN); (iterate 3 (· exact rfl)); (· first | exact ya)) | refine sG ?_ | (refine sK ?_ ?_ <;> intro hc <;> (try simp only [KL, sL, reduceCtorEq] at hc) <;> (try (have hT : True := hc; clear hT hc)) <;> (try (exfalso; omega))))
      all_goals first | (exfalso; omega) | skip
      refine zcall (fun i => ρk i) (pop05_fn room xs (by omega) g1) rfl rfl leh rfl rfl rfl rfl rfl rfl (fun r h' hR => ?_)
      obtain ⟨rfl, zs, k1, k2, k3, rfl⟩ := hR
      refine ⟨rfl, rfl, ?_⟩
      have hsp := sort_pop g1 (k2 hn)
      have hzl := (k2 hn).length_eq
      rw [List.length_cons] at hzl
      repeat' (first | refine sA ?_ | ((first | apply kM | apply kN); (iterate 3 (· exact rfl)); (· first | exact ya)) | refine sG ?_ | (refine sK ?_ ?_ <;> intro hc <;> (try simp only [KL, sL, reduceCtorEq] at hc) <;> (try (have hT : True := hc; clear hT hc)) <;> (try (exfalso; omega))))
      have hrd := rdy hr hpd
      refine ycall (fun i => i) (useq_rd l r σ0 pins t room zs ys (dG xs 0) hr hpd hab hk hs (by omega)) (fun p hp => hp) hp5 rfl rfl rfl rfl leh rfl rfl rfl rfl rfl rfl (fun r1 h' hR => ?_)
      rw [hrd] at hR
      obtain ⟨rfl, rfl⟩ := hR
      refine ⟨rfl, ?_⟩
      repeat' (first | refine sA ?_ | ((first | apply kM | apply kN); (iterate 3 (· exact rfl)); (· first | exact ya | exact q_w rfl)) | refine sG ?_ | (refine sK ?_ ?_ <;> intro hc <;> (try simp only [KL, sL, reduceCtorEq] at hc) <;> (try (have hT : True := hc; clear hT hc)) <;> (try (exfalso; omega))))
      refine ⟨(zs, ys ++ [dG xs 0]), ⟨k1, ?_, ?_, ?_⟩, ?_, les, leh⟩
      · simp only [List.length_append, List.length_cons, List.length_nil]; omega
      · rw [← g3, hsp, dueU, dueU, List.takeWhile_cons, decide_eq_true ht]; simp
      · rw [← g4, hsp, restU, restU, List.dropWhile_cons, decide_eq_true ht]; simp
      · simp only; omega
    · have e1 : dueU t (sortD xs) = [] ∧ restU t (sortD xs) = sortD xs := by
        have hpp : xs.Perm (dG xs 0 :: popD xs) := popD_perm hn
        rw [sort_pop g1 hpp, dueU, restU, List.takeWhile_cons, List.dropWhile_cons, decide_eq_false ht]; exact ⟨rfl, rfl⟩
      rw [e1.1, List.append_nil] at g3
      rw [e1.2] at g4
      repeat' (first | refine sA ?_ | (show O _ _ _ _ _ _ _; first | refine ao_alloc (id := 14) rfl rfl rfl rfl rfl rfl rfl ?_) | ((first | apply kM | apply kN); (iterate 3 (· exact rfl)); (· first | exact ya)) | refine sG ?_ | (refine sK ?_ ?_ <;> intro hc <;> (try simp only [KL, sL, reduceCtorEq] at hc) <;> (try (have hT : True := hc; clear hT hc)) <;> (try (exfalso; omega))))
      all_goals first | (exfalso; omega) | skip
      all_goals exact retn rfl ⟨setU l r σ0 t room xs (outU ys), leh, rfl, xs, g1, g4 ▸ (sortD_perm xs).symm, by rw [← g3]⟩
  · rw [decide_eq_false hn]
    have e : xs = [] := List.eq_nil_of_length_eq_zero (by omega)
    subst e
    have e1 : dueU t (sortD []) = [] ∧ restU t (sortD []) = [] := ⟨rfl, rfl⟩
    rw [e1.1, List.append_nil] at g3
    rw [e1.2] at g4
    repeat' (first | refine sA ?_ | (show O _ _ _ _ _ _ _; first | refine ao_alloc (id := 14) rfl rfl rfl rfl rfl rfl rfl ?_) | ((first | apply kM | apply kN); (iterate 3 (· exact rfl)); (· first | exact ya)) | refine sG ?_ | (refine sK ?_ ?_ <;> intro hc <;> (try simp only [KL, sL, reduceCtorEq] at hc) <;> (try (have hT : True := hc; clear hT hc)) <;> (try (exfalso; omega))))
    all_goals first | (exfalso; omega) | skip
    all_goals exact retn rfl ⟨setU l r σ0 t room [] (outU ys), leh, rfl, [], g1, g4 ▸ List.Perm.refl _, by rw [← g3]⟩
def ρu (i : Nat) : Nat := [0, 1, 2, 10, 4, 5, 11, 7, 21, 22].getD i i
theorem useq_fn (t room : Int) (xs : List Due) (h0 : HpA xs) (hl0 : xs.length ≤ 10000) : FnH Tryz.prog 109 [.nils, .fn (.func 110) [] [.ptr 0 0, .ptr 1 0]]
    [(0, .blk 83 [.ptr 2 0]), (1, .blk 3 [.int .i64 t]), (2, .blk 129 [.int .i64 room, .own 5]), (5, .row 60 2 (xs.map eDue))]
    (fun v h' => v = .lst 2 ((dueU t (sortD xs)).map eDue) ∧ ∃ ys, HpA ys ∧ ys.Perm (restU t (sortD xs)) ∧ h' = [(2, .blk 129 [.int .i64 room, .own 5]), (5, .row 60 2 (ys.map eDue))]) := by
  refine fnhv Tryz.func109 (entered_of (by kernel_rfl)) rfl rfl ?_
  refine v_seq (v_w ?_)
  refine wturn (turn_own eDue (t := 0) rfl 11 60 2 (by omega) rfl) ?_
  repeat' (first | refine sA ?_ | (show O _ _ _ _ _ _ _; first | (show O _ _ _ _ (⟨_, .box _ _, _, _, _, _⟩ :: _) _ _; first | refine ao_box (id := 10) rfl rfl rfl rfl rfl rfl rfl rfl ?_)) | ((first | apply kM | apply kN); (iterate 3 (· exact rfl)); (· first | exact yab)) | refine sG ?_ | (refine sK ?_ ?_ <;> intro hc <;> (try simp only [KL, sL, reduceCtorEq] at hc) <;> (try (have hT : True := hc; clear hT hc)) <;> (try (exfalso; omega))))
  refine vThenN ?_
  refine v_mid (fun D : {D : Nat × List Due // HpA D.2 ∧ D.2.Perm (restU t (sortD xs))} => ([mark D.1.1], [(2, .ptr 10 0)], [(10, .blk 40 [.own 11]), (11, .row 60 2 ((dueU t (sortD xs)).map eDue)), (2, .blk 129 [.int .i64 room, .own 5]), (5, .row 60 2 (D.1.2.map eDue)), (20, .sem (objC D.1.1 (.deferred (some []))))])) ?_ (fun D => ?_)
  · refine v_seq (v_w ?_)
    repeat' (first | refine sA ?_ | ((first | apply kM | apply kN); (iterate 3 (· exact rfl)); (· first | exact ya)) | refine sG ?_ | (refine sK ?_ ?_ <;> intro hc <;> (try simp only [KL, sL, reduceCtorEq] at hc) <;> (try (have hT : True := hc; clear hT hc)) <;> (try (exfalso; omega))))
    refine vThenN (v_block ?_)
    refine v_le (s' := [(2, .ptr 10 0), (6, .fn (.func 110) [] [.ptr 0 0, .ptr 1 0])]) (h' := [(10, .blk 40 [.own 11]), (11, .row 60 2 (([] : List Due).map eDue)), (0, .blk 83 [.ptr 2 0]), (1, .blk 3 [.int .i64 t]), (2, .blk 129 [.int .i64 room, .own 5]), (5, .row 60 2 (xs.map eDue))]) les leh ?_
    refine v_range (ρu) (caps0 := [.ptr 0 0, .ptr 1 0]) (s0 := [(2, .ptr 3 0)]) (hin0 := [(0, .blk 83 [.ptr 2 0]), (1, .blk 3 [.int .i64 t]), (2, .blk 129 [.int .i64 room, .own 5]), (5, .row 60 2 (xs.map eDue)), (3, .blk 40 [.own 6]), (6, .row 60 2 (([] : List Due).map eDue))]) 20 21 22 (R := fun l r v h' => r.state = .ready ∧ r.pending = none ∧ v = .tup [] ∧ ∃ σ0 ys, HpA ys ∧ ys.Perm (restU t (sortD xs)) ∧ h' = setU l r σ0 t room ys (outU (dueU t (sortD xs))))
      rfl rfl rfl rfl (fun _ => rfl) (fun _ _ _ => rfl) (fun _ _ _ _ => leh) rfl rfl rfl (fun _ _ _ _ => rfl) les rfl (fun l D r σ0 pins q1 q2 q3 q4 q5 q6 q7 q8 => ?_) (fun l D r σ0 v h' hR => ?_) rfl
    · exact fnhp_mono (useq_it t room xs h0 hl0 l r σ0 pins q1 q2 (by rw [q3, q4, q5]; rfl) q6 q7 q8) fun v h' ⟨e1, ys, e2, e3, e4⟩ => ⟨q1, q2, e1, σ0, ys, e2, e3, e4⟩
    · obtain ⟨q1, q2, rfl, σ1, ys, e2, e3, rfl⟩ := hR
      refine ⟨rfl, r, rfl, by rw [q1]; simp, fun _ => ?_, fun c e => by rw [q2] at e; cases e⟩
      exact vInN (vThenN ⟨⟨(D, ys), e2, e3⟩, rfl, les, leh⟩)
  · obtain ⟨⟨D, ys⟩, e2, e3⟩ := D
    refine v_seq (v_w ?_)
    repeat' (first | refine sA ?_ | ((first | apply kM | apply kN); (iterate 3 (· exact rfl)); (· first | exact ya)) | refine sG ?_ | (refine sK ?_ ?_ <;> intro hc <;> (try simp only [KL, sL, reduceCtorEq] at hc) <;> (try (have hT : True := hc; clear hT hc)) <;> (try (exfalso; omega))))
    refine vThenN (v_w (wret ?_))
    refine retvT (fun _ => turn_freeze (t := 4) rfl rfl rfl) ?_
    exact retv1 (id := 20) rfl rfl (h0 := [(2, .blk 129 [.int .i64 room, .own 5]), (5, .row 60 2 (ys.map eDue))]) leh rfl ⟨rfl, ys, e2, e3, rfl⟩
theorem due05_fn (t room : Int) (xs : List Due) : FnH Tryz.prog 80 [.ptr 0 0, .int .i64 t] (agH 5 room xs ++ [(6, .row 3 1 (([] : List Int).map eI)), (7, .row 3 1 (([] : List Int).map eI))])
    (fun v h' => v = .fn (.func 110) [] [.ptr 6 0, .ptr 7 0] ∧ h' = agH 5 room xs ++ [(6, .blk 83 [.ptr 0 0]), (7, .blk 3 [.int .i64 t])]) := by
  refine fnhb Tryz.func80 (entered_of (by kernel_rfl)) rfl rfl ?_
  refine wle (s' := [(0, .ptr 0 0), (1, .int .i64 t)]) (h' := agH 5 room xs) les leh ?_
  repeat' (first | refine sA ?_ | (show O _ _ _ _ _ _ _; first | (show O _ _ _ _ (⟨_, .box _ _, _, _, _, _⟩ :: _) _ _; first | refine ao_box (id := 6) rfl rfl rfl rfl rfl rfl rfl rfl ?_ | refine ao_box (id := 7) rfl rfl rfl rfl rfl rfl rfl rfl ?_)) | ((first | apply kM | apply kN); (iterate 3 (· exact rfl)); (· first | exact yab)) | refine sG ?_ | (refine sK ?_ ?_ <;> intro hc <;> (try simp only [KL, sL, reduceCtorEq] at hc) <;> (try (have hT : True := hc; clear hT hc)) <;> (try (exfalso; omega))))
  exact reth (h' := agH 5 room xs ++ [(6, .blk 83 [.ptr 0 0]), (7, .blk 3 [.int .i64 t])]) rfl leh ⟨rfl, rfl⟩
theorem ucol_fn (t room : Int) (xs : List Due) (h0 : HpA xs) (hl0 : xs.length ≤ 10000) : FnH Tryz.prog 79 [.fn (.func 110) [] [.ptr 0 0, .ptr 1 0]]
    [(0, .blk 83 [.ptr 2 0]), (1, .blk 3 [.int .i64 t]), (2, .blk 129 [.int .i64 room, .own 5]), (5, .row 60 2 (xs.map eDue))]
    (fun v h' => v = .lst 2 ((dueU t (sortD xs)).map eDue) ∧ ∃ ys, HpA ys ∧ ys.Perm (restU t (sortD xs)) ∧ h' = [(2, .blk 129 [.int .i64 room, .own 5]), (5, .row 60 2 (ys.map eDue))]) := by
  refine fnhb Tryz.func79 (entered_of (by kernel_rfl)) rfl rfl ?_
  repeat' (first | refine sA ?_ | ((first | apply kM | apply kN); (iterate 3 (· exact rfl)); (· first | exact ya)) | refine sG ?_ | (refine sK ?_ ?_ <;> intro hc <;> (try simp only [KL, sL, reduceCtorEq] at hc) <;> (try (have hT : True := hc; clear hT hc)) <;> (try (exfalso; omega))))
  refine zcall (fun i => i) (useq_fn t room xs h0 hl0) rfl rfl leh rfl rfl rfl rfl rfl rfl (fun r h' hR => ?_)
  obtain ⟨rfl, ys, e2, e3, rfl⟩ := hR
  refine ⟨rfl, rfl, ?_⟩
  repeat' (first | refine sA ?_ | ((first | apply kM | apply kN); (iterate 3 (· exact rfl)); (· first | exact ya)) | refine sG ?_ | (refine sK ?_ ?_ <;> intro hc <;> (try simp only [KL, sL, reduceCtorEq] at hc) <;> (try (have hT : True := hc; clear hT hc)) <;> (try (exfalso; omega))))
  exact reth rfl leh ⟨rfl, ys, e2, e3, rfl⟩
def ρv (i : Nat) : Nat := [16, 17, 0, 13, 14, 5].getD i (i + 30)
theorem until05_fn (t room : Int) (xs : List Due) (h0 : HpA xs) (hl0 : xs.length ≤ 10000) : FnH Tryz.prog 46 [.ptr 0 0, .int .i64 t] (agH 5 room xs)
    (fun v h' => v = .lst 2 ((dueU t (sortD xs)).map eDue) ∧ ∃ ys, HpA ys ∧ ys.Perm (restU t (sortD xs)) ∧ h' = agH 5 room ys) := by
  refine fnhb Tryz.func46 (entered_of (by kernel_rfl)) rfl rfl ?_
  repeat' (first | refine sA ?_ | ((first | apply kM | apply kN); (iterate 3 (· exact rfl)); (· first | exact ya)) | refine sG ?_ | (refine sK ?_ ?_ <;> intro hc <;> (try simp only [KL, sL, reduceCtorEq] at hc) <;> (try (have hT : True := hc; clear hT hc)) <;> (try (exfalso; omega))))
  refine oturn (turn_dummy eI 16 3 1 (by omega) rfl) ?_
  refine oturn (turn_dummy eI 17 3 1 (by omega) rfl) ?_
  refine zcall (fun i => [0, 1, 2, 3, 4, 5, 16, 17].getD i (i + 30)) (due05_fn t room xs) rfl rfl leh rfl rfl rfl rfl rfl rfl (fun r h' hR => ?_)
  obtain ⟨rfl, rfl⟩ := hR
  refine ⟨rfl, rfl, ?_⟩
  repeat' (first | refine sA ?_ | ((first | apply kM | apply kN); (iterate 3 (· exact rfl)); (· first | exact ya)) | refine sG ?_ | (refine sK ?_ ?_ <;> intro hc <;> (try simp only [KL, sL, reduceCtorEq] at hc) <;> (try (have hT : True := hc; clear hT hc)) <;> (try (exfalso; omega))))
  refine zcall (fun i => ρv i) (ucol_fn t room xs h0 hl0) rfl rfl leh rfl rfl rfl rfl rfl rfl (fun r h' hR => ?_)
  obtain ⟨rfl, ys, e2, e3, rfl⟩ := hR
  refine ⟨rfl, rfl, ?_⟩
  repeat' (first | refine sA ?_ | ((first | apply kM | apply kN); (iterate 3 (· exact rfl)); (· first | exact ya)) | refine sG ?_ | (refine sK ?_ ?_ <;> intro hc <;> (try simp only [KL, sL, reduceCtorEq] at hc) <;> (try (have hT : True := hc; clear hT hc)) <;> (try (exfalso; omega))))
  exact reth (h' := agH 5 room ys) rfl leh ⟨rfl, ys, e2, e3, rfl⟩
end Go.Proofs.YtfjoaeghnfkdlaaGreatDoor
namespace Go.Proofs.YtfjoaeghnfkdlaaGreatDoor
set_option maxRecDepth 100000
open Go.RowKit Go.ChangeShapes Go.WideShapes

structure Event where
  t : Int
  kind : Int
  task : Int
  a : Int
  b : Int
instance : Inhabited Event := ⟨⟨0, 0, 0, 0, 0⟩⟩
theorem Event.ext_ {x y : Event} (h : x.t = y.t ∧ x.kind = y.kind ∧ x.task = y.task ∧ x.a = y.a ∧ x.b = y.b) : x = y := by cases x; cases y; simp_all
instance : DecidableEq Event := fun x y => decidable_of_iff (x.t = y.t ∧ x.kind = y.kind ∧ x.task = y.task ∧ x.a = y.a ∧ x.b = y.b) ⟨Event.ext_, fun h => by subst h; simp⟩
def Event.cells (x : Event) : List Value := [.int .i64 x.t, .int .i64 x.kind, .int .i64 x.task, .int .i64 x.a, .int .i64 x.b]
def Event.ok (x : Event) : Prop := (Lit.int .i64 x.t).wf = true ∧ (Lit.int .i64 x.kind).wf = true ∧ (Lit.int .i64 x.task).wf = true ∧ (Lit.int .i64 x.a).wf = true ∧ (Lit.int .i64 x.b).wf = true
def Event.cod : Cod Event := fun _ cs x => cs = x.cells ∧ x.ok
theorem Event.mono : Mono Event.cod := fun _ _ _ _ _ h => h
theorem Event.size {w : World} {cs : List Value} {x : Event} (h : Event.cod w cs x) : cs.length = 5 := by rw [h.1]; rfl
theorem Event.at {w : World} {b off : Nat} {xs : List Event} (h : Row' Event.cod 5 w b off xs) (i : Nat) (hi : i < xs.length) :
    w.cell? ⟨b, off + i * 5, none⟩ = some (.int .i64 xs[i].t) ∧ w.cell? ⟨b, off + i * 5 + 1, none⟩ = some (.int .i64 xs[i].kind) ∧ w.cell? ⟨b, off + i * 5 + 2, none⟩ = some (.int .i64 xs[i].task) ∧ w.cell? ⟨b, off + i * 5 + 3, none⟩ = some (.int .i64 xs[i].a) ∧ w.cell? ⟨b, off + i * 5 + 4, none⟩ = some (.int .i64 xs[i].b) ∧ xs[i].ok := by
  obtain ⟨cs, hx, _, hc⟩ := h i xs[i] (List.getElem?_eq_getElem hi)
  obtain ⟨rfl, hk⟩ := hx
  exact ⟨hc 0 _ rfl, hc 1 _ rfl, hc 2 _ rfl, hc 3 _ rfl, hc 4 _ rfl, hk⟩
theorem Event.run_eqIn (x y : Event) (w : World) : (Op.equalIn 10000 68 (.agg #[.int .i64 x.t, .int .i64 x.kind, .int .i64 x.task, .int .i64 x.a, .int .i64 x.b]) (.agg #[.int .i64 y.t, .int .i64 y.kind, .int .i64 y.task, .int .i64 y.a, .int .i64 y.b])).run Tryz.prog w = .ok (decide (x = y)) w := by
  have hs : Tryz.prog.stoodInHeld 68 = false := by kernel_rfl
  rw [run_equalIn_agg w 9999 68 _ _ (by simp only [Program.fieldsOf, Tryz.underlying68]) hs]
  simp only [Program.fieldsOf, Tryz.underlying68]
  simp [go_sem]
  by_cases h : x = y
  · subst h; simp
  · rw [show decide (x = y) = false from by simp [h]]
    repeat' split
    all_goals first | rfl | exact absurd (Event.ext_ ⟨by assumption, by assumption, by assumption, by assumption, by assumption⟩) h
theorem Event.run_guard (op : BinOp) (xo yo : Operand) (xs ys : Array Value) (w : World) : (eqGuard op 68 xo yo (.agg xs) (.agg ys)).run Tryz.prog w = .ok () w := run_eqGuard_agg w op 68 xo yo xs ys (by kernel_rfl)
end Go.Proofs.YtfjoaeghnfkdlaaGreatDoor
namespace Go.Proofs.YtfjoaeghnfkdlaaGreatDoor
set_option maxRecDepth 100000
open Go.RowKit
def eEvent (x : Event) : List AV := [.int .i64 x.t, .int .i64 x.kind, .int .i64 x.task, .int .i64 x.a, .int .i64 x.b]
theorem ex_Event : ∀ σ ι x vs, L2 (VR σ ι) (eEvent x) vs → vs = Event.cells x := fun σ ι x vs h => by
  obtain ⟨u0, r0, rfl, h0, h⟩ := L2.cons_inv h
  obtain ⟨u1, r1, rfl, h1, h⟩ := L2.cons_inv h
  obtain ⟨u2, r2, rfl, h2, h⟩ := L2.cons_inv h
  obtain ⟨u3, r3, rfl, h3, h⟩ := L2.cons_inv h
  obtain ⟨u4, r4, rfl, h4, h⟩ := L2.cons_inv h
  rw [L2.nil_iff] at h
  subst h
  rw [h0.int_inv.1, h1.int_inv.1, h2.int_inv.1, h3.int_inv.1, h4.int_inv.1]
  rfl
theorem eq_Event {s : Slots} {h : Heap} {o : Oper} {yt : TypeId} {X Y : Operand} {op : BinOp} {x y : Event} (ho : o.op = .binOp op 68 X Y yt) (hop : op = .eql ∨ op = .neq) (hx : evA s X = .agg (eEvent x)) (hy : evA s Y = .agg (eEvent y)) : OkO Tryz.prog o s h (.bool (if op = .eql then decide (x = y) else !decide (x = y))) :=
  ok_eqS Event.cells eEvent hop ex_Event (fun w => Event.run_eqIn x y w) (fun xs ys w => Event.run_guard op X Y xs ys w) ho hx hy
theorem neq_Event {s : Slots} {h : Heap} {o : Oper} {yt : TypeId} {X Y : Operand} {x y : Event} (ho : o.op = .binOp .neq 68 X Y yt) (hx : evA s X = .agg (eEvent x)) (hy : evA s Y = .agg (eEvent y)) : OkO Tryz.prog o s h (.bool (!decide (x = y))) := eq_Event ho (.inr rfl) hx hy
end Go.Proofs.YtfjoaeghnfkdlaaGreatDoor
namespace Go.Proofs.YtfjoaeghnfkdlaaGreatDoor
set_option maxRecDepth 100000
set_option maxRecDepth 100000
open Go.RowKit
/-! The agenda, its heap not told. -/
def agΦ (S : List Due) : List (List AV) → Prop := fun xs => ∃ l : List Due, xs = l.map eDue ∧ HpA l ∧ l.Perm S
abbrev agC (S : List Due) : Chunk := .sem (exC 60 2 (agΦ S))
abbrev agS (room : Int) (S : List Due) : Heap := [(5, agC S), (0, .blk 129 [.int .i64 room, .own 5])]
def pushL (room : Int) (S : List Due) (d : Due) : List Due := if pushE room S.length d = 0 then S ++ [d] else S
theorem pushS_fn (room : Int) (S : List Due) (d : Due) (hl : S.length ≤ 10000) : FnH Tryz.prog 39 [.ptr 0 0, .agg (eDue d)] (agS room S) (fun r h' => r = .int .i64 (pushE room S.length d) ∧ h' = agS room (pushL room S d)) := by
  refine FnH.exOpen 5 (entered_of (by kernel_rfl)) (fun xs hx => ?_) rfl
  obtain ⟨l, rfl, h1, h2⟩ := hx
  have hll := h2.length_eq
  refine FnH.exPack 5 (e := 60) (sz := 2) (FnH.mono (FnH.leIn (push05_fn room l d (by omega) h1) leh) ?_)
  rintro r h' ⟨rfl, ys, h3, h4, rfl⟩
  rw [hll] at h4 ⊢
  refine ⟨ys.map eDue, agΦ (pushL room S d), rfl, ⟨ys, rfl, h3, h4.trans ?_⟩, agS room (pushL room S d), leh, rfl, rfl⟩
  rw [pushL]
  split
  · exact h2.append_right _
  · exact h2
theorem untilS_fn (t room : Int) (S : List Due) (hl : S.length ≤ 10000) : FnH Tryz.prog 46 [.ptr 0 0, .int .i64 t] (agS room S) (fun r h' => r = .lst 2 ((dueU t (sortD S)).map eDue) ∧ h' = agS room (restU t (sortD S))) := by
  refine FnH.exOpen 5 (entered_of (by kernel_rfl)) (fun xs hx => ?_) rfl
  obtain ⟨l, rfl, h1, h2⟩ := hx
  have hll := h2.length_eq
  refine FnH.exPack 5 (e := 60) (sz := 2) (FnH.mono (FnH.leIn (until05_fn t room l h1 (by omega)) leh) ?_)
  rintro r h' ⟨rfl, ys, h3, h4, rfl⟩
  rw [sortD_congr h2] at h4 ⊢
  exact ⟨ys.map eDue, agΦ (restU t (sortD S)), rfl, ⟨ys, rfl, h3, h4⟩, agS room (restU t (sortD S)), leh, rfl, rfl⟩
/-! The kernel. -/
structure Kn where
  B : Bk
  S : List Due
  last : List (Int × Int)
  now : Int
  opn : Bool
abbrev knX (l : List Task) (room : Int) (B : Bk) (S : List Due) (last : List (Int × Int)) (now : Int) (opn : Bool) : Heap :=
  [(0, .blk 87 [.lst 7 (l.map eTask), .lst 1 ((l.map Task.prio).map eI), .ptr 1 0, .ptr 4 0, .own 8, .int .i64 now, .bool opn]),
   (1, .blk 127 [.lst 7 (l.map eTask), .own 5, .own 2, .own 3, .int .u64 B.act, .own 6]), (5, .row 71 8 (B.all.map eJob)), (2, mI B.now), (3, mI B.cnt), (6, .row 60 2 (B.overs.map eDue)),
   (4, .blk 129 [.int .i64 room, .own 7]), (7, agC S), (8, mI last)]
abbrev knH (l : List Task) (room : Int) (K : Kn) : Heap := knX l room K.B K.S K.last K.now K.opn
abbrev evZ (i : Nat) : Nat × Chunk := (i, .blk 68 [.int .i64 0, .int .i64 0, .int .i64 0, .int .i64 0, .int .i64 0])
theorem event_fn (l : List Task) (room : Int) (K : Kn) (kind i a b : Int) : FnH Tryz.prog 45 [.ptr 0 0, .int .i64 kind, .int .i64 i, .int .i64 a, .int .i64 b] (knH l room K) (fun r h' => r = .agg (eEvent ⟨K.now, kind, i, a, b⟩) ∧ h' = knH l room K) := by
  refine FnH.drop' (fnhb Tryz.func45 (entered_of (by kernel_rfl)) rfl rfl ?_)
  repeat' (first | refine sA ?_ | (show O _ _ _ _ _ _ _; first | refine ao_alloc (id := 10) rfl rfl rfl rfl rfl rfl rfl ?_) | ((first | apply kM | apply kN); (iterate 3 (· exact rfl)); (· first | exact ya)) | refine sG ?_ | (refine sK ?_ ?_ <;> intro hc <;> (try simp only [KL, sL, reduceCtorEq] at hc) <;> (try (have hT : True := hc; clear hT hc)) <;> (try (exfalso; omega))))
  exact retq rfl ⟨knH l room K, leh, rfl, rfl⟩
def ρL (i : Nat) : Nat := if i = 0 then 1 else i
def ρK (i : Nat) : Nat := i
def ρA (i : Nat) : Nat := if i = 0 then 4 else if i = 5 then 7 else i + 10
def nwR (k : Nat) (ids : List Nat) (i : Nat) : List Nat := if i = k then ids else []
def letE (l : List Task) (K : Kn) (i : Int) : Event := if relOk l K.B i then ⟨K.now, 1, i, noB K.B i, 0⟩ else ⟨K.now, 3, i, 0, 0⟩
def letK (l : List Task) (K : Kn) (i : Int) : Kn := { K with B := relBk l K.B i K.now }
def letH (l : List Task) (room : Int) (K : Kn) (B : Bk) (f : Bool) : Heap := evZ 10 :: knX l room B K.S K.last K.now K.opn
set_option maxHeartbeats 4000000 in
theorem let_fn (l : List Task) (room : Int) (K : Kn) (n : Nat) (h : GoodB l n K.B) (hn : n ≤ 100000) (i : Int) : FnH Tryz.prog 47 [.ptr 0 0, .int .i64 i] (knH l room K) (fun r h' => r = .agg (eEvent (letE l K i)) ∧ h' = knH l room (letK l K i)) := by
  refine FnH.drop' (fnhb Tryz.func47 (entered_of (by kernel_rfl)) rfl rfl ?_)
  have c := relJ_fn l K.B n h hn i K.now
  cases hok : relOk l K.B i
  case true =>
    rw [hok] at c
    rw [letE, hok, if_pos rfl]
    rw [if_pos rfl] at c
    repeat' (first | refine sB ?_ | (show O _ _ _ _ _ _ _; first | refine ao_alloc (id := 10) rfl rfl rfl rfl rfl rfl rfl ?_) | ((first | apply kM | apply kN); (iterate 3 (· exact rfl)); (· first | exact ya)) | refine sG ?_ | (refine sK ?_ ?_ <;> intro hc <;> (try simp only [KL, sL, reduceCtorEq] at hc) <;> (try (have hT : True := hc; clear hT hc)) <;> (try (exfalso; omega))))
    refine wle (s' := [(0, .ptr 0 0), (1, .int .i64 i), (4, .ptr 10 0)]) (h' := letH l room K K.B false) les (show LeH _ (evZ 10 :: knH l room K) from leh) ?_
    refine wdrawQ (letH l room K) (fun _ => True) (fun _ => True) [9] [] 0 99 (nwR 9 [5, 6]) K.B (LeH.refl _) (by kernel_rfl) (by kernel_rfl) (by kernel_rfl) trivial trivial rfl rfl rfl rfl ?_
    refine qw_new (v := .ptr 0 0) rfl rfl (by kernel_rfl) (fun y hy => tn_ok ya) ?_
    repeat' (first | refine sA ?_ | ((first | apply kM | apply kN); (iterate 3 (· exact rfl)); (· first | exact ya)) | (show QW _ _ _ _ _ _ _ _ _ _ _ _ _ _ _; first | refine qw_nil ?_ | (apply qw_any; (· exact rfl); (· exact rfl); (· exact rfl); (· intro y' f' hy'; first | exact ya); (· first | exact rfl | kernel_rfl))) | refine sG ?_ | (refine sK ?_ ?_ <;> intro hc <;> (try simp only [KL, sL, reduceCtorEq] at hc) <;> (try (have hT : True := hc; clear hT hc)) <;> (try (exfalso; omega))))
    refine qw_tu (x' := relBk l K.B i K.now) rfl rfl rfl trivial trivial (fun f hf => tl_call ρL c rfl (show LeH (evZ 10 :: knH l room K) _ from leh) rfl rfl rfl rfl rfl rfl rfl rfl (show LeH _ (evZ 10 :: knH l room (letK l K i)) from leh)) (by kernel_rfl) ?_
    repeat' (first | refine sA ?_ | ((first | apply kM | apply kN); (iterate 3 (· exact rfl)); (· first | exact ya)) | (show QW _ _ _ _ _ _ _ _ _ _ _ _ _ _ _; first | refine qw_nil ?_ | (apply qw_any; (· exact rfl); (· exact rfl); (· exact rfl); (· intro y' f' hy'; first | exact ya); (· first | exact rfl | kernel_rfl))) | refine sG ?_ | (refine sK ?_ ?_ <;> intro hc <;> (try simp only [KL, sL, reduceCtorEq] at hc) <;> (try (have hT : True := hc; clear hT hc)) <;> (try (exfalso; omega))))
    refine ole (h' := evZ 10 :: knH l room (letK l K i)) (LeS.refl _) (LeH.refl _) ?_
    refine zcall (fun i => ρK i) (event_fn l room (letK l K i) 1 i (noB K.B i) 0) rfl rfl leh rfl rfl rfl rfl rfl rfl (fun r h' hR => ?_)
    obtain ⟨rfl, rfl⟩ := hR
    refine ⟨rfl, rfl, ?_⟩
    repeat' (first | refine sA ?_ | ((first | apply kM | apply kN); (iterate 3 (· exact rfl)); (· first | exact ya)) | refine sG ?_ | (refine sK ?_ ?_ <;> intro hc <;> (try simp only [KL, sL, reduceCtorEq] at hc) <;> (try (have hT : True := hc; clear hT hc)) <;> (try (exfalso; omega))))
    exact retq rfl ⟨knH l room (letK l K i), leh, rfl, rfl⟩
  case false =>
    rw [hok] at c
    rw [letE, hok, if_neg (by decide)]
    rw [if_neg (by decide)] at c
    repeat' (first | refine sB ?_ | (show O _ _ _ _ _ _ _; first | refine ao_alloc (id := 10) rfl rfl rfl rfl rfl rfl rfl ?_) | ((first | apply kM | apply kN); (iterate 3 (· exact rfl)); (· first | exact ya)) | refine sG ?_ | (refine sK ?_ ?_ <;> intro hc <;> (try simp only [KL, sL, reduceCtorEq] at hc) <;> (try (have hT : True := hc; clear hT hc)) <;> (try (exfalso; omega))))
    refine wle (s' := [(0, .ptr 0 0), (1, .int .i64 i), (4, .ptr 10 0)]) (h' := letH l room K K.B false) les (show LeH _ (evZ 10 :: knH l room K) from leh) ?_
    refine wdrawQ (letH l room K) (fun _ => True) (fun _ => True) [9] [] 0 99 (nwR 9 [5, 6]) K.B (LeH.refl _) (by kernel_rfl) (by kernel_rfl) (by kernel_rfl) trivial trivial rfl rfl rfl rfl ?_
    refine qw_new (v := .ptr 0 0) rfl rfl (by kernel_rfl) (fun y hy => tn_ok ya) ?_
    repeat' (first | refine sA ?_ | ((first | apply kM | apply kN); (iterate 3 (· exact rfl)); (· first | exact ya)) | (show QW _ _ _ _ _ _ _ _ _ _ _ _ _ _ _; first | refine qw_nil ?_ | (apply qw_any; (· exact rfl); (· exact rfl); (· exact rfl); (· intro y' f' hy'; first | exact ya); (· first | exact rfl | kernel_rfl))) | refine sG ?_ | (refine sK ?_ ?_ <;> intro hc <;> (try simp only [KL, sL, reduceCtorEq] at hc) <;> (try (have hT : True := hc; clear hT hc)) <;> (try (exfalso; omega))))
    refine qw_tu (x' := relBk l K.B i K.now) rfl rfl rfl trivial trivial (fun f hf => tl_call ρL c rfl (show LeH (evZ 10 :: knH l room K) _ from leh) rfl rfl rfl rfl rfl rfl rfl rfl (show LeH _ (evZ 10 :: knH l room (letK l K i)) from leh)) (by kernel_rfl) ?_
    repeat' (first | refine sA ?_ | ((first | apply kM | apply kN); (iterate 3 (· exact rfl)); (· first | exact ya)) | (show QW _ _ _ _ _ _ _ _ _ _ _ _ _ _ _; first | refine qw_nil ?_ | (apply qw_any; (· exact rfl); (· exact rfl); (· exact rfl); (· intro y' f' hy'; first | exact ya); (· first | exact rfl | kernel_rfl))) | refine sG ?_ | (refine sK ?_ ?_ <;> intro hc <;> (try simp only [KL, sL, reduceCtorEq] at hc) <;> (try (have hT : True := hc; clear hT hc)) <;> (try (exfalso; omega))))
    refine ole (h' := evZ 10 :: knH l room (letK l K i)) (LeS.refl _) (LeH.refl _) ?_
    refine zcall (fun i => ρK i) (event_fn l room (letK l K i) 3 i 0 0) rfl rfl leh rfl rfl rfl rfl rfl rfl (fun r h' hR => ?_)
    obtain ⟨rfl, rfl⟩ := hR
    refine ⟨rfl, rfl, ?_⟩
    repeat' (first | refine sA ?_ | ((first | apply kM | apply kN); (iterate 3 (· exact rfl)); (· first | exact ya)) | refine sG ?_ | (refine sK ?_ ?_ <;> intro hc <;> (try simp only [KL, sL, reduceCtorEq] at hc) <;> (try (have hT : True := hc; clear hT hc)) <;> (try (exfalso; omega))))
    exact retq rfl ⟨knH l room (letK l K i), leh, rfl, rfl⟩
def passQ (l : List Task) (K : Kn) (i : Int) : Bool := decide (0 ≤ i ∧ i < l.length) && decide ((l.getD i.toNat default).kind = 2) && match getM K.last i with
  | none => true
  | some v => !decide (K.now - v < (l.getD i.toNat default).period)
def passK (l : List Task) (K : Kn) (i : Int) : Kn := { K with last := if passQ l K i then setM K.last i K.now else K.last }
set_option maxHeartbeats 4000000 in
theorem passes_fn (l : List Task) (room : Int) (K : Kn) (hl : l.length ≤ 1000000) (hn : 0 ≤ K.now ∧ K.now ≤ 2000000) (i : Int) (hL : ∀ v, getM K.last i = some v → 0 ≤ v ∧ v ≤ K.now) : FnH Tryz.prog 48 [.ptr 0 0, .int .i64 i] (knH l room K) (fun r h' => r = .bool (passQ l K i) ∧ h' = knH l room (passK l K i)) := by
  refine FnH.drop' (fnhb Tryz.func48 (entered_of (by kernel_rfl)) rfl rfl ?_)
  have e0 : passQ l K i = false → knH l room (passK l K i) = knH l room K := fun e => by rw [passK, e]; rfl
  by_cases h0 : 0 ≤ i ∧ i < l.length
  case neg =>
    have e : passQ l K i = false := by rw [passQ, decide_eq_false h0]; rfl
    rw [e0 e, e]
    repeat' (first | refine sA ?_ | ((first | apply kM | apply kN); (iterate 3 (· exact rfl)); (· first | exact ya)) | refine sG ?_ | (refine sK ?_ ?_ <;> intro hc <;> (try simp only [KL, sL, reduceCtorEq] at hc) <;> (try (have hT : True := hc; clear hT hc)) <;> (try (exfalso; omega))))
    all_goals first | (exfalso; omega) | exact retq rfl ⟨knH l room K, leh, rfl, rfl⟩
  by_cases hk : (l.getD i.toNat default).kind = 2
  case neg =>
    have e : passQ l K i = false := by rw [passQ, decide_eq_false hk, Bool.and_false]; rfl
    rw [e0 e, e]
    repeat' (first | refine sA ?_ | ((first | apply kM | apply kN); (iterate 3 (· exact rfl)); (· first | (show Y _ ⟨_, .indexAddr _ _ _, _, _, _, _⟩ _ _ _; first | exact q_ioE (i.toNat) rfl rfl rfl rfl rfl rfl (by omega) (by omega)) | exact ya)) | refine sG ?_ | (refine sK ?_ ?_ <;> intro hc <;> (try simp only [KL, sL, reduceCtorEq] at hc) <;> (try (have hT : True := hc; clear hT hc)) <;> (try (exfalso; omega))))
    all_goals first | (exfalso; omega) | exact retq rfl ⟨knH l room K, leh, rfl, rfl⟩
  cases hg : getM K.last i with
  | none =>
    have e : passQ l K i = true := by rw [passQ, decide_eq_true h0, decide_eq_true hk, hg]; rfl
    rw [passK, e, if_pos rfl]
    repeat' (first | refine sB ?_ | ((first | apply kM | apply kN); (iterate 3 (· exact rfl)); (· first | (show Y _ ⟨_, .indexAddr _ _ _, _, _, _, _⟩ _ _ _; first | exact q_ioE (i.toNat) rfl rfl rfl rfl rfl rfl (by omega) (by omega)) | exact ya | exact Y.mk (ok_lookup (cm := true) (.int .i64 0) false rfl rfl rfl rfl rfl z_int (.inl ⟨hg, rfl, rfl⟩)))) | refine sG ?_ | (refine sK ?_ ?_ <;> intro hc <;> (try simp only [KL, sL, reduceCtorEq] at hc) <;> (try (have hT : True := hc; clear hT hc)) <;> (try (exfalso; omega))))
    all_goals first | (exfalso; omega) | skip
    refine kI (by kernel_rfl) (by kernel_rfl) ?_
    repeat' (first | refine sB ?_ | ((first | apply kM | apply kN); (iterate 3 (· exact rfl)); (· first | (show Y _ ⟨_, .indexAddr _ _ _, _, _, _, _⟩ _ _ _; first | exact q_ioE (i.toNat) rfl rfl rfl rfl rfl rfl (by omega) (by omega)) | exact ya)) | refine sG ?_ | (refine sK ?_ ?_ <;> intro hc <;> (try simp only [KL, sL, reduceCtorEq] at hc) <;> (try (have hT : True := hc; clear hT hc)) <;> (try (exfalso; omega))))
    all_goals first | (exfalso; omega) | skip
    refine wdrawC (H := fun y : List (Int × Int) => knX l room K.B K.S y K.now K.opn) (ok := fun _ => True) (tn := [9]) (ln := []) K.last leh (by kernel_rfl) (by kernel_rfl) (by kernel_rfl) trivial ?_
    repeat' (first | refine sA ?_ | ((first | apply kM | apply kN); (iterate 3 (· exact rfl)); (· first | exact ya)) | (show C _ _ _ _ _ _ _ _ _ _ _; first | refine cnil ?_ | (apply c_any; (· exact rfl); (· exact rfl); (· intro y' hy'; first | exact ya)) | (apply c_ld; (· exact rfl); (· exact rfl); (· exact rfl); (· first | exact ya)) | refine c_grdN rfl rfl rfl ?_) | refine sG ?_ | ((first | refine kQ rfl rfl ?_ ?_ | refine kR rfl rfl rfl rfl rfl ?_ ?_ | refine kS rfl rfl rfl ?_ ?_ | refine c_grd rfl rfl rfl ?_ ?_) <;> intro hc <;> (try simp only [KL, sL, reduceCtorEq] at hc) <;> (try (have hT : True := hc; clear hT hc)) <;> (try (exfalso; omega))))
    refine c_tu (x' := setM K.last i K.now) rfl rfl trivial (TuO.post (tu_st (sto_map K.now rfl rfl rfl rfl rfl rfl rfl) rfl) leh) ?_
    repeat' (first | refine sA ?_ | ((first | apply kM | apply kN); (iterate 3 (· exact rfl)); (· first | exact ya)) | (show C _ _ _ _ _ _ _ _ _ _ _; first | refine cnil ?_ | (apply c_any; (· exact rfl); (· exact rfl); (· intro y' hy'; first | exact ya)) | (apply c_ld; (· exact rfl); (· exact rfl); (· exact rfl); (· first | exact ya)) | refine c_grdN rfl rfl rfl ?_) | refine sG ?_ | ((first | refine kQ rfl rfl ?_ ?_ | refine kR rfl rfl rfl rfl rfl ?_ ?_ | refine kS rfl rfl rfl ?_ ?_ | refine c_grd rfl rfl rfl ?_ ?_) <;> intro hc <;> (try simp only [KL, sL, reduceCtorEq] at hc) <;> (try (have hT : True := hc; clear hT hc)) <;> (try (exfalso; omega))))
    exact retq rfl ⟨knX l room K.B K.S (setM K.last i K.now) K.now K.opn, leh, rfl, rfl⟩
  | some v =>
    have hv := hL v hg
    by_cases hp : K.now - v < (l.getD i.toNat default).period
    case pos =>
      have e : passQ l K i = false := by rw [passQ, decide_eq_true h0, decide_eq_true hk, hg]; simp only [decide_eq_true hp]; rfl
      rw [e0 e, e]
      repeat' (first | refine sA ?_ | ((first | apply kM | apply kN); (iterate 3 (· exact rfl)); (· first | (show Y _ ⟨_, .indexAddr _ _ _, _, _, _, _⟩ _ _ _; first | exact q_ioE (i.toNat) rfl rfl rfl rfl rfl rfl (by omega) (by omega)) | exact ya | exact Y.mk (ok_lookup (cm := true) (.int .i64 v) true rfl rfl rfl rfl rfl z_int (.inr ⟨v, hg, rfl, rfl⟩)))) | refine sG ?_ | (refine sK ?_ ?_ <;> intro hc <;> (try simp only [KL, sL, reduceCtorEq] at hc) <;> (try (have hT : True := hc; clear hT hc)) <;> (try (exfalso; omega))))
      all_goals first | (exfalso; omega) | exact retq rfl ⟨knH l room K, leh, rfl, rfl⟩ | skip
    have e : passQ l K i = true := by rw [passQ, decide_eq_true h0, decide_eq_true hk, hg]; simp only [decide_eq_false hp]; rfl
    rw [passK, e, if_pos rfl]
    repeat' (first | refine sB ?_ | ((first | apply kM | apply kN); (iterate 3 (· exact rfl)); (· first | (show Y _ ⟨_, .indexAddr _ _ _, _, _, _, _⟩ _ _ _; first | exact q_ioE (i.toNat) rfl rfl rfl rfl rfl rfl (by omega) (by omega)) | exact ya | exact Y.mk (ok_lookup (cm := true) (.int .i64 v) true rfl rfl rfl rfl rfl z_int (.inr ⟨v, hg, rfl, rfl⟩)))) | refine sG ?_ | (refine sK ?_ ?_ <;> intro hc <;> (try simp only [KL, sL, reduceCtorEq] at hc) <;> (try (have hT : True := hc; clear hT hc)) <;> (try (exfalso; omega))))
    all_goals first | (exfalso; omega) | skip
    refine kI (by kernel_rfl) (by kernel_rfl) ?_
    repeat' (first | refine sB ?_ | ((first | apply kM | apply kN); (iterate 3 (· exact rfl)); (· first | (show Y _ ⟨_, .indexAddr _ _ _, _, _, _, _⟩ _ _ _; first | exact q_ioE (i.toNat) rfl rfl rfl rfl rfl rfl (by omega) (by omega)) | exact ya)) | refine sG ?_ | (refine sK ?_ ?_ <;> intro hc <;> (try simp only [KL, sL, reduceCtorEq] at hc) <;> (try (have hT : True := hc; clear hT hc)) <;> (try (exfalso; omega))))
    all_goals first | (exfalso; omega) | skip
    refine wdrawC (H := fun y : List (Int × Int) => knX l room K.B K.S y K.now K.opn) (ok := fun _ => True) (tn := [9]) (ln := []) K.last leh (by kernel_rfl) (by kernel_rfl) (by kernel_rfl) trivial ?_
    repeat' (first | refine sA ?_ | ((first | apply kM | apply kN); (iterate 3 (· exact rfl)); (· first | exact ya)) | (show C _ _ _ _ _ _ _ _ _ _ _; first | refine cnil ?_ | (apply c_any; (· exact rfl); (· exact rfl); (· intro y' hy'; first | exact ya)) | (apply c_ld; (· exact rfl); (· exact rfl); (· exact rfl); (· first | exact ya)) | refine c_grdN rfl rfl rfl ?_) | refine sG ?_ | ((first | refine kQ rfl rfl ?_ ?_ | refine kR rfl rfl rfl rfl rfl ?_ ?_ | refine kS rfl rfl rfl ?_ ?_ | refine c_grd rfl rfl rfl ?_ ?_) <;> intro hc <;> (try simp only [KL, sL, reduceCtorEq] at hc) <;> (try (have hT : True := hc; clear hT hc)) <;> (try (exfalso; omega))))
    refine c_tu (x' := setM K.last i K.now) rfl rfl trivial (TuO.post (tu_st (sto_map K.now rfl rfl rfl rfl rfl rfl rfl) rfl) leh) ?_
    repeat' (first | refine sA ?_ | ((first | apply kM | apply kN); (iterate 3 (· exact rfl)); (· first | exact ya)) | (show C _ _ _ _ _ _ _ _ _ _ _; first | refine cnil ?_ | (apply c_any; (· exact rfl); (· exact rfl); (· intro y' hy'; first | exact ya)) | (apply c_ld; (· exact rfl); (· exact rfl); (· exact rfl); (· first | exact ya)) | refine c_grdN rfl rfl rfl ?_) | refine sG ?_ | ((first | refine kQ rfl rfl ?_ ?_ | refine kR rfl rfl rfl rfl rfl ?_ ?_ | refine kS rfl rfl rfl ?_ ?_ | refine c_grd rfl rfl rfl ?_ ?_) <;> intro hc <;> (try simp only [KL, sL, reduceCtorEq] at hc) <;> (try (have hT : True := hc; clear hT hc)) <;> (try (exfalso; omega))))
    exact retq rfl ⟨knX l room K.B K.S (setM K.last i K.now) K.now K.opn, leh, rfl, rfl⟩
end Go.Proofs.YtfjoaeghnfkdlaaGreatDoor
