/- Law 29: the kernel's runs. No condition. -/
import Derived.Test.YtfjoaeghnfkdlaaGreatDoorC24
import Derived.Test.YtfjoaeghnfkdlaaGreatDoorC25
import Derived.Test.YtfjoaeghnfkdlaaGreatDoorC12
import Derived.Test.YtfjoaeghnfkdlaaGreatDoorC13
import Derived.Test.YtfjoaeghnfkdlaaGreatDoorC8
set_option linter.unusedSimpArgs false
set_option linter.unusedVariables false
set_option maxHeartbeats 1000000
namespace Go.Proofs.YtfjoaeghnfkdlaaGreatDoor
set_option maxRecDepth 100000
set_option maxRecDepth 100000
open Go.RowKit
theorem pl_Events (xs ys : List Event) : Fn Tryz.prog 17 [.lst 5 (xs.map eEvent), .lst 5 (ys.map eEvent)] (.bool (decide (xs = ys))) := by
  refine fnb Tryz.func17 (entered_of (by kernel_rfl)) rfl rfl rfl ?_
  repeat' (first | refine sA ?_ | ((first | apply kM | apply kN); (iterate 3 (· exact rfl)); (· first | exact ya | exact Y.mk (neq_Event rfl rfl rfl))) | refine sG ?_ | (refine sK ?_ ?_ <;> intro hc <;> (try simp only [KL, sL, reduceCtorEq] at hc) <;> (try (have hT : True := hc; clear hT hc)) <;> (try (exfalso; omega))))
  · exact retq rfl (congrArg AV.bool (decide_eq_false fun e => hc (by rw [e])).symm)
  · refine wloop (fun k : Nat => ([(0, .lst 5 (xs.map eEvent)), (1, .lst 5 (ys.map eEvent)), (12, .int .i64 xs.length), (13, .int .i64 k)], [])) (fun k => k ≤ xs.length ∧ ∀ j, j < k → xs[j]? = ys[j]?) (fun k => xs.length - k) 0 ⟨by omega, fun j hj => by omega⟩ les leh (fun k hk => ?_)
    obtain ⟨hk, he⟩ := hk
    refine wrange 12 rfl (fun hr => ?_)
    simp only [rangeP] at hr
    have hl : xs.length = ys.length := by omega
    repeat' (first | refine sA ?_ | ((first | apply kM | apply kN); (iterate 3 (· exact rfl)); (· first | exact ya | exact Y.mk (neq_Event rfl rfl rfl))) | refine sG ?_ | (refine sK ?_ ?_ <;> intro hc <;> (try simp only [KL, sL, reduceCtorEq] at hc) <;> (try (have hT : True := hc; clear hT hc)) <;> (try (exfalso; omega))))
    · exact retq rfl (congrArg AV.bool (decide_eq_false fun e => hc (by rw [e])).symm)
    · exact ⟨k + 1, ⟨by omega, get_next hc (by omega) (by omega) he⟩, by omega, les, leh⟩
    · exact retq rfl (congrArg AV.bool (decide_eq_true (parts_eq hl fun j hj => he j (by omega))).symm)
theorem FnT.le {P : Program} {kn : Know} {f : FuncId} {args args' : List AV} {r : AV} (hf : FnT P kn f args' r) (h : L2 LeV args args') : FnT P kn f args r :=
  ⟨hf.1, fun σ ι w vs hk hsub hv => hf.2 σ ι w vs hk hsub ⟨by rw [← h.1, hv.1], fun j c v hc hv2 => by
    have hj : j < args.length := by rw [h.1]; exact (List.getElem?_eq_some_iff.1 hc).1
    exact h.2 j _ c (List.getElem?_eq_getElem hj) hc σ ι v (hv.2 j _ v (List.getElem?_eq_getElem hj) hv2)⟩⟩
def tk29a : Task := ⟨1, 0, 4, 0, 4, 1, []⟩
def tk29b : Task := ⟨1, 1, 4, 0, 4, 1, []⟩
def evs29 : List Event := [⟨0, 1, 0, 0, 0⟩, ⟨0, 1, 1, 0, 0⟩, ⟨0, 5, 1, 0, 0⟩, ⟨1, 5, 1, 0, 1⟩, ⟨1, 7, 1, 0, 2⟩, ⟨2, 5, 0, 0, 0⟩, ⟨3, 5, 0, 0, 1⟩, ⟨3, 7, 0, 0, 4⟩]
theorem run29_eq : (runP [tk29a, tk29b] [] [[2], [2]] 4).2 = evs29 := by decide +kernel
def stp (es : List Event) : List Int := (es.filter fun e => decide (e.kind = 5)).map Event.task
theorem stp_next (es : List Event) {k : Nat} (h : k < es.length) : stp (es.take (k + 1)) = stp (es.take k) ++ (if (es.getD k default).kind = 5 then [(es.getD k default).task] else []) := by
  have e : es.getD k default = es[k] := by simp [h]
  unfold stp
  rw [List.take_succ_eq_append_getElem h, List.filter_append, List.map_append, ← e]
  congr 1
  by_cases hk : (es.getD k default).kind = 5
  · rw [if_pos hk, List.filter_cons, if_pos (by simpa using hk)]; rfl
  · rw [if_neg hk, List.filter_cons, if_neg (by simpa using hk)]; rfl
theorem stp_len (es : List Event) (k : Nat) : (stp (es.take k)).length ≤ k := by
  unfold stp; rw [List.length_map]
  exact Nat.le_trans (List.length_filter_le _ _) (by rw [List.length_take]; omega)
set_option maxHeartbeats 4000000 in
theorem awake29_fn : FnT Tryz.prog tabK 7 [] (.bool true) := by
  refine fntw Tryz.func7 (entered_of (by kernel_rfl)) rfl rfl rfl rfl ?_
  have c1 : FnT Tryz.prog tabK 26 [.lst 7 ([tk29a, tk29b].map eTask), .nils, .lst 1 (([[2], [2]] : List (List Int)).map eLI), .int .i64 4] (.tup [.lst 5 (evs29.map eEvent), .int .i64 0]) := by
    have h := run_fn [tk29a, tk29b] [] [[2], [2]] 4 (by decide) (by decide) (by decide)
    rw [show (4 : Int).toNat = 4 from rfl, run29_eq] at h
    exact h.le (by repeat' (first | exact L2.nil _ | refine L2.cons ?_ ?_ | exact LeV.of_eq rfl | exact LeV.nils _ | refine LeV.agg ?_))
  have c2 := pl_Ints [1, 1, 0, 0] [1, 1, 0, 0]
  rw [show decide (([1, 1, 0, 0] : List Int) = [1, 1, 0, 0]) = true from rfl] at c2
  repeat' (first | refine sA ?_ | ((first | apply kM | apply kN); (iterate 3 (· exact rfl)); (· first | exact ya)) | refine sG ?_ | (refine sK ?_ ?_ <;> intro hc <;> (try simp only [KL, sL, reduceCtorEq] at hc) <;> (try (have hT : True := hc; clear hT hc)) <;> (try (exfalso; omega))))
  refine ole (s' := [(11, .lst 7 ([tk29a, tk29b].map eTask)), (14, .lst 1 (([[2], [2]] : List (List Int)).map eLI))]) (LeS.cons (lelst (ys := [tk29a, tk29b].map eTask)) (LeS.cons (LeV.of_eq rfl) (LeS.nil _))) (LeH.refl _) ?_
  repeat' (first | refine sA ?_ | ((first | apply kM | apply kN); (iterate 3 (· exact rfl)); (· first | exact ya | exact Y.mk (ok_callT (id := 9) c1 rfl rfl))) | refine sG ?_ | (refine sK ?_ ?_ <;> intro hc <;> (try simp only [KL, sL, reduceCtorEq] at hc) <;> (try (have hT : True := hc; clear hT hc)) <;> (try (exfalso; omega))))
  refine wle (s' := [(3, .int .i64 0), (4, .nils), (18, .lst 5 (evs29.map eEvent)), (19, .int .i64 evs29.length), (20, .int .i64 0)]) (h' := []) les (LeH.nil _) ?_
  refine wturn (turn_own eI (t := 4) rfl 20 3 1 (by omega) rfl) ?_
  refine wloop (fun k : Nat => ([(3, .int .i64 0), (4, .own 20), (18, .lst 5 (evs29.map eEvent)), (19, .int .i64 evs29.length), (20, .int .i64 k)], [(20, .row 3 1 ((stp (evs29.take k)).map eI))])) (fun k => k ≤ evs29.length) (fun k => evs29.length - k) 0 (Nat.zero_le _) les leh (fun k hk => ?_)
  have hlen : evs29.length = 8 := rfl
  rcases Nat.lt_or_eq_of_le hk with hkk | hkk
  · have hnx := stp_next evs29 hkk
    have hsl := stp_len evs29 k
    generalize stp (evs29.take k) = xs at hnx hsl ⊢
    generalize evs29 = es at *
    by_cases h5 : (es.getD k default).kind = 5
    · rw [if_pos h5] at hnx
      repeat' (first | refine sA ?_ | (show O _ _ _ _ _ _ _; first | refine ao_alloc (id := 12) rfl rfl rfl rfl rfl rfl rfl ?_) | ((first | apply kM | apply kN); (iterate 3 (· exact rfl)); (· first | exact ya)) | refine sG ?_ | (refine sK ?_ ?_ <;> intro hc <;> (try simp only [KL, sL, reduceCtorEq] at hc) <;> (try (have hT : True := hc; clear hT hc)) <;> (try (exfalso; omega))))
      all_goals first | (exfalso; omega) | skip
      (refine ao_ap (id := 20) (ys := [(es.getD k default).task]) (by_ := 8) rfl rfl rfl rfl rfl rfl rfl rfl rfl rfl (fun _ _ => rfl) ?_ ?_ rfl rfl rfl rfl rfl ?_; (· (first | omega | ((try simp only [List.length_cons, List.length_nil, List.length_append, List.length_map]) <;> omega))); (· (first | omega | ((try simp only [List.length_cons, List.length_nil, List.length_append, List.length_map]) <;> omega))))
      repeat' (first | refine sA ?_ | ((first | apply kM | apply kN); (iterate 3 (· exact rfl)); (· first | exact ya)) | refine sG ?_ | (refine sK ?_ ?_ <;> intro hc <;> (try simp only [KL, sL, reduceCtorEq] at hc) <;> (try (have hT : True := hc; clear hT hc)) <;> (try (exfalso; omega))))
      exact ⟨k + 1, by omega, by omega, les, by simp only [hnx]; exact leh⟩
    · rw [if_neg h5, List.append_nil] at hnx
      repeat' (first | refine sA ?_ | (show O _ _ _ _ _ _ _; first | refine ao_alloc (id := 12) rfl rfl rfl rfl rfl rfl rfl ?_) | ((first | apply kM | apply kN); (iterate 3 (· exact rfl)); (· first | exact ya)) | refine sG ?_ | (refine sK ?_ ?_ <;> intro hc <;> (try simp only [KL, sL, reduceCtorEq] at hc) <;> (try (have hT : True := hc; clear hT hc)) <;> (try (exfalso; omega))))
      all_goals first | (exfalso; omega) | skip
      exact ⟨k + 1, by omega, by omega, les, by simp only [hnx]; exact leh⟩
  subst hkk
  rw [List.take_length, show stp evs29 = [1, 1, 0, 0] from rfl]
  repeat' (first | refine sA ?_ | ((first | apply kM | apply kN); (iterate 3 (· exact rfl)); (· first | exact ya)) | refine sG ?_ | (refine sK ?_ ?_ <;> intro hc <;> (try simp only [KL, sL, reduceCtorEq] at hc) <;> (try (have hT : True := hc; clear hT hc)) <;> (try (exfalso; omega))))
  all_goals first | (exfalso; omega) | skip
  refine oturn (turn_freeze (t := 36) (id := 20) rfl rfl rfl) ?_
  repeat' (first | refine sA ?_ | ((first | apply kM | apply kN); (iterate 3 (· exact rfl)); (· first | exact ya | exact q_c (c2) rfl)) | refine sG ?_ | (refine sK ?_ ?_ <;> intro hc <;> (try simp only [KL, sL, reduceCtorEq] at hc) <;> (try (have hT : True := hc; clear hT hc)) <;> (try (exfalso; omega))))
  all_goals first | (exfalso; omega) | exact retq rfl rfl
end Go.Proofs.YtfjoaeghnfkdlaaGreatDoor
namespace Go.Proofs.YtfjoaeghnfkdlaaGreatDoor
set_option linter.unusedSimpArgs false
set_option linter.unusedVariables false
set_option maxRecDepth 100000
set_option linter.unusedSimpArgs false
set_option linter.unusedVariables false
set_option maxRecDepth 100000
open Go.RowKit
def ρX (i : Nat) : Nat := if i < 9 then i + 100 else i + 20
def ρY (i : Nat) : Nat := if i = 9 then 9 else i + 120
abbrev knQ (l : List Task) (room : Int) (B : Bk) (S : List Due) (last : List (Int × Int)) (now : Int) (opn : Bool) : Heap :=
  [(120, .blk 87 [.lst 7 (l.map eTask), .lst 1 ((l.map Task.prio).map eI), .ptr 121 0, .ptr 124 0, .own 128, .int .i64 now, .bool opn]),
   (121, .blk 127 [.lst 7 (l.map eTask), .own 125, .own 122, .own 123, .int .u64 B.act, .own 126]), (125, .row 71 8 (B.all.map eJob)), (122, mI B.now), (123, mI B.cnt), (126, .row 60 2 (B.overs.map eDue)),
   (124, .blk 129 [.int .i64 room, .own 127]), (127, agC S), (128, mI last)]
set_option maxHeartbeats 1600000 in
theorem kernelClones_1 (l : List Task) (asks : List Due) (dm : List (List Int)) (ticks at_ : Int) (hli : lightB l asks dm ticks = false) : FnT Tryz.prog tabK 4 [.agg [.lst 7 (l.map eTask), .lst 2 (asks.map eDue), .lst 1 (dm.map eLI), .int .i64 ticks], .int .u8 at_] (.bool true) := by
  refine fntw Tryz.func4 (entered_of (by kernel_rfl)) rfl rfl rfl rfl ?_
  have c1 := light29_fn l asks dm ticks
  have c2 := awake29_fn
  rw [hli] at c1
  repeat' (first | (show W _ _ _ _ _ _; first | apply kA | refine kB rfl ?_ | refine kC rfl rfl ?_ | refine kD rfl rfl ?_ | apply kE | apply kF | apply kG | apply kH | refine kI (by kernel_rfl) (by kernel_rfl) ?_) | (show O _ _ _ _ _ _ _; first | (show O _ _ _ _ (⟨_, .store _ _ _, _, _, _, _⟩ :: _) _ _; refine kJ rfl rfl rfl rfl rfl rfl rfl rfl rfl rfl rfl ?_) | apply kK) | apply kL | ((first | apply kM | apply kN); (iterate 3 (· exact rfl)); (· first | (show Y _ ⟨_, .call ⟨.value _, _, _⟩, _, _, _, _⟩ _ _ _; first | exact q_c (c1) rfl) | exact ya | exact Y.mk (ok_callT (id := 9) c2 rfl rfl))) | refine kO rfl rfl rfl rfl rfl ?_ | refine kP rfl rfl rfl ?_ | ((first | refine kQ rfl rfl ?_ ?_ | refine kR rfl rfl rfl rfl rfl ?_ ?_ | refine kS rfl rfl rfl ?_ ?_) <;> intro hc <;> (try simp only [KL, cond_true, cond_false, beq_iff_eq, bne_iff_ne, ne_eq, reduceCtorEq] at hc) <;> (try (have hT : True := hc; clear hT hc)) <;> (try (exfalso; omega))) | apply kT | apply kU | apply kV | apply kW | refine kX rfl ?_ | apply kY | apply kZ)
  all_goals first | (exfalso; omega) | exact retq rfl rfl
set_option maxHeartbeats 1600000 in
theorem kernelClones_2 (l : List Task) (asks : List Due) (dm : List (List Int)) (ticks at_ : Int) (hli : lightB l asks dm ticks = true) (hl : l.length ≤ 20) (hok : okK l = false) : FnT Tryz.prog tabK 4 [.agg [.lst 7 (l.map eTask), .lst 2 (asks.map eDue), .lst 1 (dm.map eLI), .int .i64 ticks], .int .u8 at_] (.bool true) := by
  refine fntw Tryz.func4 (entered_of (by kernel_rfl)) rfl rfl rfl rfl ?_
  have c1 := light29_fn l asks dm ticks
  have c2 := awake29_fn
  rw [hli] at c1
  have c4 := new29r_fn l (by omega)
  have c4 := c4.mono (R' := fun r h' => r = .nilp ∧ h' = []) fun r h hr => hr.2 hok
  repeat' (first | (show W _ _ _ _ _ _; first | apply kA | refine kB rfl ?_ | refine kC rfl rfl ?_ | refine kD rfl rfl ?_ | apply kE | apply kF | apply kG | apply kH | refine kI (by kernel_rfl) (by kernel_rfl) ?_) | (show O _ _ _ _ _ _ _; first | (show O _ _ _ _ (⟨_, .store _ _ _, _, _, _, _⟩ :: _) _ _; refine kJ rfl rfl rfl rfl rfl rfl rfl rfl rfl rfl rfl ?_) | apply kK) | apply kL | ((first | apply kM | apply kN); (iterate 3 (· exact rfl)); (· first | (show Y _ ⟨_, .call ⟨.value _, _, _⟩, _, _, _, _⟩ _ _ _; first | exact q_c (c1) rfl) | exact ya | exact Y.mk (ok_callT (id := 9) c2 rfl rfl))) | refine kO rfl rfl rfl rfl rfl ?_ | refine kP rfl rfl rfl ?_ | ((first | refine kQ rfl rfl ?_ ?_ | refine kR rfl rfl rfl rfl rfl ?_ ?_ | refine kS rfl rfl rfl ?_ ?_) <;> intro hc <;> (try simp only [KL, cond_true, cond_false, beq_iff_eq, bne_iff_ne, ne_eq, reduceCtorEq] at hc) <;> (try (have hT : True := hc; clear hT hc)) <;> (try (exfalso; omega))) | apply kT | apply kU | apply kV | apply kW | refine kX rfl ?_ | apply kY | apply kZ)
  all_goals first | (exfalso; omega) | skip
  refine oturn (turn_dummy eI 118 3 1 (by omega) rfl) ?_
  refine oturn (turn_dummy eI 116 3 1 (by omega) rfl) ?_
  refine oturn (turn_dummy eI 115 3 1 (by omega) rfl) ?_
  refine oturn (turn_dummy eI 111 3 1 (by omega) rfl) ?_
  refine oturn (turn_dummy eI 110 3 1 (by omega) rfl) ?_
  refine zcall (fun i => ρK i) (c4) rfl rfl leh (by kernel_rfl) (by kernel_rfl) (by kernel_rfl) (by kernel_rfl) rfl rfl (fun r h' hR => ?_)
  obtain ⟨rfl, rfl⟩ := hR
  refine ⟨rfl, rfl, ?_⟩
  refine ole (h' := [tab9]) (LeS.refl _) leh ?_
  repeat' (first | (show W _ _ _ _ _ _; first | apply kA | refine kB rfl ?_ | refine kC rfl rfl ?_ | refine kD rfl rfl ?_ | apply kE | apply kF | apply kG | apply kH | refine kI (by kernel_rfl) (by kernel_rfl) ?_) | (show O _ _ _ _ _ _ _; first | (show O _ _ _ _ (⟨_, .store _ _ _, _, _, _, _⟩ :: _) _ _; refine kJ rfl rfl rfl rfl rfl rfl rfl rfl rfl rfl rfl ?_) | apply kK) | apply kL | ((first | apply kM | apply kN); (iterate 3 (· exact rfl)); (· first | (show Y _ ⟨_, .call ⟨.value _, _, _⟩, _, _, _, _⟩ _ _ _; first | exact q_c (c1) rfl) | exact ya | exact Y.mk (ok_callT (id := 9) c2 rfl rfl))) | refine kO rfl rfl rfl rfl rfl ?_ | refine kP rfl rfl rfl ?_ | ((first | refine kQ rfl rfl ?_ ?_ | refine kR rfl rfl rfl rfl rfl ?_ ?_ | refine kS rfl rfl rfl ?_ ?_) <;> intro hc <;> (try simp only [KL, cond_true, cond_false, beq_iff_eq, bne_iff_ne, ne_eq, reduceCtorEq] at hc) <;> (try (have hT : True := hc; clear hT hc)) <;> (try (exfalso; omega))) | apply kT | apply kU | apply kV | apply kW | refine kX rfl ?_ | apply kY | apply kZ)
  all_goals first | (exfalso; omega) | exact retq rfl rfl
set_option maxHeartbeats 1600000 in
theorem kernelClones_3 (l : List Task) (asks : List Due) (dm : List (List Int)) (ticks at_ : Int) (h0 : 0 ≤ at_) (h1 : at_ ≤ 255) (hli : lightB l asks dm ticks = true) (ha : asks.length ≤ 200) (hl : l.length ≤ 20) (hok : okK l = true) : FnT Tryz.prog tabK 4 [.agg [.lst 7 (l.map eTask), .lst 2 (asks.map eDue), .lst 1 (dm.map eLI), .int .i64 ticks], .int .u8 at_] (.bool true) := by
  refine fntw Tryz.func4 (entered_of (by kernel_rfl)) rfl rfl rfl rfl ?_
  have c1 := light29_fn l asks dm ticks
  have c2 := awake29_fn
  rw [hli] at c1
  have c3 := new29_fn l hok
  have c4 := new29r_fn l (by omega)
  have c4 := c4.mono (R' := fun r h' => r = .ptr 110 0 ∧ h' = rkO l newB (foN (List.replicate l.length [])) 0 false) fun r h hr => hr.1 hok
  have hl8 : l.length ≤ 8 := by rw [okK, Bool.and_eq_true, decide_eq_true_eq] at hok; omega
  obtain ⟨T, hT⟩ : ∃ T : Nat, at_ % 100 = T := ⟨(at_ % 100).toNat, by omega⟩
  have hT1 : T ≤ 99 := by omega
  have k0 := KI.new hok
  have o0 : (newK l).opn = false := rfl
  have n0 : (newK l).now ≤ 0 := Int.le_refl _
  generalize newK l = K0 at c3 k0 o0 n0
  have g1 := go1_fn l asks dm ticks K0 0 0 hok ha k0 n0 o0 T (by omega) (by omega) (by omega)
  have i1 := go_inv hok ha k0 n0 o0 T (by omega)
  generalize goP l asks K0 T = p1 at g1 i1
  obtain ⟨K1, e1⟩ := p1
  obtain ⟨k1, n1, o1, s1⟩ := i1
  simp only at g1 k1 n1 o1 s1
  have g2 := cloneK_fn l K1 hl8 (by have := k1.good.alen; omega) (by have := k1.good.olen; omega) k1.slen (fun d hd => by have := k1.due d hd; omega)
  have g3 := go1_fn l asks dm ticks K1 (0 + 250 * T) 99 hok ha k1 (by omega) o1 100 (by omega) (by omega) (by omega)
  have i2 := go_inv hok ha k1 (show K1.now ≤ 99 by omega) o1 100 (by omega)
  generalize goP l asks K1 100 = p2 at g3 i2
  obtain ⟨K2, e2⟩ := p2
  obtain ⟨k2, n2, o2, s2⟩ := i2
  simp only at g3 k2 n2 o2 s2
  have f6 := jobsK_fn l l.length K2 (by have := k2.good.alen; omega)
  have f7 := oversK_fn l l.length K2 (by have := k2.good.olen; omega)
  have c7 := pl_Events e2 e2
  rw [decide_eq_true rfl] at c7
  have c8 := pl_Jobs K2.B.all K2.B.all
  rw [decide_eq_true rfl] at c8
  have c9 := pl_Dues K2.B.overs K2.B.overs
  rw [decide_eq_true rfl] at c9
  clear k0 o0 n0 k1 n1 o1 s1 k2 n2 o2 s2
  obtain ⟨B0, S0, last0, now0, opn0⟩ := K0
  obtain ⟨B1, S1, last1, now1, opn1⟩ := K1
  obtain ⟨B2, S2, last2, now2, opn2⟩ := K2
  simp only at c8 c9 f6 f7
  repeat' (first | (show W _ _ _ _ _ _; first | apply kA | refine kB rfl ?_ | refine kC rfl rfl ?_ | refine kD rfl rfl ?_ | apply kE | apply kF | apply kG | apply kH | refine kI (by kernel_rfl) (by kernel_rfl) ?_) | (show O _ _ _ _ _ _ _; first | (show O _ _ _ _ (⟨_, .store _ _ _, _, _, _, _⟩ :: _) _ _; refine kJ rfl rfl rfl rfl rfl rfl rfl rfl rfl rfl rfl ?_) | apply kK) | apply kL | ((first | apply kM | apply kN); (iterate 3 (· exact rfl)); (· first | (show Y _ ⟨_, .call ⟨.value _, _, _⟩, _, _, _, _⟩ _ _ _; first | exact q_c (c1) rfl) | exact ya | exact Y.mk (ok_callT (id := 9) c2 rfl rfl))) | refine kO rfl rfl rfl rfl rfl ?_ | refine kP rfl rfl rfl ?_ | ((first | refine kQ rfl rfl ?_ ?_ | refine kR rfl rfl rfl rfl rfl ?_ ?_ | refine kS rfl rfl rfl ?_ ?_) <;> intro hc <;> (try simp only [KL, cond_true, cond_false, beq_iff_eq, bne_iff_ne, ne_eq, reduceCtorEq] at hc) <;> (try (have hT : True := hc; clear hT hc)) <;> (try (exfalso; omega))) | apply kT | apply kU | apply kV | apply kW | refine kX rfl ?_ | apply kY | apply kZ)
  all_goals first | (exfalso; omega) | skip
  refine oturn (turn_dummy eI 118 3 1 (by omega) rfl) ?_
  refine oturn (turn_dummy eI 116 3 1 (by omega) rfl) ?_
  refine oturn (turn_dummy eI 115 3 1 (by omega) rfl) ?_
  refine oturn (turn_dummy eI 111 3 1 (by omega) rfl) ?_
  refine oturn (turn_dummy eI 110 3 1 (by omega) rfl) ?_
  refine zcall (fun i => ρK i) (c4) rfl rfl leh (by kernel_rfl) (by kernel_rfl) (by kernel_rfl) (by kernel_rfl) rfl rfl (fun r h' hR => ?_)
  obtain ⟨rfl, rfl⟩ := hR
  refine ⟨rfl, rfl, ?_⟩
  refine ole (s' := [(1, .int .u8 at_), (2, csR l asks dm ticks), (13, .bool false), (16, .ptr 110 0)]) (h' := [tab9]) (LeS.cons (LeV.of_eq (by kernel_rfl)) (LeS.cons (LeV.of_eq (by kernel_rfl)) (LeS.cons (LeV.of_eq (by kernel_rfl)) (LeS.cons (LeV.of_eq (by kernel_rfl)) (LeS.nil _))))) leh ?_
  repeat' (first | (show W _ _ _ _ _ _; first | apply kA | refine kB rfl ?_ | refine kC rfl rfl ?_ | refine kD rfl rfl ?_ | apply kE | apply kF | apply kG | apply kH | refine kI (by kernel_rfl) (by kernel_rfl) ?_) | (show O _ _ _ _ _ _ _; first | (show O _ _ _ _ (⟨_, .store _ _ _, _, _, _, _⟩ :: _) _ _; refine kJ rfl rfl rfl rfl rfl rfl rfl rfl rfl rfl rfl ?_) | apply kK) | apply kL | ((first | apply kM | apply kN); (iterate 3 (· exact rfl)); (· first | (show Y _ ⟨_, .call ⟨.value _, _, _⟩, _, _, _, _⟩ _ _ _; first | exact q_c (c1) rfl) | exact ya)) | refine kO rfl rfl rfl rfl rfl ?_ | refine kP rfl rfl rfl ?_ | ((first | refine kQ rfl rfl ?_ ?_ | refine kR rfl rfl rfl rfl rfl ?_ ?_ | refine kS rfl rfl rfl ?_ ?_) <;> intro hc <;> (try simp only [KL, cond_true, cond_false, beq_iff_eq, bne_iff_ne, ne_eq, reduceCtorEq] at hc) <;> (try (have hT : True := hc; clear hT hc)) <;> (try (exfalso; omega))) | apply kT | apply kU | apply kV | apply kW | refine kX rfl ?_ | apply kY | apply kZ)
  all_goals first | (exfalso; omega) | skip
  refine oturn (turn_dummy eI 108 3 1 (by omega) rfl) ?_
  refine oturn (turn_dummy eI 107 3 1 (by omega) rfl) ?_
  refine oturn (turn_dummy eI 106 3 1 (by omega) rfl) ?_
  refine oturn (turn_dummy eI 105 3 1 (by omega) rfl) ?_
  refine oturn (turn_dummy eI 104 3 1 (by omega) rfl) ?_
  refine oturn (turn_dummy eI 103 3 1 (by omega) rfl) ?_
  refine oturn (turn_dummy eI 102 3 1 (by omega) rfl) ?_
  refine oturn (turn_dummy eI 101 3 1 (by omega) rfl) ?_
  refine oturn (turn_dummy eI 100 3 1 (by omega) rfl) ?_
  refine zcall (fun i => ρK i) (c3) rfl rfl leh (by kernel_rfl) (by kernel_rfl) (by kernel_rfl) (by kernel_rfl) rfl rfl (fun r h' hR => ?_)
  obtain ⟨rfl, rfl⟩ := hR
  refine ⟨rfl, rfl, ?_⟩
  refine ole (s' := [(1, .int .u8 at_), (2, csR l asks dm ticks), (23, .tup [.ptr 100 0, .int .i64 0])]) (h' := knY l l.length B0 S0 last0 now0 opn0 ++ [tab9]) (LeS.cons (LeV.of_eq (by kernel_rfl)) (LeS.cons (LeV.of_eq (by kernel_rfl)) (LeS.cons (LeV.of_eq (by kernel_rfl)) (LeS.nil _)))) (LeH_ke (by kernel_rfl)) ?_
  repeat' (first | (show W _ _ _ _ _ _; first | apply kA | refine kB rfl ?_ | refine kC rfl rfl ?_ | refine kD rfl rfl ?_ | apply kE | apply kF | apply kG | apply kH | refine kI (by kernel_rfl) (by kernel_rfl) ?_) | (show O _ _ _ _ _ _ _; first | (show O _ _ _ _ (⟨_, .store _ _ _, _, _, _, _⟩ :: _) _ _; refine kJ rfl rfl rfl rfl rfl rfl rfl rfl rfl rfl rfl ?_) | apply kK) | apply kL | ((first | apply kM | apply kN); (iterate 3 (· exact rfl)); (· first | exact ya)) | refine kO rfl rfl rfl rfl rfl ?_ | refine kP rfl rfl rfl ?_ | ((first | refine kQ rfl rfl ?_ ?_ | refine kR rfl rfl rfl rfl rfl ?_ ?_ | refine kS rfl rfl rfl ?_ ?_) <;> intro hc <;> (try simp only [KL, cond_true, cond_false, beq_iff_eq, bne_iff_ne, ne_eq, reduceCtorEq] at hc) <;> (try (have hT : True := hc; clear hT hc)) <;> (try (exfalso; omega))) | apply kT | apply kU | apply kV | apply kW | refine kX rfl ?_ | apply kY | apply kZ)
  all_goals first | (exfalso; omega) | skip
  refine ole (s' := [(5, .ptr 100 0), (7, .fn (.func 24) [] [csR l asks dm ticks]), (29, .fn (.func 24) [] [csR l asks dm ticks]), (30, .ptr 100 0), (33, .int .i64 T)]) (h' := tab9 :: knY l l.length B0 S0 last0 now0 opn0) (by rw [hT]; exact les) leh ?_
  refine zcall (fun i => ρR i) (g1) rfl rfl leh (by kernel_rfl) (by kernel_rfl) (by kernel_rfl) (by kernel_rfl) rfl rfl (fun r h' hR => ?_)
  obtain ⟨rfl, rfl⟩ := hR
  refine ⟨rfl, rfl, ?_⟩
  refine ole (s' := [(5, .ptr 100 0), (7, .fn (.func 24) [] [csR l asks dm ticks])]) (h' := tab9 :: knY l l.length B1 S1 last1 now1 opn1) (LeS.cons (LeV.of_eq (by kernel_rfl)) (LeS.cons (LeV.of_eq (by kernel_rfl)) (LeS.nil _))) (LeH_ke (by kernel_rfl)) ?_
  repeat' (first | (show W _ _ _ _ _ _; first | apply kA | refine kB rfl ?_ | refine kC rfl rfl ?_ | refine kD rfl rfl ?_ | apply kE | apply kF | apply kG | apply kH | refine kI (by kernel_rfl) (by kernel_rfl) ?_) | (show O _ _ _ _ _ _ _; first | (show O _ _ _ _ (⟨_, .store _ _ _, _, _, _, _⟩ :: _) _ _; refine kJ rfl rfl rfl rfl rfl rfl rfl rfl rfl rfl rfl ?_) | apply kK) | apply kL | ((first | apply kM | apply kN); (iterate 3 (· exact rfl)); (· first | exact ya)) | refine kO rfl rfl rfl rfl rfl ?_ | refine kP rfl rfl rfl ?_ | ((first | refine kQ rfl rfl ?_ ?_ | refine kR rfl rfl rfl rfl rfl ?_ ?_ | refine kS rfl rfl rfl ?_ ?_) <;> intro hc <;> (try simp only [KL, cond_true, cond_false, beq_iff_eq, bne_iff_ne, ne_eq, reduceCtorEq] at hc) <;> (try (have hT : True := hc; clear hT hc)) <;> (try (exfalso; omega))) | apply kT | apply kU | apply kV | apply kW | refine kX rfl ?_ | apply kY | apply kZ)
  refine ole (s' := [(5, .ptr 100 0), (7, .fn (.func 24) [] [csR l asks dm ticks]), (35, .ptr 100 0)]) (h' := tab9 :: knY l l.length B1 S1 last1 now1 opn1) les (LeH.refl _) ?_
  refine oturn (turn_dummy eI 128 3 1 (by omega) (by kernel_rfl)) ?_
  refine oturn (turn_dummy eI 127 3 1 (by omega) (by kernel_rfl)) ?_
  refine oturn (turn_dummy eI 126 3 1 (by omega) (by kernel_rfl)) ?_
  refine oturn (turn_dummy eI 125 3 1 (by omega) (by kernel_rfl)) ?_
  refine oturn (turn_dummy eI 124 3 1 (by omega) (by kernel_rfl)) ?_
  refine oturn (turn_dummy eI 123 3 1 (by omega) (by kernel_rfl)) ?_
  refine oturn (turn_dummy eI 122 3 1 (by omega) (by kernel_rfl)) ?_
  refine oturn (turn_dummy eI 121 3 1 (by omega) (by kernel_rfl)) ?_
  refine oturn (turn_dummy eI 120 3 1 (by omega) (by kernel_rfl)) ?_
  refine zcall (fun i => ρX i) (g2) rfl rfl leh (by kernel_rfl) (by kernel_rfl) (by kernel_rfl) (by kernel_rfl) rfl rfl (fun r h' hR => ?_)
  obtain ⟨rfl, rfl⟩ := hR
  refine ⟨rfl, rfl, ?_⟩
  refine ole (s' := [(5, .ptr 100 0), (7, .fn (.func 24) [] [csR l asks dm ticks]), (36, .ptr 120 0)]) (h' := knY l l.length B1 S1 last1 now1 opn1 ++ (knQ l l.length B1 S1 last1 now1 opn1 ++ [tab9])) (LeS.cons (LeV.of_eq (by kernel_rfl)) (LeS.cons (LeV.of_eq (by kernel_rfl)) (LeS.cons (LeV.of_eq (by kernel_rfl)) (LeS.nil _)))) (LeH_ke (by kernel_rfl)) ?_
  repeat' (first | (show W _ _ _ _ _ _; first | apply kA | refine kB rfl ?_ | refine kC rfl rfl ?_ | refine kD rfl rfl ?_ | apply kE | apply kF | apply kG | apply kH | refine kI (by kernel_rfl) (by kernel_rfl) ?_) | (show O _ _ _ _ _ _ _; first | (show O _ _ _ _ (⟨_, .store _ _ _, _, _, _, _⟩ :: _) _ _; refine kJ rfl rfl rfl rfl rfl rfl rfl rfl rfl rfl rfl ?_) | apply kK) | apply kL | ((first | apply kM | apply kN); (iterate 3 (· exact rfl)); (· first | exact ya)) | refine kO rfl rfl rfl rfl rfl ?_ | refine kP rfl rfl rfl ?_ | ((first | refine kQ rfl rfl ?_ ?_ | refine kR rfl rfl rfl rfl rfl ?_ ?_ | refine kS rfl rfl rfl ?_ ?_) <;> intro hc <;> (try simp only [KL, cond_true, cond_false, beq_iff_eq, bne_iff_ne, ne_eq, reduceCtorEq] at hc) <;> (try (have hT : True := hc; clear hT hc)) <;> (try (exfalso; omega))) | apply kT | apply kU | apply kV | apply kW | refine kX rfl ?_ | apply kY | apply kZ)
  refine ole (s' := [(5, .ptr 100 0), (7, .fn (.func 24) [] [csR l asks dm ticks]), (8, .ptr 120 0), (37, .fn (.func 24) [] [csR l asks dm ticks]), (38, .ptr 120 0)]) (h' := tab9 :: (knQ l l.length B1 S1 last1 now1 opn1 ++ knY l l.length B1 S1 last1 now1 opn1)) les (show LeH _ (tab9 :: (knQ l l.length B1 S1 last1 now1 opn1 ++ knY l l.length B1 S1 last1 now1 opn1)) from leh) ?_
  refine zcall (fun i => ρY i) (g3) rfl rfl leh (by kernel_rfl) (by kernel_rfl) (by kernel_rfl) (by kernel_rfl) rfl rfl (fun r h' hR => ?_)
  obtain ⟨rfl, rfl⟩ := hR
  refine ⟨rfl, rfl, ?_⟩
  refine ole (s' := [(5, .ptr 100 0), (7, .fn (.func 24) [] [csR l asks dm ticks]), (8, .ptr 120 0), (39, .lst 5 (e2.map eEvent))]) (h' := tab9 :: (knQ l l.length B2 S2 last2 now2 opn2 ++ knY l l.length B1 S1 last1 now1 opn1)) (LeS.cons (LeV.of_eq (by kernel_rfl)) (LeS.cons (LeV.of_eq (by kernel_rfl)) (LeS.cons (LeV.of_eq (by kernel_rfl)) (LeS.cons (LeV.of_eq (by kernel_rfl)) (LeS.nil _))))) (LeH_ke (by kernel_rfl)) ?_
  repeat' (first | (show W _ _ _ _ _ _; first | apply kA | refine kB rfl ?_ | refine kC rfl rfl ?_ | refine kD rfl rfl ?_ | apply kE | apply kF | apply kG | apply kH | refine kI (by kernel_rfl) (by kernel_rfl) ?_) | (show O _ _ _ _ _ _ _; first | (show O _ _ _ _ (⟨_, .store _ _ _, _, _, _, _⟩ :: _) _ _; refine kJ rfl rfl rfl rfl rfl rfl rfl rfl rfl rfl rfl ?_) | apply kK) | apply kL | ((first | apply kM | apply kN); (iterate 3 (· exact rfl)); (· first | exact ya)) | refine kO rfl rfl rfl rfl rfl ?_ | refine kP rfl rfl rfl ?_ | ((first | refine kQ rfl rfl ?_ ?_ | refine kR rfl rfl rfl rfl rfl ?_ ?_ | refine kS rfl rfl rfl ?_ ?_) <;> intro hc <;> (try simp only [KL, cond_true, cond_false, beq_iff_eq, bne_iff_ne, ne_eq, reduceCtorEq] at hc) <;> (try (have hT : True := hc; clear hT hc)) <;> (try (exfalso; omega))) | apply kT | apply kU | apply kV | apply kW | refine kX rfl ?_ | apply kY | apply kZ)
  refine ole (s' := [(5, .ptr 100 0), (8, .ptr 120 0), (40, .lst 5 (e2.map eEvent)), (41, .fn (.func 24) [] [csR l asks dm ticks]), (42, .ptr 100 0)]) (h' := tab9 :: (knQ l l.length B2 S2 last2 now2 opn2 ++ knY l l.length B1 S1 last1 now1 opn1)) les (LeH.refl _) ?_
  refine zcall (fun i => ρR i) (g3) rfl rfl leh (by kernel_rfl) (by kernel_rfl) (by kernel_rfl) (by kernel_rfl) rfl rfl (fun r h' hR => ?_)
  obtain ⟨rfl, rfl⟩ := hR
  refine ⟨rfl, rfl, ?_⟩
  refine ole (s' := [(5, .ptr 100 0), (8, .ptr 120 0), (40, .lst 5 (e2.map eEvent)), (43, .lst 5 (e2.map eEvent))]) (h' := tab9 :: (knY l l.length B2 S2 last2 now2 opn2 ++ knQ l l.length B2 S2 last2 now2 opn2)) (LeS.cons (LeV.of_eq (by kernel_rfl)) (LeS.cons (LeV.of_eq (by kernel_rfl)) (LeS.cons (LeV.of_eq (by kernel_rfl)) (LeS.cons (LeV.of_eq (by kernel_rfl)) (LeS.nil _))))) (LeH_ke (by kernel_rfl)) ?_
  repeat' (first | (show W _ _ _ _ _ _; first | apply kA | refine kB rfl ?_ | refine kC rfl rfl ?_ | refine kD rfl rfl ?_ | apply kE | apply kF | apply kG | apply kH | refine kI (by kernel_rfl) (by kernel_rfl) ?_) | (show O _ _ _ _ _ _ _; first | (show O _ _ _ _ (⟨_, .store _ _ _, _, _, _, _⟩ :: _) _ _; refine kJ rfl rfl rfl rfl rfl rfl rfl rfl rfl rfl rfl ?_) | apply kK) | apply kL | ((first | apply kM | apply kN); (iterate 3 (· exact rfl)); (· first | (show Y _ ⟨_, .call ⟨.value _, _, _⟩, _, _, _, _⟩ _ _ _; first | exact q_c (c7) rfl) | exact ya)) | refine kO rfl rfl rfl rfl rfl ?_ | refine kP rfl rfl rfl ?_ | ((first | refine kQ rfl rfl ?_ ?_ | refine kR rfl rfl rfl rfl rfl ?_ ?_ | refine kS rfl rfl rfl ?_ ?_) <;> intro hc <;> (try simp only [KL, cond_true, cond_false, beq_iff_eq, bne_iff_ne, ne_eq, reduceCtorEq] at hc) <;> (try (have hT : True := hc; clear hT hc)) <;> (try (exfalso; omega))) | apply kT | apply kU | apply kV | apply kW | refine kX rfl ?_ | apply kY | apply kZ)
  refine ole (s' := [(5, .ptr 100 0), (8, .ptr 120 0), (45, .bool true), (46, .ptr 120 0)]) (h' := tab9 :: (knY l l.length B2 S2 last2 now2 opn2 ++ knQ l l.length B2 S2 last2 now2 opn2)) les (LeH.refl _) ?_
  refine zcall (fun i => ρY i) (f6) rfl rfl leh (by kernel_rfl) (by kernel_rfl) (by kernel_rfl) (by kernel_rfl) rfl rfl (fun r h' hR => ?_)
  obtain ⟨rfl, rfl⟩ := hR
  refine ⟨rfl, rfl, ?_⟩
  refine ole (s' := [(5, .ptr 100 0), (8, .ptr 120 0), (45, .bool true), (47, .lst 8 (B2.all.map eJob))]) (h' := knQ l l.length B2 S2 last2 now2 opn2 ++ (tab9 :: knY l l.length B2 S2 last2 now2 opn2)) (LeS.cons (LeV.of_eq (by kernel_rfl)) (LeS.cons (LeV.of_eq (by kernel_rfl)) (LeS.cons (LeV.of_eq (by kernel_rfl)) (LeS.cons (LeV.of_eq (by kernel_rfl)) (LeS.nil _))))) (LeH_ke (by kernel_rfl)) ?_
  repeat' (first | (show W _ _ _ _ _ _; first | apply kA | refine kB rfl ?_ | refine kC rfl rfl ?_ | refine kD rfl rfl ?_ | apply kE | apply kF | apply kG | apply kH | refine kI (by kernel_rfl) (by kernel_rfl) ?_) | (show O _ _ _ _ _ _ _; first | (show O _ _ _ _ (⟨_, .store _ _ _, _, _, _, _⟩ :: _) _ _; refine kJ rfl rfl rfl rfl rfl rfl rfl rfl rfl rfl rfl ?_) | apply kK) | apply kL | ((first | apply kM | apply kN); (iterate 3 (· exact rfl)); (· first | exact ya)) | refine kO rfl rfl rfl rfl rfl ?_ | refine kP rfl rfl rfl ?_ | ((first | refine kQ rfl rfl ?_ ?_ | refine kR rfl rfl rfl rfl rfl ?_ ?_ | refine kS rfl rfl rfl ?_ ?_) <;> intro hc <;> (try simp only [KL, cond_true, cond_false, beq_iff_eq, bne_iff_ne, ne_eq, reduceCtorEq] at hc) <;> (try (have hT : True := hc; clear hT hc)) <;> (try (exfalso; omega))) | apply kT | apply kU | apply kV | apply kW | refine kX rfl ?_ | apply kY | apply kZ)
  refine ole (s' := [(5, .ptr 100 0), (8, .ptr 120 0), (45, .bool true), (47, .lst 8 (B2.all.map eJob)), (48, .ptr 100 0)]) (h' := knQ l l.length B2 S2 last2 now2 opn2 ++ (tab9 :: knY l l.length B2 S2 last2 now2 opn2)) les (LeH.refl _) ?_
  refine zcall (fun i => ρR i) (f6) rfl rfl leh (by kernel_rfl) (by kernel_rfl) (by kernel_rfl) (by kernel_rfl) rfl rfl (fun r h' hR => ?_)
  obtain ⟨rfl, rfl⟩ := hR
  refine ⟨rfl, rfl, ?_⟩
  refine ole (s' := [(5, .ptr 100 0), (8, .ptr 120 0), (45, .bool true), (47, .lst 8 (B2.all.map eJob)), (49, .lst 8 (B2.all.map eJob))]) (h' := knY l l.length B2 S2 last2 now2 opn2 ++ (knQ l l.length B2 S2 last2 now2 opn2 ++ [tab9])) (LeS.cons (LeV.of_eq (by kernel_rfl)) (LeS.cons (LeV.of_eq (by kernel_rfl)) (LeS.cons (LeV.of_eq (by kernel_rfl)) (LeS.cons (LeV.of_eq (by kernel_rfl)) (LeS.cons (LeV.of_eq (by kernel_rfl)) (LeS.nil _)))))) (LeH_ke (by kernel_rfl)) ?_
  repeat' (first | (show W _ _ _ _ _ _; first | apply kA | refine kB rfl ?_ | refine kC rfl rfl ?_ | refine kD rfl rfl ?_ | apply kE | apply kF | apply kG | apply kH | refine kI (by kernel_rfl) (by kernel_rfl) ?_) | (show O _ _ _ _ _ _ _; first | (show O _ _ _ _ (⟨_, .store _ _ _, _, _, _, _⟩ :: _) _ _; refine kJ rfl rfl rfl rfl rfl rfl rfl rfl rfl rfl rfl ?_) | apply kK) | apply kL | ((first | apply kM | apply kN); (iterate 3 (· exact rfl)); (· first | (show Y _ ⟨_, .call ⟨.value _, _, _⟩, _, _, _, _⟩ _ _ _; first | exact q_c (c8) rfl) | exact ya)) | refine kO rfl rfl rfl rfl rfl ?_ | refine kP rfl rfl rfl ?_ | ((first | refine kQ rfl rfl ?_ ?_ | refine kR rfl rfl rfl rfl rfl ?_ ?_ | refine kS rfl rfl rfl ?_ ?_) <;> intro hc <;> (try simp only [KL, cond_true, cond_false, beq_iff_eq, bne_iff_ne, ne_eq, reduceCtorEq] at hc) <;> (try (have hT : True := hc; clear hT hc)) <;> (try (exfalso; omega))) | apply kT | apply kU | apply kV | apply kW | refine kX rfl ?_ | apply kY | apply kZ)
  refine ole (s' := [(5, .ptr 100 0), (8, .ptr 120 0), (52, .bool true), (53, .ptr 120 0)]) (h' := knY l l.length B2 S2 last2 now2 opn2 ++ (knQ l l.length B2 S2 last2 now2 opn2 ++ [tab9])) les (LeH.refl _) ?_
  refine zcall (fun i => ρY i) (f7) rfl rfl leh (by kernel_rfl) (by kernel_rfl) (by kernel_rfl) (by kernel_rfl) rfl rfl (fun r h' hR => ?_)
  obtain ⟨rfl, rfl⟩ := hR
  refine ⟨rfl, rfl, ?_⟩
  refine ole (s' := [(5, .ptr 100 0), (8, .ptr 120 0), (52, .bool true), (54, .lst 2 (B2.overs.map eDue))]) (h' := knQ l l.length B2 S2 last2 now2 opn2 ++ (knY l l.length B2 S2 last2 now2 opn2 ++ [tab9])) (LeS.cons (LeV.of_eq (by kernel_rfl)) (LeS.cons (LeV.of_eq (by kernel_rfl)) (LeS.cons (LeV.of_eq (by kernel_rfl)) (LeS.cons (LeV.of_eq (by kernel_rfl)) (LeS.nil _))))) (LeH_ke (by kernel_rfl)) ?_
  repeat' (first | (show W _ _ _ _ _ _; first | apply kA | refine kB rfl ?_ | refine kC rfl rfl ?_ | refine kD rfl rfl ?_ | apply kE | apply kF | apply kG | apply kH | refine kI (by kernel_rfl) (by kernel_rfl) ?_) | (show O _ _ _ _ _ _ _; first | (show O _ _ _ _ (⟨_, .store _ _ _, _, _, _, _⟩ :: _) _ _; refine kJ rfl rfl rfl rfl rfl rfl rfl rfl rfl rfl rfl ?_) | apply kK) | apply kL | ((first | apply kM | apply kN); (iterate 3 (· exact rfl)); (· first | exact ya)) | refine kO rfl rfl rfl rfl rfl ?_ | refine kP rfl rfl rfl ?_ | ((first | refine kQ rfl rfl ?_ ?_ | refine kR rfl rfl rfl rfl rfl ?_ ?_ | refine kS rfl rfl rfl ?_ ?_) <;> intro hc <;> (try simp only [KL, cond_true, cond_false, beq_iff_eq, bne_iff_ne, ne_eq, reduceCtorEq] at hc) <;> (try (have hT : True := hc; clear hT hc)) <;> (try (exfalso; omega))) | apply kT | apply kU | apply kV | apply kW | refine kX rfl ?_ | apply kY | apply kZ)
  refine ole (s' := [(5, .ptr 100 0), (8, .ptr 120 0), (52, .bool true), (54, .lst 2 (B2.overs.map eDue)), (55, .ptr 100 0)]) (h' := knQ l l.length B2 S2 last2 now2 opn2 ++ (knY l l.length B2 S2 last2 now2 opn2 ++ [tab9])) les (LeH.refl _) ?_
  refine zcall (fun i => ρR i) (f7) rfl rfl leh (by kernel_rfl) (by kernel_rfl) (by kernel_rfl) (by kernel_rfl) rfl rfl (fun r h' hR => ?_)
  obtain ⟨rfl, rfl⟩ := hR
  refine ⟨rfl, rfl, ?_⟩
  refine ole (s' := [(52, .bool true), (54, .lst 2 (B2.overs.map eDue)), (56, .lst 2 (B2.overs.map eDue))]) (h' := [tab9]) (LeS.cons (LeV.of_eq (by kernel_rfl)) (LeS.cons (LeV.of_eq (by kernel_rfl)) (LeS.cons (LeV.of_eq (by kernel_rfl)) (LeS.nil _)))) (leH_ke (h1 := knY l l.length B2 S2 last2 now2 opn2 ++ (knQ l l.length B2 S2 last2 now2 opn2 ++ [tab9])) (by kernel_rfl) (show LeH _ [tab9] from leh)) ?_
  repeat' (first | (show W _ _ _ _ _ _; first | apply kA | refine kB rfl ?_ | refine kC rfl rfl ?_ | refine kD rfl rfl ?_ | apply kE | apply kF | apply kG | apply kH | refine kI (by kernel_rfl) (by kernel_rfl) ?_) | (show O _ _ _ _ _ _ _; first | (show O _ _ _ _ (⟨_, .store _ _ _, _, _, _, _⟩ :: _) _ _; refine kJ rfl rfl rfl rfl rfl rfl rfl rfl rfl rfl rfl ?_) | apply kK) | apply kL | ((first | apply kM | apply kN); (iterate 3 (· exact rfl)); (· first | (show Y _ ⟨_, .call ⟨.value _, _, _⟩, _, _, _, _⟩ _ _ _; first | exact q_c (c9) rfl) | exact ya | exact Y.mk (ok_callT (id := 9) c2 rfl rfl))) | refine kO rfl rfl rfl rfl rfl ?_ | refine kP rfl rfl rfl ?_ | ((first | refine kQ rfl rfl ?_ ?_ | refine kR rfl rfl rfl rfl rfl ?_ ?_ | refine kS rfl rfl rfl ?_ ?_) <;> intro hc <;> (try simp only [KL, cond_true, cond_false, beq_iff_eq, bne_iff_ne, ne_eq, reduceCtorEq] at hc) <;> (try (have hT : True := hc; clear hT hc)) <;> (try (exfalso; omega))) | apply kT | apply kU | apply kV | apply kW | refine kX rfl ?_ | apply kY | apply kZ)
  all_goals first | (exfalso; omega) | exact retq rfl rfl
theorem kernelClones_fn (l : List Task) (asks : List Due) (dm : List (List Int)) (ticks at_ : Int) (h0 : 0 ≤ at_) (h1 : at_ ≤ 255) : FnT Tryz.prog tabK 4 [.agg [.lst 7 (l.map eTask), .lst 2 (asks.map eDue), .lst 1 (dm.map eLI), .int .i64 ticks], .int .u8 at_] (.bool true) := by
  cases hli : lightB l asks dm ticks
  · exact kernelClones_1 l asks dm ticks at_ hli
  have hli2 : fewQ l 20 = true ∧ (asks.length ≤ 200 ∧ dm.length ≤ 20 ∧ ¬ (1000 < ticks ∧ ticks ≤ 65536)) := by
    have hli := hli
    rw [lightB, Bool.and_eq_true, Bool.and_eq_true, decide_eq_true_eq] at hli
    exact hli.1
  obtain ⟨hfew, ha, hdm, htk⟩ := hli2
  have hl : l.length ≤ 20 := by
    rw [fewQ, Bool.and_eq_true, decide_eq_true_eq] at hfew; omega
  cases hok : okK l
  · exact kernelClones_2 l asks dm ticks at_ hli hl hok
  · exact kernelClones_3 l asks dm ticks at_ h0 h1 hli ha hl hok
end Go.Proofs.YtfjoaeghnfkdlaaGreatDoor
namespace Go.Proofs.YtfjoaeghnfkdlaaGreatDoor
set_option maxRecDepth 100000
open Go.RowKit Go.ChangeShapes Go.WideShapes

structure Case29 where
  l : List Task
  lt : List Due
  dm : List (List Int)
  ticks : Int
instance : Inhabited Case29 := ⟨⟨[], [], [], 0⟩⟩
theorem Case29.ext_ {x y : Case29} (h : x.l = y.l ∧ x.lt = y.lt ∧ x.dm = y.dm ∧ x.ticks = y.ticks) : x = y := by cases x; cases y; simp_all
instance : DecidableEq Case29 := fun x y => decidable_of_iff (x.l = y.l ∧ x.lt = y.lt ∧ x.dm = y.dm ∧ x.ticks = y.ticks) ⟨Case29.ext_, fun h => by subst h; simp⟩
def Case29.ok (x : Case29) : Prop := (Lit.int .i64 x.ticks).wf = true
def Case29.cod : Cod Case29 := fun w cs x => ∃ (A_l : Option Addr) (c_l : Nat) (A_lt : Option Addr) (c_lt : Nat) (A_dm : Option Addr) (c_dm : Nat), cs = [.slice A_l x.l.length c_l, .slice A_lt x.lt.length c_lt, .slice A_dm x.dm.length c_dm, .int .i64 x.ticks] ∧ x.ok ∧ x.l.length ≤ c_l ∧ c_l ≤ maxLen ∧ Row Task.cod 7 w A_l x.l ∧ x.lt.length ≤ c_lt ∧ c_lt ≤ maxLen ∧ Row Due.cod 2 w A_lt x.lt ∧ x.dm.length ≤ c_dm ∧ c_dm ≤ maxLen ∧ Row (cSlice (cInt .i64) 1) 1 w A_dm x.dm
theorem Case29.mono : Mono Case29.cod := fun _ _ _ _ he ⟨A_l, c_l, A_lt, c_lt, A_dm, c_dm, h, hk, l_l, m_l, r_l, l_lt, m_lt, r_lt, l_dm, m_dm, r_dm⟩ => ⟨A_l, c_l, A_lt, c_lt, A_dm, c_dm, h, hk, l_l, m_l, r_l.ext Task.mono he, l_lt, m_lt, r_lt.ext Due.mono he, l_dm, m_dm, r_dm.ext (Mono.slice (Mono.int _) 1) he⟩
theorem Case29.size {w : World} {cs : List Value} {x : Case29} (h : Case29.cod w cs x) : cs.length = 4 := by obtain ⟨A_l, c_l, A_lt, c_lt, A_dm, c_dm, h, _⟩ := h; rw [h]; rfl
theorem Case29.at {w : World} {b off : Nat} {xs : List Case29} (h : Row' Case29.cod 4 w b off xs) (i : Nat) (hi : i < xs.length) :
    ∃ (A_l : Option Addr) (c_l : Nat) (A_lt : Option Addr) (c_lt : Nat) (A_dm : Option Addr) (c_dm : Nat), w.cell? ⟨b, off + i * 4, none⟩ = some (.slice A_l xs[i].l.length c_l) ∧ w.cell? ⟨b, off + i * 4 + 1, none⟩ = some (.slice A_lt xs[i].lt.length c_lt) ∧ w.cell? ⟨b, off + i * 4 + 2, none⟩ = some (.slice A_dm xs[i].dm.length c_dm) ∧ w.cell? ⟨b, off + i * 4 + 3, none⟩ = some (.int .i64 xs[i].ticks) ∧ xs[i].ok ∧ xs[i].l.length ≤ c_l ∧ c_l ≤ maxLen ∧ Row Task.cod 7 w A_l xs[i].l ∧ xs[i].lt.length ≤ c_lt ∧ c_lt ≤ maxLen ∧ Row Due.cod 2 w A_lt xs[i].lt ∧ xs[i].dm.length ≤ c_dm ∧ c_dm ≤ maxLen ∧ Row (cSlice (cInt .i64) 1) 1 w A_dm xs[i].dm := by
  obtain ⟨cs, hx, _, hc⟩ := h i xs[i] (List.getElem?_eq_getElem hi)
  obtain ⟨A_l, c_l, A_lt, c_lt, A_dm, c_dm, rfl, hk, l_l, m_l, r_l, l_lt, m_lt, r_lt, l_dm, m_dm, r_dm⟩ := hx
  exact ⟨A_l, c_l, A_lt, c_lt, A_dm, c_dm, hc 0 _ rfl, hc 1 _ rfl, hc 2 _ rfl, hc 3 _ rfl, hk, l_l, m_l, r_l, l_lt, m_lt, r_lt, l_dm, m_dm, r_dm⟩
end Go.Proofs.YtfjoaeghnfkdlaaGreatDoor
namespace Go.Proofs.YtfjoaeghnfkdlaaGreatDoor
set_option maxRecDepth 100000
open Go.RowKit
theorem br_LI : Br (cSlice (cInt .i64) 1) eLI := fun w cs x ⟨A, c, h1, h2, h3, h4⟩ => by
  subst h1
  exact (L2.nil _).cons (br_row br_int (fun _ => rfl) h4 h2 h3)
end Go.Proofs.YtfjoaeghnfkdlaaGreatDoor
namespace Go.Proofs.YtfjoaeghnfkdlaaGreatDoor
set_option maxRecDepth 100000
open Go.RowKit
def eCase29 (x : Case29) : List AV := [.lst 7 (x.l.map eTask), .lst 2 (x.lt.map eDue), .lst 1 (x.dm.map eLI), .int .i64 x.ticks]
theorem br_Case29 : Br Case29.cod eCase29 := fun w cs x ⟨A_l, c_l, A_lt, c_lt, A_dm, c_dm, h1, hk, l_l, m_l, r_l, l_lt, m_lt, r_lt, l_dm, m_dm, r_dm⟩ => by
  subst h1
  have h_ticks := hk
  exact ((((L2.nil _).cons (.int _ _ (rangeP_wf.2 h_ticks))).cons (br_row br_LI (fun _ => rfl) r_dm l_dm m_dm)).cons (br_row br_Due (fun _ => rfl) r_lt l_lt m_lt)).cons (br_row br_Task (fun _ => rfl) r_l l_l m_l)
end Go.Proofs.YtfjoaeghnfkdlaaGreatDoor
