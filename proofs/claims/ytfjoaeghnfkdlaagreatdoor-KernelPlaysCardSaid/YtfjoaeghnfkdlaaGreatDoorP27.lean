/- Law 29: whatever is done with the kernel. No condition. -/
import Derived.Test.YtfjoaeghnfkdlaaGreatDoorP25
import Derived.Test.YtfjoaeghnfkdlaaGreatDoorP26
set_option linter.unusedSimpArgs false
set_option linter.unusedVariables false
set_option maxHeartbeats 1000000
namespace Go.Proofs.YtfjoaeghnfkdlaaGreatDoor
set_option linter.unusedSimpArgs false
set_option linter.unusedVariables false
set_option maxRecDepth 100000
set_option linter.unusedSimpArgs false
set_option linter.unusedVariables false
set_option maxRecDepth 100000
open Go.RowKit
section
variable {P : Program} {s : Slots} {ops : Array Oper} {rest : List Oper} {o : Oper} {β : Type} {H : β → Bool → Heap} {ok ok1 : β → Prop} {K : Slots → β → Prop} {tn ln : List Nat} {c N : Nat} {nw : Nat → List Nat} {m : Nat} {x : β}
/-- .. behind a guard that does not hold. -/
theorem qw_skipG {j d : Nat} {want : Bool} (hg : o.guard = some (j, want)) (hd : dstAt ops j = some d) (hb : get s d = .bool (!want)) (hm : Nat.beq m c = false) (ht : tn.contains m = false) (hk : QW P ops H ok ok1 tn ln c N nw K (m + 1) rest (putS s o.dst (.tup [])) x) : QW P ops H ok ok1 tn ln c N nw K m (o :: rest) s x :=
  ⟨.inr (.inr (.inr ⟨⟨j, want, d, hg, hd, .inl hb⟩, fun e => by rw [e] at hm; simp at hm, ht, hk.out⟩))⟩
theorem qw_skipT {j d : Nat} {want : Bool} (hg : o.guard = some (j, want)) (hd : dstAt ops j = some d) (hb : get s d = .tup []) (hm : Nat.beq m c = false) (ht : tn.contains m = false) (hk : QW P ops H ok ok1 tn ln c N nw K (m + 1) rest (putS s o.dst (.tup [])) x) : QW P ops H ok ok1 tn ln c N nw K m (o :: rest) s x :=
  ⟨.inr (.inr (.inr ⟨⟨j, want, d, hg, hd, .inr hb⟩, fun e => by rw [e] at hm; simp at hm, ht, hk.out⟩))⟩
end
theorem leH_via {h h1 h2 : Heap} (e : h = h1) (hl : LeH h1 h2) : LeH h h2 := e ▸ hl
theorem LeH_of_eq {h h' : Heap} (e : h = h') : LeH h h' := e ▸ LeH.refl _
def ρV (i : Nat) : Nat := i + 110
abbrev plH (l : List Task) (B : Bk) (S : List Due) (last : List (Int × Int)) (now : Int) (opn : Bool) (LL : List (List Int)) : Heap := tab9 :: (knO l l.length ⟨B, S, last, now, opn⟩ ++ rkO l B (foN LL) now opn)
abbrev askB (a : Ask29) : Nat × Chunk := (14, .blk 45 (eAsk29 a))
def ppH (l : List Task) (a : Ask29) (y : Kn × Bk × List (List Int) × Int × Bool) (f : Bool) : Heap := askB a :: tab9 :: (knO l l.length y.1 ++ rkO l y.2.1 (foN y.2.2.1) y.2.2.2.1 y.2.2.2.2)
def psH (l : List Task) (a : Ask29) (B : Bk) (S : List Due) (last : List (Int × Int)) (now : Int) (opn : Bool) (LL : List (List Int)) (y : Unit) (f : Bool) : Heap := askB a :: tab9 :: (knO l l.length ⟨B, S, last, now, opn⟩ ++ rkO l B (foN LL) now opn)
theorem pick_case (l : List Task) (B : Bk) (opn : Bool) (h : pickV l B = rpickTo l B l.length) : ∃ X b want, (if opn then max (pickV l B) 0 else 0) = X ∧ (opn && decide (0 ≤ pickV l B)) = b ∧ (if opn then rpickTo l B l.length else -1) = want ∧
    ((∃ p : Nat, want = Int.ofNat p ∧ X = Int.ofNat p ∧ b = true) ∨ (want = -1 ∧ X = 0 ∧ b = false)) := by
  refine ⟨_, _, _, rfl, rfl, rfl, ?_⟩
  cases opn
  · exact .inr ⟨rfl, rfl, rfl⟩
  · rw [h]
    rcases rpick_nat l B with hp | ⟨p, hp⟩
    · rw [hp]; exact .inr ⟨rfl, by decide, by decide⟩
    · rw [hp]; exact .inl ⟨p, by simp, by simp only [Int.ofNat_eq_natCast, if_true]; omega, by simp⟩
def psV (l : List Task) (B : Bk) (S : List Due) (last : List (Int × Int)) (now : Int) (opn : Bool) (LL : List (List Int)) (y : Unit) (f : Bool) : Heap := tab9 :: (knO l l.length ⟨B, S, last, now, opn⟩ ++ rkO l B (foN LL) now opn)
def nwP (i : Nat) : List Nat := if i = 3 then [9, 105, 106, 107, 108] else [115, 116, 118]
def nwC (i : Nat) : List Nat := if i = 5 then [9, 105, 106, 107, 108] else [115, 116, 118]
set_option maxHeartbeats 1600000 in
theorem kernelPlays_1 (l : List Task) (asks : List Ask29) (hfew : fewQ l 20 = false) : FnT Tryz.prog tabK 3 [.lst 7 (l.map eTask), .lst 4 (asks.map eAsk29)] (.bool true) := by
  refine fntw Tryz.func3 (entered_of (by kernel_rfl)) rfl rfl rfl rfl ?_
  have c1 := few_fn l 20 (by omega)
  have c2 := awake29_fn
  rw [hfew] at c1
  repeat' (first | (show W _ _ _ _ _ _; first | apply kA | refine kB rfl ?_ | refine kC rfl rfl ?_ | refine kD rfl rfl ?_ | apply kE | apply kF | apply kG | apply kH | refine kI (by kernel_rfl) (by kernel_rfl) ?_) | (show O _ _ _ _ _ _ _; first | (show O _ _ _ _ (⟨_, .store _ _ _, _, _, _, _⟩ :: _) _ _; refine kJ rfl rfl rfl rfl rfl rfl rfl rfl rfl rfl rfl ?_) | apply kK) | apply kL | ((first | apply kM | apply kN); (iterate 3 (· exact rfl)); (· first | (show Y _ ⟨_, .call ⟨.value _, _, _⟩, _, _, _, _⟩ _ _ _; first | exact q_c (c1) rfl) | exact ya | exact Y.mk (ok_callT (id := 9) c2 rfl rfl))) | refine kO rfl rfl rfl rfl rfl ?_ | refine kP rfl rfl rfl ?_ | ((first | refine kQ rfl rfl ?_ ?_ | refine kR rfl rfl rfl rfl rfl ?_ ?_ | refine kS rfl rfl rfl ?_ ?_) <;> intro hc <;> (try simp only [KL, cond_true, cond_false, beq_iff_eq, bne_iff_ne, ne_eq, reduceCtorEq] at hc) <;> (try (have hT : True := hc; clear hT hc)) <;> (try (exfalso; omega))) | apply kT | apply kU | apply kV | apply kW | refine kX rfl ?_ | apply kY | apply kZ)
  all_goals first | (exfalso; omega) | exact retq rfl rfl
set_option maxHeartbeats 1600000 in
theorem kernelPlays_2 (l : List Task) (asks : List Ask29) (hfew : fewQ l 20 = true) (ha : ¬ asks.length ≤ 100) : FnT Tryz.prog tabK 3 [.lst 7 (l.map eTask), .lst 4 (asks.map eAsk29)] (.bool true) := by
  refine fntw Tryz.func3 (entered_of (by kernel_rfl)) rfl rfl rfl rfl ?_
  have c1 := few_fn l 20 (by omega)
  have c2 := awake29_fn
  rw [hfew] at c1
  repeat' (first | (show W _ _ _ _ _ _; first | apply kA | refine kB rfl ?_ | refine kC rfl rfl ?_ | refine kD rfl rfl ?_ | apply kE | apply kF | apply kG | apply kH | refine kI (by kernel_rfl) (by kernel_rfl) ?_) | (show O _ _ _ _ _ _ _; first | (show O _ _ _ _ (⟨_, .store _ _ _, _, _, _, _⟩ :: _) _ _; refine kJ rfl rfl rfl rfl rfl rfl rfl rfl rfl rfl rfl ?_) | apply kK) | apply kL | ((first | apply kM | apply kN); (iterate 3 (· exact rfl)); (· first | (show Y _ ⟨_, .call ⟨.value _, _, _⟩, _, _, _, _⟩ _ _ _; first | exact q_c (c1) rfl) | exact ya | exact Y.mk (ok_callT (id := 9) c2 rfl rfl))) | refine kO rfl rfl rfl rfl rfl ?_ | refine kP rfl rfl rfl ?_ | ((first | refine kQ rfl rfl ?_ ?_ | refine kR rfl rfl rfl rfl rfl ?_ ?_ | refine kS rfl rfl rfl ?_ ?_) <;> intro hc <;> (try simp only [KL, cond_true, cond_false, beq_iff_eq, bne_iff_ne, ne_eq, reduceCtorEq] at hc) <;> (try (have hT : True := hc; clear hT hc)) <;> (try (exfalso; omega))) | apply kT | apply kU | apply kV | apply kW | refine kX rfl ?_ | apply kY | apply kZ)
  all_goals first | (exfalso; omega) | exact retq rfl rfl
set_option maxHeartbeats 1600000 in
theorem kernelPlays_3 (l : List Task) (asks : List Ask29) (hfew : fewQ l 20 = true) (ha : asks.length ≤ 100) (hok : okK l = false) : FnT Tryz.prog tabK 3 [.lst 7 (l.map eTask), .lst 4 (asks.map eAsk29)] (.bool true) := by
  refine fntw Tryz.func3 (entered_of (by kernel_rfl)) rfl rfl rfl rfl ?_
  have c1 := few_fn l 20 (by omega)
  have c2 := awake29_fn
  have hl : l.length ≤ 20 := by
    rw [fewQ, Bool.and_eq_true, decide_eq_true_eq] at hfew; omega
  have c4 := new29r_fn l (by omega)
  rw [hfew] at c1
  have c3 := new29n_fn l (by omega) hok
  have c4 := c4.mono (R' := fun r h' => r = .nilp ∧ h' = []) fun r h hr => hr.2 hok
  have n1 := nowKN_fn
  have n2 := jobsKN_fn
  have n3 := oversKN_fn
  have n4 := openKN_fn
  have n5 := closeKN_fn 0 true
  have n6 := pickKN_fn
  have n7 := cloneKN_fn
  repeat' (first | (show W _ _ _ _ _ _; first | apply kA | refine kB rfl ?_ | refine kC rfl rfl ?_ | refine kD rfl rfl ?_ | apply kE | apply kF | apply kG | apply kH | refine kI (by kernel_rfl) (by kernel_rfl) ?_) | (show O _ _ _ _ _ _ _; first | (show O _ _ _ _ (⟨_, .store _ _ _, _, _, _, _⟩ :: _) _ _; refine kJ rfl rfl rfl rfl rfl rfl rfl rfl rfl rfl rfl ?_) | apply kK) | apply kL | ((first | apply kM | apply kN); (iterate 3 (· exact rfl)); (· first | (show Y _ ⟨_, .call ⟨.value _, _, _⟩, _, _, _, _⟩ _ _ _; first | exact q_c (c1) rfl | exact q_c (c3) rfl) | exact ya)) | refine kO rfl rfl rfl rfl rfl ?_ | refine kP rfl rfl rfl ?_ | ((first | refine kQ rfl rfl ?_ ?_ | refine kR rfl rfl rfl rfl rfl ?_ ?_ | refine kS rfl rfl rfl ?_ ?_) <;> intro hc <;> (try simp only [KL, cond_true, cond_false, beq_iff_eq, bne_iff_ne, ne_eq, reduceCtorEq] at hc) <;> (try (have hT : True := hc; clear hT hc)) <;> (try (exfalso; omega))) | apply kT | apply kU | apply kV | apply kW | refine kX rfl ?_ | apply kY | apply kZ)
  all_goals first | (exfalso; omega) | skip
  refine oturn (turn_dummy eI 118 3 1 (by omega) rfl) ?_
  refine oturn (turn_dummy eI 116 3 1 (by omega) rfl) ?_
  refine oturn (turn_dummy eI 115 3 1 (by omega) rfl) ?_
  refine oturn (turn_dummy eI 111 3 1 (by omega) rfl) ?_
  refine oturn (turn_dummy eI 110 3 1 (by omega) rfl) ?_
  refine zcall (fun i => ρK i) (c4) rfl rfl leh (by kernel_rfl) (by kernel_rfl) (by kernel_rfl) (by kernel_rfl) rfl rfl (fun r h' hR => ?_)
  obtain ⟨rfl, rfl⟩ := hR
  refine ⟨rfl, rfl, ?_⟩
  refine ole (h' := [tab9]) (LeS.refl _) leh ?_
  repeat' (first | (show W _ _ _ _ _ _; first | apply kA | refine kB rfl ?_ | refine kC rfl rfl ?_ | refine kD rfl rfl ?_ | apply kE | apply kF | apply kG | apply kH | refine kI (by kernel_rfl) (by kernel_rfl) ?_) | (show O _ _ _ _ _ _ _; first | (show O _ _ _ _ (⟨_, .store _ _ _, _, _, _, _⟩ :: _) _ _; refine kJ rfl rfl rfl rfl rfl rfl rfl rfl rfl rfl rfl ?_) | apply kK) | apply kL | ((first | apply kM | apply kN); (iterate 3 (· exact rfl)); (· first | (show Y _ ⟨_, .call ⟨.value _, _, _⟩, _, _, _, _⟩ _ _ _; first | exact q_c (n1) rfl | exact q_c (n2) rfl | exact q_c (n3) rfl | exact q_c (n4) rfl | exact q_c (n5) rfl | exact q_c (n6) rfl | exact q_c (n7) rfl) | exact ya | exact Y.mk (ok_callT (id := 9) c2 rfl rfl))) | refine kO rfl rfl rfl rfl rfl ?_ | refine kP rfl rfl rfl ?_ | ((first | refine kQ rfl rfl ?_ ?_ | refine kR rfl rfl rfl rfl rfl ?_ ?_ | refine kS rfl rfl rfl ?_ ?_) <;> intro hc <;> (try simp only [KL, cond_true, cond_false, beq_iff_eq, bne_iff_ne, ne_eq, reduceCtorEq] at hc) <;> (try (have hT : True := hc; clear hT hc)) <;> (try (exfalso; omega))) | apply kT | apply kU | apply kV | apply kW | refine kX rfl ?_ | apply kY | apply kZ)
  all_goals first | (exfalso; omega) | exact retq rfl rfl
set_option maxHeartbeats 1600000 in
theorem kernelPlays_4 (l : List Task) (asks : List Ask29) (hfew : fewQ l 20 = true) (ha : asks.length ≤ 100) (hok : okK l = true) : FnT Tryz.prog tabK 3 [.lst 7 (l.map eTask), .lst 4 (asks.map eAsk29)] (.bool true) := by
  refine fntw Tryz.func3 (entered_of (by kernel_rfl)) rfl rfl rfl rfl ?_
  have c1 := few_fn l 20 (by omega)
  have c2 := awake29_fn
  have hl : l.length ≤ 20 := by
    rw [fewQ, Bool.and_eq_true, decide_eq_true_eq] at hfew; omega
  have c4 := new29r_fn l (by omega)
  rw [hfew] at c1
  have c3 := new29_fn l hok
  have c4 := c4.mono (R' := fun r h' => r = .ptr 110 0 ∧ h' = rkO l newB (foN (List.replicate l.length [])) 0 false) fun r h hr => hr.1 hok
  have hP0 := PI.new hok
  have hB0 : (newK l).B = newB := rfl
  have hn0 : (newK l).now = 0 := rfl
  have ho0 : (newK l).opn = false := rfl
  generalize newK l = K0 at c3 hP0 hB0 hn0 ho0
  generalize List.replicate l.length ([] : List Int) = LL0 at c4 hP0
  obtain ⟨B0, S0, last0, now0, opn0⟩ := K0
  simp only at hB0 hn0 ho0
  subst hn0 ho0
  rw [← hB0] at c4
  have hl8 : l.length ≤ 8 := by rw [okK, Bool.and_eq_true, decide_eq_true_eq] at hok; omega
  repeat' (first | (show W _ _ _ _ _ _; first | apply kA | refine kB rfl ?_ | refine kC rfl rfl ?_ | refine kD rfl rfl ?_ | apply kE | apply kF | apply kG | apply kH | refine kI (by kernel_rfl) (by kernel_rfl) ?_) | (show O _ _ _ _ _ _ _; first | (show O _ _ _ _ (⟨_, .store _ _ _, _, _, _, _⟩ :: _) _ _; refine kJ rfl rfl rfl rfl rfl rfl rfl rfl rfl rfl rfl ?_) | apply kK) | apply kL | ((first | apply kM | apply kN); (iterate 3 (· exact rfl)); (· first | (show Y _ ⟨_, .call ⟨.value _, _, _⟩, _, _, _, _⟩ _ _ _; first | exact q_c (c1) rfl) | exact ya)) | refine kO rfl rfl rfl rfl rfl ?_ | refine kP rfl rfl rfl ?_ | ((first | refine kQ rfl rfl ?_ ?_ | refine kR rfl rfl rfl rfl rfl ?_ ?_ | refine kS rfl rfl rfl ?_ ?_) <;> intro hc <;> (try simp only [KL, cond_true, cond_false, beq_iff_eq, bne_iff_ne, ne_eq, reduceCtorEq] at hc) <;> (try (have hT : True := hc; clear hT hc)) <;> (try (exfalso; omega))) | apply kT | apply kU | apply kV | apply kW | refine kX rfl ?_ | apply kY | apply kZ)
  all_goals first | (exfalso; omega) | skip
  refine oturn (turn_dummy eI 108 3 1 (by omega) rfl) ?_
  refine oturn (turn_dummy eI 107 3 1 (by omega) rfl) ?_
  refine oturn (turn_dummy eI 106 3 1 (by omega) rfl) ?_
  refine oturn (turn_dummy eI 105 3 1 (by omega) rfl) ?_
  refine oturn (turn_dummy eI 104 3 1 (by omega) rfl) ?_
  refine oturn (turn_dummy eI 103 3 1 (by omega) rfl) ?_
  refine oturn (turn_dummy eI 102 3 1 (by omega) rfl) ?_
  refine oturn (turn_dummy eI 101 3 1 (by omega) rfl) ?_
  refine oturn (turn_dummy eI 100 3 1 (by omega) rfl) ?_
  refine zcall (fun i => ρK i) (c3) rfl rfl leh (by kernel_rfl) (by kernel_rfl) (by kernel_rfl) (by kernel_rfl) rfl rfl (fun r h' hR => ?_)
  obtain ⟨rfl, rfl⟩ := hR
  refine ⟨rfl, rfl, ?_⟩
  refine ole (s' := [(0, .lst 7 (l.map eTask)), (1, .lst 4 (asks.map eAsk29)), (27, .tup [.ptr 100 0, .int .i64 0])]) (h' := tab9 :: knY l l.length B0 S0 last0 0 false) les leh ?_
  repeat' (first | (show W _ _ _ _ _ _; first | apply kA | refine kB rfl ?_ | refine kC rfl rfl ?_ | refine kD rfl rfl ?_ | apply kE | apply kF | apply kG | apply kH | refine kI (by kernel_rfl) (by kernel_rfl) ?_) | (show O _ _ _ _ _ _ _; first | (show O _ _ _ _ (⟨_, .store _ _ _, _, _, _, _⟩ :: _) _ _; refine kJ rfl rfl rfl rfl rfl rfl rfl rfl rfl rfl rfl ?_) | apply kK) | apply kL | ((first | apply kM | apply kN); (iterate 3 (· exact rfl)); (· first | exact ya)) | refine kO rfl rfl rfl rfl rfl ?_ | refine kP rfl rfl rfl ?_ | ((first | refine kQ rfl rfl ?_ ?_ | refine kR rfl rfl rfl rfl rfl ?_ ?_ | refine kS rfl rfl rfl ?_ ?_) <;> intro hc <;> (try simp only [KL, cond_true, cond_false, beq_iff_eq, bne_iff_ne, ne_eq, reduceCtorEq] at hc) <;> (try (have hT : True := hc; clear hT hc)) <;> (try (exfalso; omega))) | apply kT | apply kU | apply kV | apply kW | refine kX rfl ?_ | apply kY | apply kZ)
  refine oturn (turn_dummy eI 118 3 1 (by omega) (by kernel_rfl)) ?_
  refine oturn (turn_dummy eI 116 3 1 (by omega) (by kernel_rfl)) ?_
  refine oturn (turn_dummy eI 115 3 1 (by omega) (by kernel_rfl)) ?_
  refine oturn (turn_dummy eI 111 3 1 (by omega) (by kernel_rfl)) ?_
  refine oturn (turn_dummy eI 110 3 1 (by omega) (by kernel_rfl)) ?_
  refine zcall (fun i => ρK i) (c4) rfl rfl leh (by kernel_rfl) (by kernel_rfl) (by kernel_rfl) (by kernel_rfl) rfl rfl (fun r h' hR => ?_)
  obtain ⟨rfl, rfl⟩ := hR
  refine ⟨rfl, rfl, ?_⟩
  refine ole (h' := rkO l B0 (foN LL0) 0 false ++ (tab9 :: knY l l.length B0 S0 last0 0 false)) (LeS.refl _) (LeH_of_eq (by kernel_rfl)) ?_
  refine ole (s' := [(1, .lst 4 (asks.map eAsk29)), (5, .ptr 100 0), (6, .int .i64 0), (31, .ptr 110 0)]) (h' := plH l B0 S0 last0 0 false LL0) les (show LeH _ (tab9 :: (knO l l.length ⟨B0, S0, last0, 0, false⟩ ++ rkO l B0 (foN LL0) 0 false)) from leh) ?_
  repeat' (first | (show W _ _ _ _ _ _; first | apply kA | refine kB rfl ?_ | refine kC rfl rfl ?_ | refine kD rfl rfl ?_ | apply kE | apply kF | apply kG | apply kH | refine kI (by kernel_rfl) (by kernel_rfl) ?_) | (show O _ _ _ _ _ _ _; first | (show O _ _ _ _ (⟨_, .store _ _ _, _, _, _, _⟩ :: _) _ _; refine kJ rfl rfl rfl rfl rfl rfl rfl rfl rfl rfl rfl ?_) | apply kK) | apply kL | ((first | apply kM | apply kN); (iterate 3 (· exact rfl)); (· first | exact ya)) | refine kO rfl rfl rfl rfl rfl ?_ | refine kP rfl rfl rfl ?_ | ((first | refine kQ rfl rfl ?_ ?_ | refine kR rfl rfl rfl rfl rfl ?_ ?_ | refine kS rfl rfl rfl ?_ ?_) <;> intro hc <;> (try simp only [KL, cond_true, cond_false, beq_iff_eq, bne_iff_ne, ne_eq, reduceCtorEq] at hc) <;> (try (have hT : True := hc; clear hT hc)) <;> (try (exfalso; omega))) | apply kT | apply kU | apply kV | apply kW | refine kX rfl ?_ | apply kY | apply kZ)
  all_goals first | (exfalso; omega) | skip
  refine wloop (fun x : Nat × Kn × List (List Int) => ([(5, .ptr 100 0), (7, .ptr 110 0), (92, .lst 4 (asks.map eAsk29)), (93, .int .i64 asks.length), (94, .int .i64 x.1)], plH l x.2.1.B x.2.1.S x.2.1.last x.2.1.now x.2.1.opn x.2.2))
    (fun x => x.1 ≤ asks.length ∧ PI l (30 * x.1) x.2.1 x.2.2 ∧ x.2.1.now ≤ x.1) (fun x => asks.length - x.1) (0, ⟨B0, S0, last0, 0, false⟩, LL0) ⟨Nat.zero_le _, hP0, Int.le_refl _⟩ les (show LeH _ (tab9 :: (knO l l.length ⟨B0, S0, last0, 0, false⟩ ++ rkO l B0 (foN LL0) 0 false)) from leh) (fun x hx => ?_)
  obtain ⟨k, K, LL⟩ := x
  obtain ⟨hk, hP, hnow⟩ := hx
  simp only at hk hP hnow ⊢
  rcases Nat.lt_or_eq_of_le hk with hkk | hkk
  · obtain ⟨a, hda⟩ : ∃ a, asks.getD k default = a := ⟨_, rfl⟩
    obtain ⟨kd, at_, al, ended⟩ := a
    obtain ⟨B, S, last, now, opn⟩ := K
    simp only at hnow ⊢
    by_cases hal : al.length ≤ 20
    case neg =>
      repeat' (first | (show W _ _ _ _ _ _; first | apply kA | refine kB rfl ?_ | refine kC rfl rfl ?_ | refine kD rfl rfl ?_ | apply kE | apply kF | apply kG | apply kH | refine kI (by kernel_rfl) (by kernel_rfl) ?_) | (show O _ _ _ _ _ _ _; first | (show O _ _ _ _ (⟨_, .alloc _, _, _, _, _⟩ :: _) _ _; first | refine ao_alloc (id := 14) rfl rfl rfl rfl rfl rfl rfl ?_) | (show O _ _ _ _ (⟨_, .store _ _ _, _, _, _, _⟩ :: _) _ _; refine kJ rfl rfl rfl rfl rfl rfl rfl rfl rfl rfl rfl ?_) | apply kK) | apply kL | ((first | apply kM | apply kN); (iterate 3 (· exact rfl)); (· first | (show Y _ ⟨_, .indexAddr _ _ _, _, _, _, _⟩ _ _ _; first | exact Y.mk (ok_indexE (hda) rfl rfl rfl rfl rfl (by omega))) | exact ya | exact Y.mk (ok_callT (id := 9) c2 rfl rfl))) | refine kO rfl rfl rfl rfl rfl ?_ | refine kP rfl rfl rfl ?_ | ((first | refine kQ rfl rfl ?_ ?_ | refine kR rfl rfl rfl rfl rfl ?_ ?_ | refine kS rfl rfl rfl ?_ ?_) <;> intro hc <;> (try simp only [KL, cond_true, cond_false, beq_iff_eq, bne_iff_ne, ne_eq, reduceCtorEq] at hc) <;> (try (have hT : True := hc; clear hT hc)) <;> (try (exfalso; omega))) | apply kT | apply kU | apply kV | apply kW | refine kX rfl ?_ | apply kY | apply kZ)
      all_goals first | (exfalso; omega) | exact retq rfl rfl
    obtain ⟨aa, haa⟩ : ∃ aa : Ask29, aa = ⟨kd, at_, al, ended⟩ := ⟨_, rfl⟩
    have hk1 : 30 * k + 30 = 30 * (k + 1) := by omega
    by_cases h0 : kd = 0
    case' pos =>
      subst h0
      obtain ⟨L1, p1, p2, p3, p4⟩ := hP.play0 hok al hal
      simp only at p3 p4
      have f1 := open_fn l l.length ⟨B, S, last, now, opn⟩ (30 * k) 8 (by omega) hP.ki.good ⟨hP.ki.now_.1, by simp only; omega⟩ (Nat.le_trans hP.ki.slen hl8) hP.ki.last (fun d hd => by
        have q1 := hP.ki.due d hd
        have q2 := plain_per hok d.task q1.1 q1.2.1
        omega) al (by omega) (by omega)
      have f2 := rbegin_fn l LL B now opn (30 * k) hl8 hP.ri hP.ki.now_ al (by omega)
      rw [p3, p4] at f2
      generalize openP l l.length ⟨B, S, last, now, opn⟩ al = o at p1 p2 f1 f2
      obtain ⟨⟨B1, S1, last1, now1, opn1⟩, e1⟩ := o
      simp only at p1 p2 f1 f2
      subst p2
      have hn1 : now1 ≤ (k + 1 : Nat) := by omega
      have c7 := pl_Events e1 e1
      rw [decide_eq_true rfl] at c7
      repeat' (first | (show W _ _ _ _ _ _; first | apply kA | refine kB rfl ?_ | refine kC rfl rfl ?_ | refine kD rfl rfl ?_ | apply kE | apply kF | apply kG | apply kH) | (show O _ _ _ _ _ _ _; first | (show O _ _ _ _ (⟨_, .alloc _, _, _, _, _⟩ :: _) _ _; first | refine ao_alloc (id := 14) rfl rfl rfl rfl rfl rfl rfl ?_) | (show O _ _ _ _ (⟨_, .store _ _ _, _, _, _, _⟩ :: _) _ _; refine kJ rfl rfl rfl rfl rfl rfl rfl rfl rfl rfl rfl ?_) | apply kK) | apply kL | ((first | apply kM | apply kN); (iterate 3 (· exact rfl)); (· first | (show Y _ ⟨_, .indexAddr _ _ _, _, _, _, _⟩ _ _ _; first | exact Y.mk (ok_indexE (hda) rfl rfl rfl rfl rfl (by omega))) | exact ya)) | refine kO rfl rfl rfl rfl rfl ?_ | refine kP rfl rfl rfl ?_ | ((first | refine kQ rfl rfl ?_ ?_ | refine kR rfl rfl rfl rfl rfl ?_ ?_ | refine kS rfl rfl rfl ?_ ?_) <;> intro hc <;> (try simp only [KL, cond_true, cond_false, beq_iff_eq, bne_iff_ne, ne_eq, reduceCtorEq] at hc) <;> (try (have hT : True := hc; clear hT hc)) <;> (try (exfalso; omega))) | apply kT | apply kU | apply kV | apply kW | refine kX rfl ?_ | apply kY | apply kZ)
      all_goals first | (exfalso; omega) | skip
      refine wle (s' := [(5, .ptr 100 0), (7, .ptr 110 0), (11, .ptr 14 0), (92, .lst 4 (asks.map eAsk29)), (93, .int .i64 asks.length), (94, .int .i64 k)]) (h' := ppH l ⟨0, at_, al, ended⟩ (⟨B, S, last, now1, opn⟩, B, LL, now1, opn) false) les (show LeH _ (askB ⟨0, at_, al, ended⟩ :: tab9 :: (knO l l.length ⟨B, S, last, now1, opn⟩ ++ rkO l B (foN LL) now1 opn)) from leh) ?_
      refine wdrawQ (ppH l ⟨0, at_, al, ended⟩) (fun _ => True) (fun _ => True) [3, 7] [] 0 99 nwP (⟨B, S, last, now1, opn⟩, B, LL, now1, opn) (LeH.refl _) (by kernel_rfl) (by kernel_rfl) (by kernel_rfl) trivial trivial rfl rfl rfl rfl ?_
      refine qw_new (v := .ptr 100 0) rfl rfl (by kernel_rfl) (fun y hy => tn_ok ya) ?_
      repeat' (first | (show W _ _ _ _ _ _; first | apply kA | refine kB rfl ?_ | refine kC rfl rfl ?_ | refine kD rfl rfl ?_ | apply kE | apply kF | apply kG | apply kH | refine kI (by kernel_rfl) (by kernel_rfl) ?_) | (show O _ _ _ _ _ _ _; first | (show O _ _ _ _ (⟨_, .store _ _ _, _, _, _, _⟩ :: _) _ _; refine kJ rfl rfl rfl rfl rfl rfl rfl rfl rfl rfl rfl ?_) | apply kK) | apply kL | ((first | apply kM | apply kN); (iterate 3 (· exact rfl)); (· first | exact ya)) | (show QW _ _ _ _ _ _ _ _ _ _ _ _ _ _ _; first | refine qw_nil ?_ | (apply qw_any; (· exact rfl); (· exact rfl); (· exact rfl); (· intro y' f' hy'; first | exact ya); (· first | exact rfl | kernel_rfl))) | refine kO rfl rfl rfl rfl rfl ?_ | refine kP rfl rfl rfl ?_ | ((first | refine kQ rfl rfl ?_ ?_ | refine kR rfl rfl rfl rfl rfl ?_ ?_ | refine kS rfl rfl rfl ?_ ?_) <;> intro hc <;> (try simp only [KL, cond_true, cond_false, beq_iff_eq, bne_iff_ne, ne_eq, reduceCtorEq] at hc) <;> (try (have hT : True := hc; clear hT hc)) <;> (try (exfalso; omega))) | apply kT | apply kU | apply kV | apply kW | refine kX rfl ?_ | apply kY | apply kZ)
      refine qw_tu (x' := (⟨B1, S1, last1, now1, opn1⟩, B, LL, now1, opn)) rfl rfl rfl trivial trivial (fun f hf => tl_call ρR f1 rfl (show LeH (askB ⟨0, at_, al, ended⟩ :: tab9 :: (knO l l.length ⟨B, S, last, now1, opn⟩ ++ rkO l B (foN LL) now1 opn)) _ from leh) (by kernel_rfl) (by kernel_rfl) (by kernel_rfl) (by kernel_rfl) (by kernel_rfl) (by kernel_rfl) (by kernel_rfl) rfl (leH_via (h1 := (tab9 :: knO l l.length ⟨B1, S1, last1, now1, opn1⟩) ++ (askB ⟨0, at_, al, ended⟩ :: rkO l B (foN LL) now1 opn)) (by kernel_rfl) (show LeH _ (askB ⟨0, at_, al, ended⟩ :: tab9 :: (knO l l.length ⟨B1, S1, last1, now1, opn1⟩ ++ rkO l B (foN LL) now1 opn)) from leh))) (by kernel_rfl) ?_
      repeat' (first | (show W _ _ _ _ _ _; first | apply kA | refine kB rfl ?_ | refine kC rfl rfl ?_ | refine kD rfl rfl ?_ | apply kE | apply kF | apply kG | apply kH | refine kI (by kernel_rfl) (by kernel_rfl) ?_) | (show O _ _ _ _ _ _ _; first | (show O _ _ _ _ (⟨_, .store _ _ _, _, _, _, _⟩ :: _) _ _; refine kJ rfl rfl rfl rfl rfl rfl rfl rfl rfl rfl rfl ?_) | apply kK) | apply kL | ((first | apply kM | apply kN); (iterate 3 (· exact rfl)); (· first | exact ya)) | (show QW _ _ _ _ _ _ _ _ _ _ _ _ _ _ _; first | refine qw_nil ?_ | (apply qw_any; (· exact rfl); (· exact rfl); (· exact rfl); (· intro y' f' hy'; first | exact ya); (· first | exact rfl | kernel_rfl))) | refine kO rfl rfl rfl rfl rfl ?_ | refine kP rfl rfl rfl ?_ | ((first | refine kQ rfl rfl ?_ ?_ | refine kR rfl rfl rfl rfl rfl ?_ ?_ | refine kS rfl rfl rfl ?_ ?_) <;> intro hc <;> (try simp only [KL, cond_true, cond_false, beq_iff_eq, bne_iff_ne, ne_eq, reduceCtorEq] at hc) <;> (try (have hT : True := hc; clear hT hc)) <;> (try (exfalso; omega))) | apply kT | apply kU | apply kV | apply kW | refine kX rfl ?_ | apply kY | apply kZ)
      refine qw_tu (x' := (⟨B1, S1, last1, now1, opn1⟩, B1, L1, now1, opn1)) rfl rfl rfl trivial trivial (fun f hf => tl_call ρV f2 rfl (show LeH (askB ⟨0, at_, al, ended⟩ :: tab9 :: (knO l l.length ⟨B1, S1, last1, now1, opn1⟩ ++ rkO l B (foN LL) now1 opn)) _ from leh) (by kernel_rfl) (by kernel_rfl) (by kernel_rfl) (by kernel_rfl) (by kernel_rfl) (by kernel_rfl) (by kernel_rfl) rfl (leH_via (h1 := rkO l B1 (foN L1) now1 opn1 ++ (askB ⟨0, at_, al, ended⟩ :: tab9 :: knO l l.length ⟨B1, S1, last1, now1, opn1⟩)) (by kernel_rfl) (show LeH _ (askB ⟨0, at_, al, ended⟩ :: tab9 :: (knO l l.length ⟨B1, S1, last1, now1, opn1⟩ ++ rkO l B1 (foN L1) now1 opn1)) from leh))) (by kernel_rfl) ?_
      repeat' (first | (show W _ _ _ _ _ _; first | apply kA | refine kB rfl ?_ | refine kC rfl rfl ?_ | refine kD rfl rfl ?_ | apply kE | apply kF | apply kG | apply kH | refine kI (by kernel_rfl) (by kernel_rfl) ?_) | (show O _ _ _ _ _ _ _; first | (show O _ _ _ _ (⟨_, .store _ _ _, _, _, _, _⟩ :: _) _ _; refine kJ rfl rfl rfl rfl rfl rfl rfl rfl rfl rfl rfl ?_) | apply kK) | apply kL | ((first | apply kM | apply kN); (iterate 3 (· exact rfl)); (· first | (show Y _ ⟨_, .call ⟨.value _, _, _⟩, _, _, _, _⟩ _ _ _; first | exact q_c (c7) rfl) | exact ya)) | (show QW _ _ _ _ _ _ _ _ _ _ _ _ _ _ _; first | refine qw_nil ?_ | (apply qw_any; (· exact rfl); (· exact rfl); (· exact rfl); (· intro y' f' hy'; first | (show Y _ ⟨_, .call ⟨.value _, _, _⟩, _, _, _, _⟩ _ _ _; first | exact q_c (c7) rfl) | exact ya); (· first | exact rfl | kernel_rfl))) | refine kO rfl rfl rfl rfl rfl ?_ | refine kP rfl rfl rfl ?_ | ((first | refine kQ rfl rfl ?_ ?_ | refine kR rfl rfl rfl rfl rfl ?_ ?_ | refine kS rfl rfl rfl ?_ ?_) <;> intro hc <;> (try simp only [KL, cond_true, cond_false, beq_iff_eq, bne_iff_ne, ne_eq, reduceCtorEq] at hc) <;> (try (have hT : True := hc; clear hT hc)) <;> (try (exfalso; omega))) | apply kT | apply kU | apply kV | apply kW | refine kX rfl ?_ | apply kY | apply kZ)
      clear f1 f2 c7 p3 p4
    case' neg =>
      by_cases h1 : kd = 1
      case' pos =>
        subst h1
        obtain ⟨p1, p2, p3, p4⟩ := hP.play1 (by simp only; omega) at_ ended
        simp only at p2 p3 p4
        have f1 := close_fn l l.length ⟨B, S, last, now, opn⟩ (30 * k) (by omega) hP.ki.good (by omega) at_ ended (fun h => pickV_has h) ⟨hP.ki.now_.1, by simp only; omega⟩ (fun h => by
          have := (hP.ki.jr.step (pickV l B) now).at_ (pickV l B)
          exact ⟨this.1, Int.le_trans this.2 (by decide)⟩)
        have f2 := rend29_fn l (foN LL) B now opn (30 * k) hP.ki.good (by omega) hP.ki.now_ hP.ki.jr (fun h => (rpick_has (l := l) (B := B) l.length h).1) at_ ended
        rw [p3, p4] at f2
        generalize closeE l ⟨B, S, last, now, opn⟩ at_ ended = e1 at f1 f2
        generalize closeK l ⟨B, S, last, now, opn⟩ ended = K1 at p1 p2 f1 f2
        obtain ⟨B1, S1, last1, now1, opn1⟩ := K1
        simp only at p1 p2 f1 f2
        have hn1 : now1 ≤ (k + 1 : Nat) := by omega
        obtain ⟨L1, hL1⟩ : ∃ L1, L1 = LL := ⟨_, rfl⟩
        rw [← hL1] at p1
        have c7 := pl_Events e1 e1
        rw [decide_eq_true rfl] at c7
        repeat' (first | (show W _ _ _ _ _ _; first | apply kA | refine kB rfl ?_ | refine kC rfl rfl ?_ | refine kD rfl rfl ?_ | apply kE | apply kF | apply kG | apply kH) | (show O _ _ _ _ _ _ _; first | (show O _ _ _ _ (⟨_, .alloc _, _, _, _, _⟩ :: _) _ _; first | refine ao_alloc (id := 14) rfl rfl rfl rfl rfl rfl rfl ?_) | (show O _ _ _ _ (⟨_, .store _ _ _, _, _, _, _⟩ :: _) _ _; refine kJ rfl rfl rfl rfl rfl rfl rfl rfl rfl rfl rfl ?_) | apply kK) | apply kL | ((first | apply kM | apply kN); (iterate 3 (· exact rfl)); (· first | (show Y _ ⟨_, .indexAddr _ _ _, _, _, _, _⟩ _ _ _; first | exact Y.mk (ok_indexE (hda) rfl rfl rfl rfl rfl (by omega))) | exact ya)) | refine kO rfl rfl rfl rfl rfl ?_ | refine kP rfl rfl rfl ?_ | ((first | refine kQ rfl rfl ?_ ?_ | refine kR rfl rfl rfl rfl rfl ?_ ?_ | refine kS rfl rfl rfl ?_ ?_) <;> intro hc <;> (try simp only [KL, cond_true, cond_false, beq_iff_eq, bne_iff_ne, ne_eq, reduceCtorEq] at hc) <;> (try (have hT : True := hc; clear hT hc)) <;> (try (exfalso; omega))) | apply kT | apply kU | apply kV | apply kW | refine kX rfl ?_ | apply kY | apply kZ)
        all_goals first | (exfalso; omega) | skip
        refine wle (s' := [(5, .ptr 100 0), (7, .ptr 110 0), (11, .ptr 14 0), (92, .lst 4 (asks.map eAsk29)), (93, .int .i64 asks.length), (94, .int .i64 k)]) (h' := ppH l ⟨1, at_, al, ended⟩ (⟨B, S, last, now, opn⟩, B, LL, now, opn) false) les (show LeH _ (askB ⟨1, at_, al, ended⟩ :: tab9 :: (knO l l.length ⟨B, S, last, now, opn⟩ ++ rkO l B (foN LL) now opn)) from leh) ?_
        refine wdrawQ (ppH l ⟨1, at_, al, ended⟩) (fun _ => True) (fun _ => True) [5, 11] [] 0 99 nwC (⟨B, S, last, now, opn⟩, B, LL, now, opn) (LeH.refl _) (by kernel_rfl) (by kernel_rfl) (by kernel_rfl) trivial trivial rfl rfl rfl rfl ?_
        refine qw_new (v := .ptr 100 0) rfl rfl (by kernel_rfl) (fun y hy => tn_ok ya) ?_
        repeat' (first | (show W _ _ _ _ _ _; first | apply kA | refine kB rfl ?_ | refine kC rfl rfl ?_ | refine kD rfl rfl ?_ | apply kE | apply kF | apply kG | apply kH | refine kI (by kernel_rfl) (by kernel_rfl) ?_) | (show O _ _ _ _ _ _ _; first | (show O _ _ _ _ (⟨_, .store _ _ _, _, _, _, _⟩ :: _) _ _; refine kJ rfl rfl rfl rfl rfl rfl rfl rfl rfl rfl rfl ?_) | apply kK) | apply kL | ((first | apply kM | apply kN); (iterate 3 (· exact rfl)); (· first | exact ya)) | (show QW _ _ _ _ _ _ _ _ _ _ _ _ _ _ _; first | refine qw_nil ?_ | (apply qw_any; (· exact rfl); (· exact rfl); (· exact rfl); (· intro y' f' hy'; first | exact ya); (· first | exact rfl | kernel_rfl))) | refine kO rfl rfl rfl rfl rfl ?_ | refine kP rfl rfl rfl ?_ | ((first | refine kQ rfl rfl ?_ ?_ | refine kR rfl rfl rfl rfl rfl ?_ ?_ | refine kS rfl rfl rfl ?_ ?_) <;> intro hc <;> (try simp only [KL, cond_true, cond_false, beq_iff_eq, bne_iff_ne, ne_eq, reduceCtorEq] at hc) <;> (try (have hT : True := hc; clear hT hc)) <;> (try (exfalso; omega))) | apply kT | apply kU | apply kV | apply kW | refine kX rfl ?_ | apply kY | apply kZ)
        refine qw_tu (x' := (⟨B1, S1, last1, now1, opn1⟩, B, LL, now, opn)) rfl rfl rfl trivial trivial (fun f hf => tl_call ρR f1 rfl (show LeH (askB ⟨1, at_, al, ended⟩ :: tab9 :: (knO l l.length ⟨B, S, last, now, opn⟩ ++ rkO l B (foN LL) now opn)) _ from leh) (by kernel_rfl) (by kernel_rfl) (by kernel_rfl) (by kernel_rfl) (by kernel_rfl) (by kernel_rfl) (by kernel_rfl) rfl (leH_via (h1 := (tab9 :: knO l l.length ⟨B1, S1, last1, now1, opn1⟩) ++ (askB ⟨1, at_, al, ended⟩ :: rkO l B (foN LL) now opn)) (by kernel_rfl) (show LeH _ (askB ⟨1, at_, al, ended⟩ :: tab9 :: (knO l l.length ⟨B1, S1, last1, now1, opn1⟩ ++ rkO l B (foN LL) now opn)) from leh))) (by kernel_rfl) ?_
        repeat' (first | (show W _ _ _ _ _ _; first | apply kA | refine kB rfl ?_ | refine kC rfl rfl ?_ | refine kD rfl rfl ?_ | apply kE | apply kF | apply kG | apply kH | refine kI (by kernel_rfl) (by kernel_rfl) ?_) | (show O _ _ _ _ _ _ _; first | (show O _ _ _ _ (⟨_, .store _ _ _, _, _, _, _⟩ :: _) _ _; refine kJ rfl rfl rfl rfl rfl rfl rfl rfl rfl rfl rfl ?_) | apply kK) | apply kL | ((first | apply kM | apply kN); (iterate 3 (· exact rfl)); (· first | exact ya)) | (show QW _ _ _ _ _ _ _ _ _ _ _ _ _ _ _; first | refine qw_nil ?_ | (apply qw_any; (· exact rfl); (· exact rfl); (· exact rfl); (· intro y' f' hy'; first | exact ya); (· first | exact rfl | kernel_rfl))) | refine kO rfl rfl rfl rfl rfl ?_ | refine kP rfl rfl rfl ?_ | ((first | refine kQ rfl rfl ?_ ?_ | refine kR rfl rfl rfl rfl rfl ?_ ?_ | refine kS rfl rfl rfl ?_ ?_) <;> intro hc <;> (try simp only [KL, cond_true, cond_false, beq_iff_eq, bne_iff_ne, ne_eq, reduceCtorEq] at hc) <;> (try (have hT : True := hc; clear hT hc)) <;> (try (exfalso; omega))) | apply kT | apply kU | apply kV | apply kW | refine kX rfl ?_ | apply kY | apply kZ)
        refine qw_tu (x' := (⟨B1, S1, last1, now1, opn1⟩, B1, LL, now1, opn1)) rfl rfl rfl trivial trivial (fun f hf => tl_call ρV f2 rfl (show LeH (askB ⟨1, at_, al, ended⟩ :: tab9 :: (knO l l.length ⟨B1, S1, last1, now1, opn1⟩ ++ rkO l B (foN LL) now opn)) _ from leh) (by kernel_rfl) (by kernel_rfl) (by kernel_rfl) (by kernel_rfl) (by kernel_rfl) (by kernel_rfl) (by kernel_rfl) rfl (leH_via (h1 := rkO l B1 (foN LL) now1 opn1 ++ (askB ⟨1, at_, al, ended⟩ :: tab9 :: knO l l.length ⟨B1, S1, last1, now1, opn1⟩)) (by kernel_rfl) (show LeH _ (askB ⟨1, at_, al, ended⟩ :: tab9 :: (knO l l.length ⟨B1, S1, last1, now1, opn1⟩ ++ rkO l B1 (foN LL) now1 opn1)) from leh))) (by kernel_rfl) ?_
        repeat' (first | (show W _ _ _ _ _ _; first | apply kA | refine kB rfl ?_ | refine kC rfl rfl ?_ | refine kD rfl rfl ?_ | apply kE | apply kF | apply kG | apply kH | refine kI (by kernel_rfl) (by kernel_rfl) ?_) | (show O _ _ _ _ _ _ _; first | (show O _ _ _ _ (⟨_, .store _ _ _, _, _, _, _⟩ :: _) _ _; refine kJ rfl rfl rfl rfl rfl rfl rfl rfl rfl rfl rfl ?_) | apply kK) | apply kL | ((first | apply kM | apply kN); (iterate 3 (· exact rfl)); (· first | (show Y _ ⟨_, .call ⟨.value _, _, _⟩, _, _, _, _⟩ _ _ _; first | exact q_c (c7) rfl) | exact ya)) | (show QW _ _ _ _ _ _ _ _ _ _ _ _ _ _ _; first | refine qw_nil ?_ | (apply qw_any; (· exact rfl); (· exact rfl); (· exact rfl); (· intro y' f' hy'; first | (show Y _ ⟨_, .call ⟨.value _, _, _⟩, _, _, _, _⟩ _ _ _; first | exact q_c (c7) rfl) | exact ya); (· first | exact rfl | kernel_rfl))) | refine kO rfl rfl rfl rfl rfl ?_ | refine kP rfl rfl rfl ?_ | ((first | refine kQ rfl rfl ?_ ?_ | refine kR rfl rfl rfl rfl rfl ?_ ?_ | refine kS rfl rfl rfl ?_ ?_) <;> intro hc <;> (try simp only [KL, cond_true, cond_false, beq_iff_eq, bne_iff_ne, ne_eq, reduceCtorEq] at hc) <;> (try (have hT : True := hc; clear hT hc)) <;> (try (exfalso; omega))) | apply kT | apply kU | apply kV | apply kW | refine kX rfl ?_ | apply kY | apply kZ)
        subst hL1
        clear f1 f2 c7 p3 p4
      case' neg =>
        obtain ⟨B1, hB1⟩ : ∃ x, x = B := ⟨_, rfl⟩
        obtain ⟨S1, hS1⟩ : ∃ x, x = S := ⟨_, rfl⟩
        obtain ⟨last1, hla1⟩ : ∃ x, x = last := ⟨_, rfl⟩
        obtain ⟨now1, hno1⟩ : ∃ x, x = now := ⟨_, rfl⟩
        obtain ⟨opn1, hop1⟩ : ∃ x, x = opn := ⟨_, rfl⟩
        obtain ⟨L1, hL1⟩ : ∃ L1, L1 = LL := ⟨_, rfl⟩
        have p1 := hP.up (m := 30 * k + 30) (by omega)
        rw [← hB1, ← hS1, ← hla1, ← hno1, ← hop1, ← hL1] at p1 ⊢
        have hn1 : now1 ≤ (k + 1 : Nat) := by omega
        repeat' (first | (show W _ _ _ _ _ _; first | apply kA | refine kB rfl ?_ | refine kC rfl rfl ?_ | refine kD rfl rfl ?_ | apply kE | apply kF | apply kG | apply kH | refine kI (by kernel_rfl) (by kernel_rfl) ?_) | (show O _ _ _ _ _ _ _; first | (show O _ _ _ _ (⟨_, .alloc _, _, _, _, _⟩ :: _) _ _; first | refine ao_alloc (id := 14) rfl rfl rfl rfl rfl rfl rfl ?_) | (show O _ _ _ _ (⟨_, .store _ _ _, _, _, _, _⟩ :: _) _ _; refine kJ rfl rfl rfl rfl rfl rfl rfl rfl rfl rfl rfl ?_) | apply kK) | apply kL | ((first | apply kM | apply kN); (iterate 3 (· exact rfl)); (· first | (show Y _ ⟨_, .indexAddr _ _ _, _, _, _, _⟩ _ _ _; first | exact Y.mk (ok_indexE (hda) rfl rfl rfl rfl rfl (by omega))) | exact ya)) | refine kO rfl rfl rfl rfl rfl ?_ | refine kP rfl rfl rfl ?_ | ((first | refine kQ rfl rfl ?_ ?_ | refine kR rfl rfl rfl rfl rfl ?_ ?_ | refine kS rfl rfl rfl ?_ ?_) <;> intro hc <;> (try simp only [KL, cond_true, cond_false, beq_iff_eq, bne_iff_ne, ne_eq, reduceCtorEq] at hc) <;> (try (have hT : True := hc; clear hT hc)) <;> (try (exfalso; omega))) | apply kT | apply kU | apply kV | apply kW | refine kX rfl ?_ | apply kY | apply kZ)
        all_goals first | (exfalso; omega) | skip
    all_goals
      refine ole (s' := [(5, .ptr 100 0), (7, .ptr 110 0), (12, .bool true), (132, .ptr 100 0), (92, .lst 4 (asks.map eAsk29)), (93, .int .i64 asks.length), (94, .int .i64 k)]) (h' := plH l B1 S1 last1 now1 opn1 L1) les (show LeH _ (tab9 :: (knO l l.length ⟨B1, S1, last1, now1, opn1⟩ ++ rkO l B1 (foN L1) now1 opn1)) from leh) ?_
      rw [hk1] at p1
      have hgood := p1.ki.good
      simp only at hgood
      have hpk := pick_eq_r hgood
      obtain ⟨X, b, want, w1, w2, w3, w4⟩ := pick_case l B1 opn1 hpk
      have f3 := pickK_fn l l.length ⟨B1, S1, last1, now1, opn1⟩ (by omega) hgood.act
      have f4 := rpick_fn l (foN L1) B1 now1 opn1 (30 * (k + 1)) hgood (by omega)
      simp only at f3
      rw [w1, w2] at f3
      rw [w3] at f4
      have f5 := nowK_fn l l.length ⟨B1, S1, last1, now1, opn1⟩
      have f6 := jobsK_fn l l.length ⟨B1, S1, last1, now1, opn1⟩ (by have := hgood.alen; simp only; omega)
      have f7 := oversK_fn l l.length ⟨B1, S1, last1, now1, opn1⟩ (by have := hgood.olen; simp only; omega)
      have c8 := pl_Jobs B1.all B1.all
      rw [decide_eq_true rfl] at c8
      have c9 := pl_Dues B1.overs B1.overs
      rw [decide_eq_true rfl] at c9
      have hiv : 0 ≤ now1 := p1.ki.now_.1
      clear hP hda
      refine zcall (fun i => ρR i) (f3) rfl rfl leh (by kernel_rfl) (by kernel_rfl) (by kernel_rfl) (by kernel_rfl) rfl rfl (fun r h' hR => ?_)
      obtain ⟨rfl, rfl⟩ := hR
      refine ⟨rfl, rfl, ?_⟩
      refine ole (s' := [(5, .ptr 100 0), (7, .ptr 110 0), (12, .bool true), (133, .tup [.int .i64 X, .bool b]), (92, .lst 4 (asks.map eAsk29)), (93, .int .i64 asks.length), (94, .int .i64 k)]) (h' := plH l B1 S1 last1 now1 opn1 L1) les (LeH_of_eq (by kernel_rfl)) ?_
      repeat' (first | (show W _ _ _ _ _ _; first | apply kA | refine kB rfl ?_ | refine kC rfl rfl ?_ | refine kD rfl rfl ?_ | apply kE | apply kF | apply kG | apply kH | refine kI (by kernel_rfl) (by kernel_rfl) ?_) | (show O _ _ _ _ _ _ _; first | (show O _ _ _ _ (⟨_, .store _ _ _, _, _, _, _⟩ :: _) _ _; refine kJ rfl rfl rfl rfl rfl rfl rfl rfl rfl rfl rfl ?_) | apply kK) | apply kL | ((first | apply kM | apply kN); (iterate 3 (· exact rfl)); (· first | exact ya)) | refine kO rfl rfl rfl rfl rfl ?_ | refine kP rfl rfl rfl ?_ | ((first | refine kQ rfl rfl ?_ ?_ | refine kR rfl rfl rfl rfl rfl ?_ ?_ | refine kS rfl rfl rfl ?_ ?_) <;> intro hc <;> (try simp only [KL, cond_true, cond_false, beq_iff_eq, bne_iff_ne, ne_eq, reduceCtorEq] at hc) <;> (try (have hT : True := hc; clear hT hc)) <;> (try (exfalso; omega))) | apply kT | apply kU | apply kV | apply kW | refine kX rfl ?_ | apply kY | apply kZ)
      refine zcall (fun i => ρV i) (f4) rfl rfl leh (by kernel_rfl) (by kernel_rfl) (by kernel_rfl) (by kernel_rfl) rfl rfl (fun r h' hR => ?_)
      obtain ⟨rfl, rfl⟩ := hR
      refine ⟨rfl, rfl, ?_⟩
      refine ole (s' := [(5, .ptr 100 0), (7, .ptr 110 0), (12, .bool true), (13, .int .i64 X), (14, .bool b), (137, .int .i64 want), (92, .lst 4 (asks.map eAsk29)), (93, .int .i64 asks.length), (94, .int .i64 k)]) (h' := plH l B1 S1 last1 now1 opn1 L1) les (leH_via (h1 := rkO l B1 (foN L1) now1 opn1 ++ (tab9 :: knO l l.length ⟨B1, S1, last1, now1, opn1⟩)) (by kernel_rfl) (show LeH _ (tab9 :: (knO l l.length ⟨B1, S1, last1, now1, opn1⟩ ++ rkO l B1 (foN L1) now1 opn1)) from leh)) ?_
      repeat' (first | (show W _ _ _ _ _ _; first | apply kA | refine kB rfl ?_ | refine kC rfl rfl ?_ | refine kD rfl rfl ?_ | apply kE | apply kF | apply kG | apply kH) | (show O _ _ _ _ _ _ _; first | (show O _ _ _ _ (⟨_, .store _ _ _, _, _, _, _⟩ :: _) _ _; refine kJ rfl rfl rfl rfl rfl rfl rfl rfl rfl rfl rfl ?_) | apply kK) | apply kL | ((first | apply kM | apply kN); (iterate 3 (· exact rfl)); (· first | exact ya)) | refine kO rfl rfl rfl rfl rfl ?_ | refine kP rfl rfl rfl ?_ | ((first | refine kQ rfl rfl ?_ ?_ | refine kR rfl rfl rfl rfl rfl ?_ ?_ | refine kS rfl rfl rfl ?_ ?_) <;> intro hc <;> (try simp only [KL, cond_true, cond_false, beq_iff_eq, bne_iff_ne, ne_eq, reduceCtorEq] at hc) <;> (try (have hT : True := hc; clear hT hc)) <;> (try (exfalso; omega))) | apply kT | apply kU | apply kV | apply kW | refine kX rfl ?_ | apply kY | apply kZ)
      refine wle (s' := [(5, .ptr 100 0), (7, .ptr 110 0), (12, .bool true), (13, .int .i64 X), (14, .bool b), (15, .int .i64 want), (92, .lst 4 (asks.map eAsk29)), (93, .int .i64 asks.length), (94, .int .i64 k)]) (h' := psV l B1 S1 last1 now1 opn1 L1 () false) les (show LeH _ (tab9 :: (knO l l.length ⟨B1, S1, last1, now1, opn1⟩ ++ rkO l B1 (foN L1) now1 opn1)) from leh) ?_
      rcases w4 with ⟨p, rfl, rfl, rfl⟩ | ⟨rfl, rfl, rfl⟩
      all_goals
        refine wdrawQ (psV l B1 S1 last1 now1 opn1 L1) (fun _ => True) (fun _ => True) [26, 35, 48] [] 0 99 (fun _ => [105, 106, 107, 108]) () (LeH.refl _) (by kernel_rfl) (by kernel_rfl) (by kernel_rfl) trivial trivial rfl rfl rfl rfl ?_
        refine qw_new (v := .bool true) rfl rfl (by kernel_rfl) (fun y hy => tn_ok ya) ?_
        repeat' (first | (show W _ _ _ _ _ _; first | apply kA | refine kB rfl ?_ | refine kC rfl rfl ?_ | refine kD rfl rfl ?_ | apply kE | apply kF | apply kG | apply kH | refine kI (by kernel_rfl) (by kernel_rfl) ?_) | (show O _ _ _ _ _ _ _; first | (show O _ _ _ _ (⟨_, .store _ _ _, _, _, _, _⟩ :: _) _ _; refine kJ rfl rfl rfl rfl rfl rfl rfl rfl rfl rfl rfl ?_) | apply kK) | apply kL | ((first | apply kM | apply kN); (iterate 3 (· exact rfl)); (· first | exact ya)) | (show QW _ _ _ _ _ _ _ _ _ _ _ _ _ _ _; first | refine qw_nil ?_ | (apply qw_any; (· exact rfl); (· exact rfl); (· exact rfl); (· intro y' f' hy'; first | exact ya); (· first | exact rfl | kernel_rfl)) | (apply qw_anyG; (· exact rfl); (· exact rfl); (· exact rfl); (· exact rfl); (· exact rfl); (· intro y' f' hy'; first | exact ya); (· first | exact rfl | kernel_rfl))) | refine kO rfl rfl rfl rfl rfl ?_ | refine kP rfl rfl rfl ?_ | ((first | refine kQ rfl rfl ?_ ?_ | refine kR rfl rfl rfl rfl rfl ?_ ?_ | refine kS rfl rfl rfl ?_ ?_) <;> intro hc <;> (try simp only [KL, cond_true, cond_false, beq_iff_eq, bne_iff_ne, ne_eq, reduceCtorEq] at hc) <;> (try (have hT : True := hc; clear hT hc)) <;> (try (exfalso; omega))) | apply kT | apply kU | apply kV | apply kW | refine kX rfl ?_ | apply kY | apply kZ)
        all_goals (try rw [show decide (Int.ofNat p = Int.ofNat p) = true from decide_eq_true rfl])
        repeat (first | refine qw_skipG rfl rfl rfl rfl rfl ?_ | refine qw_skipT rfl rfl rfl rfl rfl ?_)
        repeat' (first | (show W _ _ _ _ _ _; first | apply kA | refine kB rfl ?_ | refine kC rfl rfl ?_ | refine kD rfl rfl ?_ | apply kE | apply kF | apply kG | apply kH | refine kI (by kernel_rfl) (by kernel_rfl) ?_) | (show O _ _ _ _ _ _ _; first | (show O _ _ _ _ (⟨_, .store _ _ _, _, _, _, _⟩ :: _) _ _; refine kJ rfl rfl rfl rfl rfl rfl rfl rfl rfl rfl rfl ?_) | apply kK) | apply kL | ((first | apply kM | apply kN); (iterate 3 (· exact rfl)); (· first | exact ya)) | (show QW _ _ _ _ _ _ _ _ _ _ _ _ _ _ _; first | refine qw_nil ?_ | (apply qw_any; (· exact rfl); (· exact rfl); (· exact rfl); (· intro y' f' hy'; first | exact ya); (· first | exact rfl | kernel_rfl)) | (apply qw_anyG; (· exact rfl); (· exact rfl); (· exact rfl); (· exact rfl); (· exact rfl); (· intro y' f' hy'; first | exact ya); (· first | exact rfl | kernel_rfl))) | refine kO rfl rfl rfl rfl rfl ?_ | refine kP rfl rfl rfl ?_ | ((first | refine kQ rfl rfl ?_ ?_ | refine kR rfl rfl rfl rfl rfl ?_ ?_ | refine kS rfl rfl rfl ?_ ?_) <;> intro hc <;> (try simp only [KL, cond_true, cond_false, beq_iff_eq, bne_iff_ne, ne_eq, reduceCtorEq] at hc) <;> (try (have hT : True := hc; clear hT hc)) <;> (try (exfalso; omega))) | apply kT | apply kU | apply kV | apply kW | refine kX rfl ?_ | apply kY | apply kZ)
        repeat (first | refine qw_skipG rfl rfl rfl rfl rfl ?_ | refine qw_skipT rfl rfl rfl rfl rfl ?_)
        repeat' (first | (show W _ _ _ _ _ _; first | apply kA | refine kB rfl ?_ | refine kC rfl rfl ?_ | refine kD rfl rfl ?_ | apply kE | apply kF | apply kG | apply kH | refine kI (by kernel_rfl) (by kernel_rfl) ?_) | (show O _ _ _ _ _ _ _; first | (show O _ _ _ _ (⟨_, .store _ _ _, _, _, _, _⟩ :: _) _ _; refine kJ rfl rfl rfl rfl rfl rfl rfl rfl rfl rfl rfl ?_) | apply kK) | apply kL | ((first | apply kM | apply kN); (iterate 3 (· exact rfl)); (· first | exact ya)) | (show QW _ _ _ _ _ _ _ _ _ _ _ _ _ _ _; first | refine qw_nil ?_ | (apply qw_any; (· exact rfl); (· exact rfl); (· exact rfl); (· intro y' f' hy'; first | exact ya); (· first | exact rfl | kernel_rfl)) | (apply qw_anyG; (· exact rfl); (· exact rfl); (· exact rfl); (· exact rfl); (· exact rfl); (· intro y' f' hy'; first | exact ya); (· first | exact rfl | kernel_rfl))) | refine kO rfl rfl rfl rfl rfl ?_ | refine kP rfl rfl rfl ?_ | ((first | refine kQ rfl rfl ?_ ?_ | refine kR rfl rfl rfl rfl rfl ?_ ?_ | refine kS rfl rfl rfl ?_ ?_) <;> intro hc <;> (try simp only [KL, cond_true, cond_false, beq_iff_eq, bne_iff_ne, ne_eq, reduceCtorEq] at hc) <;> (try (have hT : True := hc; clear hT hc)) <;> (try (exfalso; omega))) | apply kT | apply kU | apply kV | apply kW | refine kX rfl ?_ | apply kY | apply kZ)
        refine qw_tuG (x' := ()) rfl rfl rfl rfl rfl trivial trivial (fun f hf => tl_call ρR f5 rfl (show LeH (tab9 :: (knO l l.length ⟨B1, S1, last1, now1, opn1⟩ ++ rkO l B1 (foN L1) now1 opn1)) _ from leh) (by kernel_rfl) (by kernel_rfl) (by kernel_rfl) (by kernel_rfl) (by kernel_rfl) (by kernel_rfl) (by kernel_rfl) rfl (leH_via (h1 := knO l l.length ⟨B1, S1, last1, now1, opn1⟩ ++ (tab9 :: rkO l B1 (foN L1) now1 opn1)) (by kernel_rfl) (show LeH _ (tab9 :: (knO l l.length ⟨B1, S1, last1, now1, opn1⟩ ++ rkO l B1 (foN L1) now1 opn1)) from leh))) (by kernel_rfl) ?_
        repeat' (first | (show W _ _ _ _ _ _; first | apply kA | refine kB rfl ?_ | refine kC rfl rfl ?_ | refine kD rfl rfl ?_ | apply kE | apply kF | apply kG | apply kH | refine kI (by kernel_rfl) (by kernel_rfl) ?_) | (show O _ _ _ _ _ _ _; first | (show O _ _ _ _ (⟨_, .store _ _ _, _, _, _, _⟩ :: _) _ _; refine kJ rfl rfl rfl rfl rfl rfl rfl rfl rfl rfl rfl ?_) | apply kK) | apply kL | ((first | apply kM | apply kN); (iterate 3 (· exact rfl)); (· first | exact ya)) | (show QW _ _ _ _ _ _ _ _ _ _ _ _ _ _ _; first | refine qw_nil ?_ | (apply qw_any; (· exact rfl); (· exact rfl); (· exact rfl); (· intro y' f' hy'; first | exact ya); (· first | exact rfl | kernel_rfl)) | (apply qw_anyG; (· exact rfl); (· exact rfl); (· exact rfl); (· exact rfl); (· exact rfl); (· intro y' f' hy'; first | exact ya); (· first | exact rfl | kernel_rfl))) | refine kO rfl rfl rfl rfl rfl ?_ | refine kP rfl rfl rfl ?_ | ((first | refine kQ rfl rfl ?_ ?_ | refine kR rfl rfl rfl rfl rfl ?_ ?_ | refine kS rfl rfl rfl ?_ ?_) <;> intro hc <;> (try simp only [KL, cond_true, cond_false, beq_iff_eq, bne_iff_ne, ne_eq, reduceCtorEq] at hc) <;> (try (have hT : True := hc; clear hT hc)) <;> (try (exfalso; omega))) | apply kT | apply kU | apply kV | apply kW | refine kX rfl ?_ | apply kY | apply kZ)
        rw [show decide (now1 = now1) = true from decide_eq_true rfl]
        repeat' (first | (show W _ _ _ _ _ _; first | apply kA | refine kB rfl ?_ | refine kC rfl rfl ?_ | refine kD rfl rfl ?_ | apply kE | apply kF | apply kG | apply kH | refine kI (by kernel_rfl) (by kernel_rfl) ?_) | (show O _ _ _ _ _ _ _; first | (show O _ _ _ _ (⟨_, .store _ _ _, _, _, _, _⟩ :: _) _ _; refine kJ rfl rfl rfl rfl rfl rfl rfl rfl rfl rfl rfl ?_) | apply kK) | apply kL | ((first | apply kM | apply kN); (iterate 3 (· exact rfl)); (· first | exact ya)) | (show QW _ _ _ _ _ _ _ _ _ _ _ _ _ _ _; first | refine qw_nil ?_ | (apply qw_any; (· exact rfl); (· exact rfl); (· exact rfl); (· intro y' f' hy'; first | exact ya); (· first | exact rfl | kernel_rfl)) | (apply qw_anyG; (· exact rfl); (· exact rfl); (· exact rfl); (· exact rfl); (· exact rfl); (· intro y' f' hy'; first | exact ya); (· first | exact rfl | kernel_rfl))) | refine kO rfl rfl rfl rfl rfl ?_ | refine kP rfl rfl rfl ?_ | ((first | refine kQ rfl rfl ?_ ?_ | refine kR rfl rfl rfl rfl rfl ?_ ?_ | refine kS rfl rfl rfl ?_ ?_) <;> intro hc <;> (try simp only [KL, cond_true, cond_false, beq_iff_eq, bne_iff_ne, ne_eq, reduceCtorEq] at hc) <;> (try (have hT : True := hc; clear hT hc)) <;> (try (exfalso; omega))) | apply kT | apply kU | apply kV | apply kW | refine kX rfl ?_ | apply kY | apply kZ)
        refine qw_tuG (x' := ()) rfl rfl rfl rfl rfl trivial trivial (fun f hf => tl_call ρR f6 rfl (show LeH (tab9 :: (knO l l.length ⟨B1, S1, last1, now1, opn1⟩ ++ rkO l B1 (foN L1) now1 opn1)) _ from leh) (by kernel_rfl) (by kernel_rfl) (by kernel_rfl) (by kernel_rfl) (by kernel_rfl) (by kernel_rfl) (by kernel_rfl) rfl (leH_via (h1 := knO l l.length ⟨B1, S1, last1, now1, opn1⟩ ++ (tab9 :: rkO l B1 (foN L1) now1 opn1)) (by kernel_rfl) (show LeH _ (tab9 :: (knO l l.length ⟨B1, S1, last1, now1, opn1⟩ ++ rkO l B1 (foN L1) now1 opn1)) from leh))) (by kernel_rfl) ?_
        repeat' (first | (show W _ _ _ _ _ _; first | apply kA | refine kB rfl ?_ | refine kC rfl rfl ?_ | refine kD rfl rfl ?_ | apply kE | apply kF | apply kG | apply kH | refine kI (by kernel_rfl) (by kernel_rfl) ?_) | (show O _ _ _ _ _ _ _; first | (show O _ _ _ _ (⟨_, .store _ _ _, _, _, _, _⟩ :: _) _ _; refine kJ rfl rfl rfl rfl rfl rfl rfl rfl rfl rfl rfl ?_) | apply kK) | apply kL | ((first | apply kM | apply kN); (iterate 3 (· exact rfl)); (· first | exact ya | exact Y.mk (ok_lend c8 rfl rfl rfl))) | (show QW _ _ _ _ _ _ _ _ _ _ _ _ _ _ _; first | refine qw_nil ?_ | (apply qw_any; (· exact rfl); (· exact rfl); (· exact rfl); (· intro y' f' hy'; first | exact ya | exact Y.mk (ok_lend c8 rfl rfl rfl)); (· first | exact rfl | kernel_rfl)) | (apply qw_anyG; (· exact rfl); (· exact rfl); (· exact rfl); (· exact rfl); (· exact rfl); (· intro y' f' hy'; first | exact ya | exact Y.mk (ok_lend c8 rfl rfl rfl)); (· first | exact rfl | kernel_rfl))) | refine kO rfl rfl rfl rfl rfl ?_ | refine kP rfl rfl rfl ?_ | ((first | refine kQ rfl rfl ?_ ?_ | refine kR rfl rfl rfl rfl rfl ?_ ?_ | refine kS rfl rfl rfl ?_ ?_) <;> intro hc <;> (try simp only [KL, cond_true, cond_false, beq_iff_eq, bne_iff_ne, ne_eq, reduceCtorEq] at hc) <;> (try (have hT : True := hc; clear hT hc)) <;> (try (exfalso; omega))) | apply kT | apply kU | apply kV | apply kW | refine kX rfl ?_ | apply kY | apply kZ)
        refine qw_tuG (x' := ()) rfl rfl rfl rfl rfl trivial trivial (fun f hf => tl_call ρR f7 rfl (show LeH (tab9 :: (knO l l.length ⟨B1, S1, last1, now1, opn1⟩ ++ rkO l B1 (foN L1) now1 opn1)) _ from leh) (by kernel_rfl) (by kernel_rfl) (by kernel_rfl) (by kernel_rfl) (by kernel_rfl) (by kernel_rfl) (by kernel_rfl) rfl (leH_via (h1 := knO l l.length ⟨B1, S1, last1, now1, opn1⟩ ++ (tab9 :: rkO l B1 (foN L1) now1 opn1)) (by kernel_rfl) (show LeH _ (tab9 :: (knO l l.length ⟨B1, S1, last1, now1, opn1⟩ ++ rkO l B1 (foN L1) now1 opn1)) from leh))) (by kernel_rfl) ?_
        repeat' (first | (show W _ _ _ _ _ _; first | apply kA | refine kB rfl ?_ | refine kC rfl rfl ?_ | refine kD rfl rfl ?_ | apply kE | apply kF | apply kG | apply kH | refine kI (by kernel_rfl) (by kernel_rfl) ?_) | (show O _ _ _ _ _ _ _; first | (show O _ _ _ _ (⟨_, .store _ _ _, _, _, _, _⟩ :: _) _ _; refine kJ rfl rfl rfl rfl rfl rfl rfl rfl rfl rfl rfl ?_) | apply kK) | apply kL | ((first | apply kM | apply kN); (iterate 3 (· exact rfl)); (· first | exact ya | exact Y.mk (ok_lend c9 rfl rfl rfl))) | (show QW _ _ _ _ _ _ _ _ _ _ _ _ _ _ _; first | refine qw_nil ?_ | (apply qw_any; (· exact rfl); (· exact rfl); (· exact rfl); (· intro y' f' hy'; first | exact ya | exact Y.mk (ok_lend c9 rfl rfl rfl)); (· first | exact rfl | kernel_rfl)) | (apply qw_anyG; (· exact rfl); (· exact rfl); (· exact rfl); (· exact rfl); (· exact rfl); (· intro y' f' hy'; first | exact ya | exact Y.mk (ok_lend c9 rfl rfl rfl)); (· first | exact rfl | kernel_rfl))) | refine kO rfl rfl rfl rfl rfl ?_ | refine kP rfl rfl rfl ?_ | ((first | refine kQ rfl rfl ?_ ?_ | refine kR rfl rfl rfl rfl rfl ?_ ?_ | refine kS rfl rfl rfl ?_ ?_) <;> intro hc <;> (try simp only [KL, cond_true, cond_false, beq_iff_eq, bne_iff_ne, ne_eq, reduceCtorEq] at hc) <;> (try (have hT : True := hc; clear hT hc)) <;> (try (exfalso; omega))) | apply kT | apply kU | apply kV | apply kW | refine kX rfl ?_ | apply kY | apply kZ)
        exact ⟨(k + 1, ⟨B1, S1, last1, now1, opn1⟩, L1), ⟨by simp only; omega, p1, hn1⟩, by simp only; omega, les, LeH.refl _⟩
  · subst hkk
    repeat' (first | (show W _ _ _ _ _ _; first | apply kA | refine kB rfl ?_ | refine kC rfl rfl ?_ | refine kD rfl rfl ?_ | apply kE | apply kF | apply kG | apply kH | refine kI (by kernel_rfl) (by kernel_rfl) ?_) | (show O _ _ _ _ _ _ _; first | (show O _ _ _ _ (⟨_, .store _ _ _, _, _, _, _⟩ :: _) _ _; refine kJ rfl rfl rfl rfl rfl rfl rfl rfl rfl rfl rfl ?_) | apply kK) | apply kL | ((first | apply kM | apply kN); (iterate 3 (· exact rfl)); (· first | exact ya | exact Y.mk (ok_callT (id := 9) c2 rfl rfl))) | refine kO rfl rfl rfl rfl rfl ?_ | refine kP rfl rfl rfl ?_ | ((first | refine kQ rfl rfl ?_ ?_ | refine kR rfl rfl rfl rfl rfl ?_ ?_ | refine kS rfl rfl rfl ?_ ?_) <;> intro hc <;> (try simp only [KL, cond_true, cond_false, beq_iff_eq, bne_iff_ne, ne_eq, reduceCtorEq] at hc) <;> (try (have hT : True := hc; clear hT hc)) <;> (try (exfalso; omega))) | apply kT | apply kU | apply kV | apply kW | refine kX rfl ?_ | apply kY | apply kZ)
    all_goals first | (exfalso; omega) | exact retq rfl rfl
theorem kernelPlays_fn (l : List Task) (asks : List Ask29) : FnT Tryz.prog tabK 3 [.lst 7 (l.map eTask), .lst 4 (asks.map eAsk29)] (.bool true) := by
  cases hfew : fewQ l 20
  · exact kernelPlays_1 l asks hfew
  by_cases ha : asks.length ≤ 100
  · cases hok : okK l
    · exact kernelPlays_3 l asks hfew ha hok
    · exact kernelPlays_4 l asks hfew ha hok
  · exact kernelPlays_2 l asks hfew ha
end Go.Proofs.YtfjoaeghnfkdlaaGreatDoor
