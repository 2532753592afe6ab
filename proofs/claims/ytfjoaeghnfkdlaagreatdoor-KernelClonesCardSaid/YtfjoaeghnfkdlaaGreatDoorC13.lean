/- Sets of numbers: put, drop, has, count, first; the waking calls. No condition. -/
import Derived.Test.YtfjoaeghnfkdlaaGreatDoorC12
import Derived.Test.YtfjoaeghnfkdlaaGreatDoorC10
import Derived.MapKept
import Derived.Test.YtfjoaeghnfkdlaaGreatDoorC8
import Derived.WalkKit
import Derived.Test.YtfjoaeghnfkdlaaGreatDoorC9
import Derived.Test.YtfjoaeghnfkdlaaGreatDoorC7
import Derived.Test.YtfjoaeghnfkdlaaGreatDoorC11
set_option linter.unusedSimpArgs false
set_option linter.unusedVariables false
set_option maxHeartbeats 1000000
namespace Go.Proofs.YtfjoaeghnfkdlaaGreatDoor
set_option maxRecDepth 100000
set_option maxRecDepth 100000
open Go.RowKit
def bitN (i : Int) : Nat := if 0 ≤ i ∧ i ≤ 63 then 2 ^ i.toNat else 0
theorem bitN_lt (i : Int) : bitN i < 2 ^ 64 := by
  unfold bitN; split
  · exact Nat.pow_lt_pow_right (by omega) (by omega)
  · omega
theorem ok_shlN {P : Program} {s : Slots} {h : Heap} {o : Oper} {t yt : TypeId} {x y : Operand} {k k' : IntKind} {a b : Int} (ho : o.op = .binOp .shl t x y yt) (hx : evA s x = .int k a) (hy : evA s y = .int k' b) (h0 : 0 ≤ b) : OkO P o s h (.int k (k.wrap (a * 2 ^ min b.toNat k.bits))) := by
  have hb : binA .shl (.int k a) (.int k' b) = some (0 ≤ b, .int k (k.wrap (a * 2 ^ min b.toNat k.bits))) := rfl
  have hs : stepO P s h o = some (0 ≤ b, .int k (k.wrap (a * 2 ^ min b.toNat k.bits))) := by
    unfold stepO; simp only [ho, hx, hy, hb]
  exact stepO_sound hs h0
theorem bit_e {i : Int} (h0 : 0 ≤ i) (h1 : i ≤ 63) : IntKind.u64.wrap (1 * 2 ^ min i.toNat IntKind.u64.bits) = (bitN i : Int) := by
  have h := bitN_lt i
  have e : (1 : Int) * 2 ^ min i.toNat IntKind.u64.bits = (bitN i : Int) := by
    unfold bitN
    rw [if_pos ⟨h0, h1⟩, show min i.toNat IntKind.u64.bits = i.toNat by simp [IntKind.bits]; omega]
    simp
  rw [e]
  exact wrap_in (by simp only [rangeP]; omega)
theorem bit_fn (i : Int) : Fn Tryz.prog 128 [.int .i64 i] (.int .u64 (bitN i)) := by
  refine fnb Tryz.func128 (entered_of (by kernel_rfl)) rfl rfl rfl ?_
  repeat' (first | refine sA ?_ | ((first | apply kM | apply kN); (iterate 3 (· exact rfl)); (· first | exact ya | exact Y.mk (ok_shlN rfl rfl rfl (by omega)))) | refine sG ?_ | (refine sK ?_ ?_ <;> intro hc <;> (try simp only [KL, sL, reduceCtorEq] at hc) <;> (try (have hT : True := hc; clear hT hc)) <;> (try (exfalso; omega))))
  · exact retq rfl (congrArg (AV.int .u64) (by rw [bitN, if_neg (by omega)]; rfl))
  · exact retq rfl (congrArg (AV.int .u64) (bit_e (by omega) (by omega)))
  · exact retq rfl (congrArg (AV.int .u64) (by rw [bitN, if_neg (by omega)]; rfl))
def hasN (m : Nat) (i : Int) : Bool := decide (m &&& bitN i ≠ 0)
theorem has_fn (m : Nat) (hm : m < 2 ^ 64) (i : Int) : Fn Tryz.prog 108 [.int .u64 m, .int .i64 i] (.bool (hasN m i)) := by
  refine fnb Tryz.func108 (entered_of (by kernel_rfl)) rfl rfl rfl ?_
  repeat' (first | refine sA ?_ | ((first | apply kM | apply kN); (iterate 3 (· exact rfl)); (· first | exact ya | exact q_c (bit_fn i) rfl)) | refine sG ?_ | (refine sK ?_ ?_ <;> intro hc <;> (try simp only [KL, sL, reduceCtorEq] at hc) <;> (try (have hT : True := hc; clear hT hc)) <;> (try (exfalso; omega))))
  refine retq rfl (congrArg AV.bool ?_)
  rw [and64 hm (bitN_lt i)]
  unfold hasN
  rw [decide_not]
  congr 1
  rw [Bool.eq_iff_iff]
  simp
end Go.Proofs.YtfjoaeghnfkdlaaGreatDoor
namespace Go.Proofs.YtfjoaeghnfkdlaaGreatDoor
set_option maxRecDepth 100000
set_option maxRecDepth 100000
open Go.RowKit
def rkTo (prio : List Int) (k : Nat) : List Int := (List.range k).map fun j : Nat => (rk prio prio.length (j : Int) : Int)
def setL (m : Nat) : List Int := (bitsL m).map fun i : Nat => (i : Int)
def bitsTo (m k : Nat) : List Int := ((List.range k).filter m.testBit).map fun i : Nat => (i : Int)
theorem bitsTo_len (m k : Nat) : (bitsTo m k).length ≤ k := by
  unfold bitsTo
  rw [List.length_map]
  refine Nat.le_trans (List.length_filter_le _ _) (by simp)
def pick1 (prio : List Int) (b i : Int) : Int := if 0 ≤ i ∧ i < prio.length ∧ (b < 0 ∨ befB prio i b = true) then i else b
def pickTo (prio l : List Int) (k : Nat) : Int := (l.take k).foldl (pick1 prio) (-1)
end Go.Proofs.YtfjoaeghnfkdlaaGreatDoor
namespace Go.Proofs.YtfjoaeghnfkdlaaGreatDoor
set_option maxRecDepth 100000
set_option maxRecDepth 100000
open Go.RowKit
end Go.Proofs.YtfjoaeghnfkdlaaGreatDoor
namespace Go.Proofs.YtfjoaeghnfkdlaaGreatDoor
set_option maxRecDepth 100000
set_option maxRecDepth 100000
open Go.RowKit
theorem setL_step {x : Nat} (h0 : 0 < x) (h1 : x < 2 ^ 64) : setL x = (tzN x : Int) :: setL (x &&& (x - 1)) := by
  have := (bits_step h0 h1).1
  unfold setL
  rw [this, List.map_cons]
theorem setL_zero : setL 0 = [] := by unfold setL; rw [bits_zero]; rfl
theorem seq_rd (l : Nat) (r : Loop) (σ0 : Sig) (pins : List (Nat × Value)) (xs : List Int) (m i : Nat) (hr : r.state = .ready) (hpd : r.pending = none) (hab : rfOf Tryz.f127.body = some (r.params, r.assign, r.body)) (hk : r.tmps.size = Tryz.f127.ntmps)
    (hs : SlotsOk σ0 pins [(2, .ptr 1 0)] r.tmps) (hx : xs.length ≤ 1000) :
    YF Tryz.prog l pins [.int .i64 i] (setH l r σ0 m [(1, .blk 43 [.own 5]), (5, .row 3 1 (xs.map eI)), (7, .sem (thatC tabK))]) (fun b h' => b = true ∧ h' = setH l { r with state := .ready, pending := none } σ0 m [(1, .blk 43 [.own 5]), (5, .row 3 1 ((xs ++ [(i : Int)]).map eI)), (7, .sem (thatC tabK))]) := by
  change Option.some (_, _, _) = some _ at hab
  injection hab with hab
  injection hab with h1 hab
  injection hab with h2 h3
  refine yf_le (yf_body (R := fun b h' => b = true ∧ LeH h' (setH l { r with state := .ready, pending := none } σ0 m [(1, .blk 43 [.own 5]), (5, .row 3 1 ((xs ++ [(i : Int)]).map eI)), (7, .sem (thatC tabK))])) (idL := 8) (idK := 9) (σ0 := σ0) rfl rfl hr h1.symm hk (by decide) hs ?_) ?_
  · refine wcode h2 ?_
    repeat' (first | refine sA ?_ | ((first | apply kM | apply kN); (iterate 3 (· exact rfl)); (· first | exact ya)) | refine sG ?_ | (refine sK ?_ ?_ <;> intro hc <;> (try simp only [KL, sL, reduceCtorEq] at hc) <;> (try (have hT : True := hc; clear hT hc)) <;> (try (exfalso; omega))))
    refine ⟨rfl, ?_⟩
    refine wcode h3 ?_
    repeat' (first | refine sA ?_ | ((first | apply kM | apply kN); (iterate 3 (· exact rfl)); (· first | exact ya)) | refine sG ?_ | (refine sK ?_ ?_ <;> intro hc <;> (try simp only [KL, sL, reduceCtorEq] at hc) <;> (try (have hT : True := hc; clear hT hc)) <;> (try (exfalso; omega))))
    refine oturn (turn_undef (id := 1) rfl) ?_
    refine ole (h' := (8, .sem (objC l (.loop { r with state := .busy }))) :: (9, .sem (knowC σ0)) :: (0, .blk 91 [.int .u64 m]) :: [(1, .blk 43 [.undef]), (5, .row 3 1 (xs.map eI)), (7, .sem (thatC tabK))]) (LeS.refl _) leh ?_
    (refine ao_ap (id := 5) (ys := [(i : Int)]) (by_ := 8) rfl rfl rfl rfl rfl rfl rfl rfl rfl rfl (fun _ _ => rfl) ?_ ?_ rfl rfl rfl rfl rfl ?_; (· (first | omega | ((try simp only [List.length_cons, List.length_nil, List.length_append, List.length_map]) <;> omega))); (· (first | omega | ((try simp only [List.length_cons, List.length_nil, List.length_append, List.length_map]) <;> omega))))
    repeat' (first | refine sA ?_ | ((first | apply kM | apply kN); (iterate 3 (· exact rfl)); (· first | exact ya)) | refine sG ?_ | (refine sK ?_ ?_ <;> intro hc <;> (try simp only [KL, sL, reduceCtorEq] at hc) <;> (try (have hT : True := hc; clear hT hc)) <;> (try (exfalso; omega))))
    exact ⟨rfl, rfl, leh⟩
  · rintro b h' ⟨rfl, h5⟩
    exact ⟨_, h5, rfl, rfl⟩
theorem seq_it (m : Nat) (hm : m < 2 ^ 64) (l : Nat) (r : Loop) (σ0 : Sig) (pins : List (Nat × Value)) (hr : r.state = .ready) (hpd : r.pending = none) (hab : rfOf Tryz.f127.body = some (r.params, r.assign, r.body)) (hk : r.tmps.size = Tryz.f127.ntmps)
    (hs : SlotsOk σ0 pins [(2, .ptr 1 0)] r.tmps) (hp5 : ∀ p ∈ pins, p.1 < 5) :
    FnHp Tryz.prog pins 104 (.fn (.yield l) [] [] :: [.ptr 0 0]) (setH l r σ0 m [(1, .blk 43 [.own 5]), (5, .row 3 1 (([] : List Int).map eI)), (7, .sem (thatC tabK))]) (fun v h' => v = .tup [] ∧ h' = setH l r σ0 0 [(1, .blk 43 [.own 5]), (5, .row 3 1 ((setL m).map eI)), (7, .sem (thatC tabK))]) := by
  refine fnhbp Tryz.func104 (entered_of (by kernel_rfl)) rfl rfl ?_
  repeat' (first | refine sA ?_ | ((first | apply kM | apply kN); (iterate 3 (· exact rfl)); (· first | exact ya)) | refine sG ?_ | (refine sK ?_ ?_ <;> intro hc <;> (try simp only [KL, sL, reduceCtorEq] at hc) <;> (try (have hT : True := hc; clear hT hc)) <;> (try (exfalso; omega))))
  have hl64 : (setL m).length ≤ 64 := bitsTo_len m 64
  refine wloop (fun x : Nat × List Int => ([(0, .fn (.yield l) [] []), (1, .ptr 0 0)], setH l r σ0 x.1 [(1, .blk 43 [.own 5]), (5, .row 3 1 (x.2.map eI)), (7, .sem (thatC tabK))])) (fun x => x.1 < 2 ^ 64 ∧ x.2 ++ setL x.1 = setL m) (fun x => x.1) (m, []) ⟨hm, rfl⟩ les leh (fun x hx => ?_)
  obtain ⟨x, xs⟩ := x
  obtain ⟨h1, h3⟩ := hx
  simp only at h1 h3 ⊢
  repeat' (first | refine sA ?_ | ((first | apply kM | apply kN); (iterate 3 (· exact rfl)); (· first | exact ya | exact Y.mk (ok_callT (id := 7) (tz_fn x h1) rfl rfl))) | refine sG ?_ | (refine sK ?_ ?_ <;> intro hc <;> (try simp only [KL, sL, reduceCtorEq] at hc) <;> (try (have hT : True := hc; clear hT hc)) <;> (try (exfalso; omega))))
  · have e1 := setL_step (by omega) h1
    have hrd := rdy hr hpd
    have hlx : xs.length ≤ 1000 := by
      have := congrArg List.length h3
      rw [List.length_append] at this
      omega
    refine ycall (fun i => i) (seq_rd l r σ0 pins xs x (tzN x) hr hpd hab hk hs hlx) (fun p hp => hp) hp5 rfl rfl rfl rfl leh rfl rfl rfl rfl rfl rfl (fun r1 h' hR => ?_)
    rw [hrd] at hR
    obtain ⟨rfl, rfl⟩ := hR
    refine ⟨rfl, ?_⟩
    refine ole (h' := setH l r σ0 x [(1, .blk 43 [.own 5]), (5, .row 3 1 ((xs ++ [(tzN x : Int)]).map eI)), (7, .sem (thatC tabK))]) (LeS.refl _) leh ?_
    repeat' (first | refine sA ?_ | ((first | apply kM | apply kN); (iterate 3 (· exact rfl)); (· first | exact ya | exact q_w rfl)) | refine sG ?_ | (refine sK ?_ ?_ <;> intro hc <;> (try simp only [KL, sL, reduceCtorEq] at hc) <;> (try (have hT : True := hc; clear hT hc)) <;> (try (exfalso; omega))))
    have e4 : bitsV .and .u64 (x : Int) ((x : Int) - 1) = ((x &&& (x - 1) : Nat) : Int) := by rw [show (x : Int) - 1 = ((x - 1 : Nat) : Int) by omega, and64 h1 (by omega)]
    refine ⟨(x &&& (x - 1), xs ++ [(tzN x : Int)]), ⟨Nat.lt_trans (and_lt (by omega)) h1, ?_⟩, and_lt (by omega), les, ?_⟩
    · rw [← h3, e1]; simp
    · show LeH _ ((8, _) :: (9, _) :: (0, .blk _ [.int .u64 ((x &&& (x - 1) : Nat) : Int)]) :: _)
      rw [← e4]
      exact leh
  · obtain rfl : x = 0 := by omega
    rw [setL_zero, List.append_nil] at h3
    subst h3
    exact retn rfl ⟨rfl, rfl⟩
def ρl (i : Nat) : Nat := [0, 10, 2, 3, 4, 11, 6, 7, 21, 22].getD i i
theorem seq_fn (m : Nat) (hm : m < 2 ^ 64) : FnH Tryz.prog 127 [.nils, .fn (.func 104) [] [.ptr 0 0]] [(0, .blk 91 [.int .u64 m]), (7, .sem (thatC tabK))] (fun v h' => v = .lst 1 ((setL m).map eI) ∧ h' = [(7, .sem (thatC tabK))]) := by
  refine fnhv Tryz.func127 (entered_of (by kernel_rfl)) rfl rfl ?_
  refine v_seq (v_w ?_)
  refine wturn (turn_own eI (t := 0) rfl 11 3 1 (by omega) rfl) ?_
  repeat' (first | refine sA ?_ | (show O _ _ _ _ _ _ _; first | (show O _ _ _ _ (⟨_, .box _ _, _, _, _, _⟩ :: _) _ _; first | refine ao_box (id := 10) rfl rfl rfl rfl rfl rfl rfl rfl ?_)) | ((first | apply kM | apply kN); (iterate 3 (· exact rfl)); (· first | exact yab)) | refine sG ?_ | (refine sK ?_ ?_ <;> intro hc <;> (try simp only [KL, sL, reduceCtorEq] at hc) <;> (try (have hT : True := hc; clear hT hc)) <;> (try (exfalso; omega))))
  refine vThenN ?_
  refine v_mid (fun D : Nat => ([mark D], [(2, .ptr 10 0)], [(10, .blk 43 [.own 11]), (11, .row 3 1 ((setL m).map eI)), (7, .sem (thatC tabK)), (20, .sem (objC D (.deferred (some []))))])) ?_ (fun D => ?_)
  · refine v_seq (v_w ?_)
    repeat' (first | refine sA ?_ | ((first | apply kM | apply kN); (iterate 3 (· exact rfl)); (· first | exact ya)) | refine sG ?_ | (refine sK ?_ ?_ <;> intro hc <;> (try simp only [KL, sL, reduceCtorEq] at hc) <;> (try (have hT : True := hc; clear hT hc)) <;> (try (exfalso; omega))))
    refine vThenN (v_block ?_)
    refine v_le (s' := [(2, .ptr 10 0), (6, .fn (.func 104) [] [.ptr 0 0])]) (h' := [(10, .blk 43 [.own 11]), (11, .row 3 1 (([] : List Int).map eI)), (0, .blk 91 [.int .u64 m]), (7, .sem (thatC tabK))]) les leh ?_
    refine v_range (ρl) (caps0 := [.ptr 0 0]) (s0 := [(2, .ptr 1 0)]) (hin0 := [(0, .blk 91 [.int .u64 m]), (1, .blk 43 [.own 5]), (5, .row 3 1 (([] : List Int).map eI)), (7, .sem (thatC tabK))]) 20 21 22 (R := fun l r v h' => r.state = .ready ∧ r.pending = none ∧ v = .tup [] ∧ ∃ σ0, h' = setH l r σ0 0 [(1, .blk 43 [.own 5]), (5, .row 3 1 ((setL m).map eI)), (7, .sem (thatC tabK))])
      rfl rfl rfl rfl (fun _ => rfl) (fun _ _ _ => rfl) (fun _ _ _ _ => leh) rfl rfl rfl (fun _ _ _ _ => rfl) les rfl (fun l D r σ0 pins q1 q2 q3 q4 q5 q6 q7 q8 => ?_) (fun l D r σ0 v h' hR => ?_) rfl
    · exact fnhp_mono (seq_it m hm l r σ0 pins q1 q2 (by rw [q3, q4, q5]; rfl) q6 q7 q8) fun v h' ⟨e1, e2⟩ => ⟨q1, q2, e1, σ0, e2⟩
    · obtain ⟨q1, q2, rfl, σ1, rfl⟩ := hR
      refine ⟨rfl, r, rfl, by rw [q1]; simp, fun _ => ?_, fun c e => by rw [q2] at e; cases e⟩
      exact vInN (vThenN ⟨D, rfl, les, leh⟩)
  · refine v_seq (v_w ?_)
    repeat' (first | refine sA ?_ | ((first | apply kM | apply kN); (iterate 3 (· exact rfl)); (· first | exact ya)) | refine sG ?_ | (refine sK ?_ ?_ <;> intro hc <;> (try simp only [KL, sL, reduceCtorEq] at hc) <;> (try (have hT : True := hc; clear hT hc)) <;> (try (exfalso; omega))))
    refine vThenN (v_w (wret ?_))
    refine retvT (fun _ => turn_freeze (t := 4) rfl rfl rfl) ?_
    exact retv1 (id := 20) rfl rfl (h0 := [(7, .sem (thatC tabK))]) leh rfl ⟨rfl, rfl⟩
theorem collect_fn (m : Nat) (hm : m < 2 ^ 64) : FnH Tryz.prog 106 [.fn (.func 104) [] [.ptr 0 0]] [(0, .blk 91 [.int .u64 m]), (7, .sem (thatC tabK))] (fun v h' => v = .lst 1 ((setL m).map eI) ∧ h' = [(7, .sem (thatC tabK))]) := by
  refine fnhb Tryz.func106 (entered_of (by kernel_rfl)) rfl rfl ?_
  repeat' (first | refine sA ?_ | ((first | apply kM | apply kN); (iterate 3 (· exact rfl)); (· first | exact ya)) | refine sG ?_ | (refine sK ?_ ?_ <;> intro hc <;> (try simp only [KL, sL, reduceCtorEq] at hc) <;> (try (have hT : True := hc; clear hT hc)) <;> (try (exfalso; omega))))
  refine zcall (fun i => i) (seq_fn m hm) rfl rfl leh rfl rfl rfl rfl rfl rfl (fun r h' hR => ?_)
  obtain ⟨rfl, rfl⟩ := hR
  refine ⟨rfl, rfl, ?_⟩
  repeat' (first | refine sA ?_ | ((first | apply kM | apply kN); (iterate 3 (· exact rfl)); (· first | exact ya)) | refine sG ?_ | (refine sK ?_ ?_ <;> intro hc <;> (try simp only [KL, sL, reduceCtorEq] at hc) <;> (try (have hT : True := hc; clear hT hc)) <;> (try (exfalso; omega))))
  refine reth rfl leh ⟨rfl, rfl⟩
def ρc (i : Nat) : Nat := [10, 1, 2, 3, 4, 5, 6, 9, 8, 7].getD i i
theorem blist_fn (m : Nat) (hm : m < 2 ^ 64) : FnT Tryz.prog tabK 75 [.int .u64 m] (.lst 1 ((setL m).map eI)) := by
  refine fntw Tryz.func75 (entered_of (by kernel_rfl)) rfl rfl rfl rfl ?_
  repeat' (first | refine sA ?_ | ((first | apply kM | apply kN); (iterate 3 (· exact rfl)); (· first | exact ya)) | refine sG ?_ | (refine sK ?_ ?_ <;> intro hc <;> (try simp only [KL, sL, reduceCtorEq] at hc) <;> (try (have hT : True := hc; clear hT hc)) <;> (try (exfalso; omega))))
  refine oturn (turn_dummy eI 10 3 1 (by omega) rfl) ?_
  refine zcall (fun i => i + 5) (all_fn m) rfl rfl leh rfl rfl rfl rfl rfl rfl (fun r h' hR => ?_)
  obtain ⟨rfl, rfl⟩ := hR
  refine ⟨rfl, rfl, ?_⟩
  repeat' (first | refine sA ?_ | ((first | apply kM | apply kN); (iterate 3 (· exact rfl)); (· first | exact ya)) | refine sG ?_ | (refine sK ?_ ?_ <;> intro hc <;> (try simp only [KL, sL, reduceCtorEq] at hc) <;> (try (have hT : True := hc; clear hT hc)) <;> (try (exfalso; omega))))
  refine zcall (fun i => ρc i) (collect_fn m hm) rfl rfl leh rfl rfl rfl rfl rfl rfl (fun r h' hR => ?_)
  obtain ⟨rfl, rfl⟩ := hR
  refine ⟨rfl, rfl, ?_⟩
  repeat' (first | refine sA ?_ | ((first | apply kM | apply kN); (iterate 3 (· exact rfl)); (· first | exact ya)) | refine sG ?_ | (refine sK ?_ ?_ <;> intro hc <;> (try simp only [KL, sL, reduceCtorEq] at hc) <;> (try (have hT : True := hc; clear hT hc)) <;> (try (exfalso; omega))))
  exact retq rfl rfl
end Go.Proofs.YtfjoaeghnfkdlaaGreatDoor
namespace Go.Proofs.YtfjoaeghnfkdlaaGreatDoor
set_option maxRecDepth 100000
set_option maxRecDepth 100000
open Go.RowKit
theorem pick_skip {prio : List Int} : ∀ (q : List Nat) (b : Int), (∀ i ∈ q, prio.length ≤ i) → (q.map fun i : Nat => (i : Int)).foldl (pick1 prio) b = b
  | [], b, h => rfl
  | x :: q, b, h => by
    have hx := h x List.mem_cons_self
    rw [List.map_cons, List.foldl_cons]
    have e : pick1 prio b (x : Int) = b := by unfold pick1; rw [if_neg (by omega)]
    rw [e]; exact pick_skip q b fun i hi => h i (List.mem_cons_of_mem _ hi)
theorem pick_same {prio : List Int} : ∀ (q : List Nat) (b : Int), q.Pairwise (· < ·) → (∀ i ∈ q, b < (i : Int)) → (pickF prio q b).1 = (q.map fun i : Nat => (i : Int)).foldl (pick1 prio) b
  | [], b, h, hb => rfl
  | x :: q, b, h, hb => by
    rw [List.pairwise_cons] at h
    rw [pickF]
    by_cases hx : x < prio.length
    · rw [if_pos hx, List.map_cons, List.foldl_cons]
      have hbx := hb x List.mem_cons_self
      have e : pick1 prio b (x : Int) = pickN prio b x := by
        unfold pick1 pickN befB pr
        by_cases h1 : b < 0 ∨ prio.getD b.toNat 0 < prio.getD (x : Int).toNat 0
        · rw [if_pos h1, if_pos]
          refine ⟨by omega, by omega, ?_⟩
          rcases h1 with h1 | h1
          · exact .inl h1
          · exact .inr (by simp only [decide_eq_true_eq]; exact .inl h1)
        · rw [if_neg h1, if_neg]
          rintro ⟨_, _, h2 | h2⟩
          · exact h1 (.inl h2)
          · simp only [decide_eq_true_eq] at h2
            rcases h2 with h2 | h2
            · exact h1 (.inr h2)
            · omega
      rw [e]
      refine pick_same q _ h.2 fun i hi => ?_
      have := h.1 i hi
      unfold pickN; split <;> omega
    · rw [if_neg hx]
      rw [pick_skip (x :: q) b fun i hi => by
        rcases List.mem_cons.1 hi with rfl | hi
        · omega
        · have := h.1 i hi; omega]
theorem bitsL_lt (m : Nat) : (bitsL m).Pairwise (· < ·) := List.Pairwise.filter _ List.pairwise_lt_range
theorem pick_eq (prio : List Int) (m : Nat) : (pickF prio (bitsL m) (-1)).1 = pickTo prio (setL m) (setL m).length := by
  rw [pick_same _ _ (bitsL_lt m) (fun i _ => by omega), pickTo, List.take_length]; rfl
theorem setL_len (m : Nat) : (setL m).length ≤ 64 := bitsTo_len m 64
end Go.Proofs.YtfjoaeghnfkdlaaGreatDoor
namespace Go.Proofs.YtfjoaeghnfkdlaaGreatDoor
set_option maxRecDepth 100000
set_option maxRecDepth 100000
open Go.RowKit
def putN (m : Nat) (i : Int) : Nat := m ||| bitN i
def dropN (m : Nat) (i : Int) : Nat := m &&& (2 ^ 64 - (bitN i + 1))
theorem putN_lt {m : Nat} (hm : m < 2 ^ 64) (i : Int) : putN m i < 2 ^ 64 := Nat.or_lt_two_pow hm (bitN_lt i)
theorem dropN_lt {m : Nat} (hm : m < 2 ^ 64) (i : Int) : dropN m i < 2 ^ 64 := Nat.lt_of_le_of_lt Nat.and_le_left hm
theorem or64 {a b : Nat} (ha : a < 2 ^ 64) (hb : b < 2 ^ 64) : bitsV .or .u64 (a : Int) (b : Int) = ((a ||| b : Nat) : Int) := by
  unfold bitsV
  have e : (BitVec.ofInt IntKind.u64.bits (a : Int) ||| BitVec.ofInt IntKind.u64.bits (b : Int)).toNat = a ||| b := by
    rw [BitVec.ofInt_natCast, BitVec.ofInt_natCast, BitVec.toNat_or, BitVec.toNat_ofNat, BitVec.toNat_ofNat]
    show (a % 2 ^ 64) ||| (b % 2 ^ 64) = _
    rw [Nat.mod_eq_of_lt ha, Nat.mod_eq_of_lt hb]
  simp only [e]
  have : a ||| b < 2 ^ 64 := Nat.or_lt_two_pow ha hb
  exact wrap_in (by simp only [rangeP]; omega)
theorem not64 {a b : Nat} (ha : a < 2 ^ 64) (hb : b < 2 ^ 64) : bitsV .andNot .u64 (a : Int) (b : Int) = ((a &&& (2 ^ 64 - (b + 1)) : Nat) : Int) := by
  unfold bitsV
  have e : (BitVec.ofInt IntKind.u64.bits (a : Int) &&& ~~~BitVec.ofInt IntKind.u64.bits (b : Int)).toNat = a &&& (2 ^ 64 - (b + 1)) := by
    rw [BitVec.ofInt_natCast, BitVec.ofInt_natCast, BitVec.toNat_and, BitVec.toNat_not, BitVec.toNat_ofNat, BitVec.toNat_ofNat]
    show (a % 2 ^ 64) &&& (2 ^ 64 - 1 - b % 2 ^ 64) = _
    rw [Nat.mod_eq_of_lt ha, Nat.mod_eq_of_lt hb, Nat.sub_sub, Nat.add_comm 1 b]
  simp only [e]
  have : a &&& (2 ^ 64 - (b + 1)) < 2 ^ 64 := Nat.lt_of_le_of_lt Nat.and_le_left ha
  exact wrap_in (by simp only [rangeP]; omega)
theorem bitN_bit (i : Int) (j : Nat) : (bitN i).testBit j = decide (0 ≤ i ∧ i ≤ 63 ∧ i = (j : Int)) := by
  unfold bitN
  by_cases h : 0 ≤ i ∧ i ≤ 63
  · rw [if_pos h, Nat.testBit_two_pow]
    rw [Bool.eq_iff_iff]
    simp only [decide_eq_true_eq]
    omega
  · rw [if_neg h, Nat.zero_testBit]
    rw [Bool.eq_iff_iff]
    simp only [decide_eq_true_eq, Bool.false_eq_true, false_iff]
    omega
theorem mem_setL {m : Nat} {i : Int} : i ∈ setL m ↔ 0 ≤ i ∧ i ≤ 63 ∧ m.testBit i.toNat = true := by
  unfold setL bitsL
  constructor
  · intro h
    obtain ⟨k, hk, rfl⟩ := List.mem_map.1 h
    obtain ⟨h1, h2⟩ := List.mem_filter.1 hk
    rw [List.mem_range] at h1
    exact ⟨by omega, by omega, by simpa using h2⟩
  · rintro ⟨h1, h2, h3⟩
    exact List.mem_map.2 ⟨i.toNat, List.mem_filter.2 ⟨List.mem_range.2 (by omega), h3⟩, by omega⟩
theorem putN_bit (m : Nat) (i : Int) (j : Nat) : (putN m i).testBit j = (m.testBit j || decide (0 ≤ i ∧ i ≤ 63 ∧ i = (j : Int))) := by
  unfold putN; rw [Nat.testBit_or, bitN_bit]
theorem dropN_bit (m : Nat) (i : Int) (j : Nat) : (dropN m i).testBit j = (m.testBit j && (decide (j < 64) && !decide (0 ≤ i ∧ i ≤ 63 ∧ i = (j : Int)))) := by
  unfold dropN; rw [Nat.testBit_and, Nat.testBit_two_pow_sub_succ (bitN_lt i), bitN_bit]
theorem hasN_eq (m : Nat) (i : Int) : hasN m i = decide (i ∈ setL m) := by
  unfold hasN
  rw [Bool.eq_iff_iff]
  simp only [decide_eq_true_eq]
  rw [mem_setL]
  constructor
  · intro h
    obtain ⟨j, hj⟩ := Nat.exists_testBit_of_ne_zero h
    rw [Nat.testBit_and, bitN_bit, Bool.and_eq_true, decide_eq_true_eq] at hj
    refine ⟨hj.2.1, hj.2.2.1, ?_⟩
    rw [show i.toNat = j by omega]; exact hj.1
  · rintro ⟨h1, h2, h3⟩ h4
    have : (m &&& bitN i).testBit i.toNat = true := by
      rw [Nat.testBit_and, bitN_bit, h3]; simp only [Bool.true_and, decide_eq_true_eq]; omega
    rw [h4, Nat.zero_testBit] at this
    cases this
def ofTo (l : List Int) : Nat → Nat
  | 0 => 0
  | k + 1 => 2 * ofTo l k + if (63 - (k : Int)) ∈ l then 1 else 0
def cTo (l : List Int) (v : Int) (j : Nat) : Nat := if v ∈ l.take j then 1 else 0
theorem put_fn (m : Nat) (hm : m < 2 ^ 64) (i : Int) : Fn Tryz.prog 113 [.int .u64 m, .int .i64 i] (.int .u64 (putN m i)) := by
  refine fnb Tryz.func113 (entered_of (by kernel_rfl)) rfl rfl rfl ?_
  repeat' (first | refine sA ?_ | ((first | apply kM | apply kN); (iterate 3 (· exact rfl)); (· first | exact ya | exact q_c (bit_fn i) rfl)) | refine sG ?_ | (refine sK ?_ ?_ <;> intro hc <;> (try simp only [KL, sL, reduceCtorEq] at hc) <;> (try (have hT : True := hc; clear hT hc)) <;> (try (exfalso; omega))))
  exact retq rfl (congrArg (AV.int .u64) (or64 hm (bitN_lt i)))
theorem drop_fn (m : Nat) (hm : m < 2 ^ 64) (i : Int) : Fn Tryz.prog 115 [.int .u64 m, .int .i64 i] (.int .u64 (dropN m i)) := by
  refine fnb Tryz.func115 (entered_of (by kernel_rfl)) rfl rfl rfl ?_
  repeat' (first | refine sA ?_ | ((first | apply kM | apply kN); (iterate 3 (· exact rfl)); (· first | exact ya | exact q_c (bit_fn i) rfl)) | refine sG ?_ | (refine sK ?_ ?_ <;> intro hc <;> (try simp only [KL, sL, reduceCtorEq] at hc) <;> (try (have hT : True := hc; clear hT hc)) <;> (try (exfalso; omega))))
  exact retq rfl (congrArg (AV.int .u64) (not64 hm (bitN_lt i)))
end Go.Proofs.YtfjoaeghnfkdlaaGreatDoor
namespace Go.Proofs.YtfjoaeghnfkdlaaGreatDoor
set_option maxRecDepth 100000
open Go.RowKit Go.MapKept
section
variable {α : Type}
def getM : List (Int × α) → Int → Option α
  | [], _ => none
  | (k', v) :: r, k => if k' = k then some v else getM r k
def setM : List (Int × α) → Int → α → List (Int × α)
  | [], k, x => [(k, x)]
  | (k', v) :: r, k, x => if k' = k then (k, x) :: r else (k', v) :: setM r k x
def delM : List (Int × α) → Int → List (Int × α)
  | [], _ => []
  | (k', v) :: r, k => if k' = k then r else (k', v) :: delM r k
def noK (m : List (Int × α)) (k : Int) : Prop := ∀ p ∈ m, p.1 ≠ k
theorem noK_nil (k : Int) : noK ([] : List (Int × α)) k := fun p hp => by cases hp
theorem noK_cons {k' : Int} {v : α} {m : List (Int × α)} {k : Int} (h1 : k' ≠ k) (h2 : noK m k) : noK ((k', v) :: m) k := fun p hp => by
  rcases List.mem_cons.1 hp with rfl | hp
  · exact h1
  · exact h2 p hp
theorem getM_no {m : List (Int × α)} {k : Int} (h : noK m k) : getM m k = none := by
  induction m with
  | nil => rfl
  | cons p r ih =>
    obtain ⟨k', v⟩ := p
    rw [getM, if_neg (h (k', v) List.mem_cons_self)]
    exact ih fun q hq => h q (List.mem_cons_of_mem _ hq)
theorem setM_no {m : List (Int × α)} {k : Int} {x : α} (h : noK m k) : setM m k x = m ++ [(k, x)] := by
  induction m with
  | nil => rfl
  | cons p r ih =>
    obtain ⟨k', v⟩ := p
    rw [setM, if_neg (h (k', v) List.mem_cons_self), ih fun q hq => h q (List.mem_cons_of_mem _ hq)]
    rfl
theorem delM_no {m : List (Int × α)} {k : Int} (h : noK m k) : delM m k = m := by
  induction m with
  | nil => rfl
  | cons p r ih =>
    obtain ⟨k', v⟩ := p
    rw [delM, if_neg (h (k', v) List.mem_cons_self), ih fun q hq => h q (List.mem_cons_of_mem _ hq)]
theorem M_at {m1 m2 : List (Int × α)} {k : Int} {v : α} (h : noK m1 k) (x : α) : getM (m1 ++ (k, v) :: m2) k = some v ∧ setM (m1 ++ (k, v) :: m2) k x = m1 ++ (k, x) :: m2 ∧ delM (m1 ++ (k, v) :: m2) k = m1 ++ m2 := by
  induction m1 with
  | nil => simp [getM, setM, delM]
  | cons p r ih =>
    obtain ⟨k', v'⟩ := p
    have h1 := h (k', v') List.mem_cons_self
    obtain ⟨h2, h3, h4⟩ := ih fun q hq => h q (List.mem_cons_of_mem _ hq)
    simp only [List.cons_append, getM, setM, delM, if_neg h1, h2, h3, h4, and_self]
def ME (σ : Sig) (f : α → AV) : List MapEntry → List (Int × α) → Prop
  | [], [] => True
  | e :: es, p :: m => e.key = .int .i64 p.1 ∧ VR0 σ (f p.2) e.val ∧ ME σ f es m
  | _, _ => False
theorem ME.mono {σ σ' : Sig} {f : α → AV} (hs : Sig.le σ σ') : ∀ {es : List MapEntry} {m : List (Int × α)}, ME σ f es m → ME σ' f es m
  | [], [], _ => trivial
  | [], _ :: _, h => h.elim
  | _ :: _, [], h => h.elim
  | _ :: _, _ :: _, ⟨h1, h2, h3⟩ => ⟨h1, h2.mono hs, ME.mono hs h3⟩
theorem ME.app {σ : Sig} {f : α → AV} : ∀ {es es' : List MapEntry} {m m' : List (Int × α)}, ME σ f es m → ME σ f es' m' → ME σ f (es ++ es') (m ++ m')
  | [], _, [], _, _, h => h
  | [], _, _ :: _, _, h, _ => h.elim
  | _ :: _, _, [], _, h, _ => h.elim
  | _ :: _, _, _ :: _, _, ⟨h1, h2, h3⟩, h => ⟨h1, h2, ME.app h3 h⟩
theorem ME.find {σ : Sig} {f : α → AV} (k : Int) : ∀ {es : List MapEntry} {m : List (Int × α)} (i : Nat), ME σ f es m →
    (Instr.findNow (.int .i64) (.int .i64 k) es i = some none ∧ noK m k) ∨
    ∃ e1 e e2 m1 v m2, es = e1 ++ e :: e2 ∧ m = m1 ++ (k, v) :: m2 ∧ e1.length = m1.length ∧ noK m1 k ∧ ME σ f e1 m1 ∧ ME σ f e2 m2 ∧ e.key = .int .i64 k ∧ VR0 σ (f v) e.val ∧ Instr.findNow (.int .i64) (.int .i64 k) es i = some (some (i + e1.length, e.val))
  | [], [], i, _ => .inl ⟨rfl, noK_nil k⟩
  | [], _ :: _, _, h => h.elim
  | _ :: _, [], _, h => h.elim
  | e :: es, (k', v) :: m, i, ⟨h1, h2, h3⟩ => by
    simp only at h1 h2
    by_cases hk : k' = k
    · subst hk
      exact .inr ⟨[], e, es, [], v, m, rfl, rfl, rfl, noK_nil _, trivial, h3, h1, h2, by simp [Instr.findNow, h1, Instr.sameNow]⟩
    · rcases ME.find k (i + 1) h3 with ⟨g1, g2⟩ | ⟨e1, e', e2, m1, v', m2, rfl, rfl, g3, g4, g5, g6, g7, g8, g9⟩
      · refine .inl ⟨?_, noK_cons hk g2⟩
        rw [Instr.findNow, h1]
        simp only [Instr.sameNow, if_true]
        rw [show ((k == k') : Bool) = false by simp; exact fun e => hk e.symm]
        exact g1
      · refine .inr ⟨e :: e1, e', e2, (k', v) :: m1, v', m2, rfl, rfl, by simp [g3], noK_cons hk g4, ⟨h1, h2, g5⟩, g6, g7, g8, ?_⟩
        rw [Instr.findNow, h1]
        simp only [Instr.sameNow, if_true]
        rw [show ((k == k') : Bool) = false by simp; exact fun e => hk e.symm]
        simp only
        rw [g9, List.length_cons, Nat.add_assoc, Nat.add_comm 1]
def mapR (f : α → AV) (m : List (Int × α)) (σ : Sig) (H : Array Obj) (v : Value) : Prop := ∃ b es clock, v = .map (some b) ∧ H[b]? = some (.map es clock) ∧ ME σ f es.toList m
def mapC (f : α → AV) (m : List (Int × α)) : SemC where
  rel := mapR f m
  keep := fun σ σ' H H' v ⟨b, es, clock, h1, h2, h3⟩ hs hw => ⟨b, es, clock, h1, by rw [hw b (.inl (by rw [h1]; rfl))]; exact h2, h3.mono hs⟩
  lt := fun σ H v g ⟨b, es, clock, h1, h2, _⟩ hg => by
    have hg := hg.one (fun vs e => by rw [h1] at e; cases e)
    rw [h1] at hg; simp only [footOf, Option.some.injEq] at hg; subst hg
    exact (Array.getElem?_eq_some_iff.1 h2).1
end
theorem modify_at {β : Type} (l1 : List β) (x : β) (l2 : List β) (f : β → β) : (l1 ++ x :: l2).modify l1.length f = l1 ++ f x :: l2 := by
  induction l1 with
  | nil => rfl
  | cons y l1 ih => rw [List.cons_append, List.length_cons, List.modify_succ_cons, ih]; rfl
theorem erase_at {β : Type} (l1 : List β) (x : β) (l2 : List β) : (l1 ++ x :: l2).eraseIdx l1.length = l1 ++ l2 := by
  induction l1 with
  | nil => rfl
  | cons y l1 ih => rw [List.cons_append, List.length_cons, List.eraseIdx_cons_succ, ih]; rfl
def mapE (P : Program) (t : TypeId) : Option (TypeId × TypeId) := match P.underlying t with
  | some (.map k e) => match P.underlying k with
    | some (.int .i64) => some (k, e)
    | _ => none
  | _ => none
theorem mapE_spec {P : Program} {t k e : TypeId} (h : mapE P t = some (k, e)) : P.underlying t = some (.map k e) ∧ P.underlying k = some (.int .i64) := by
  unfold mapE at h
  split at h
  · rename_i k' e' hu
    split at h
    · rename_i hk; cases h; exact ⟨hu, hk⟩
    · cases h
  · cases h
section
variable {P : Program} {n : Md} {Q : Exit → Slots → Heap → Prop} {s : Slots} {h : Heap} {ops : Array Oper} {rest : List Oper} {o : Oper}
theorem Rel.mapNew {α : Type} {E : Env} {σ : Sig} {ι : Nat → Value} {w : World} (hr : Rel E σ ι h w) {f : α → AV} {m m' : List (Int × α)} {id b clock' : Nat} {es' : Array MapEntry} (hg : hget h id = some (.sem (mapC f m))) (hb : ι id = .map (some b)) (hlt : b < w.heap.size)
    (hE : ME σ f es'.toList m') : Rel E σ ι ((id, .sem (mapC f m')) :: h) { w with heap := w.heap.setIfInBounds b (.map es' clock') } := by
  have hsame : upd ι id (ι id) = ι := by funext i; unfold upd; split <;> simp_all
  have hnew := hr.turn (id := id) (u := ι id) (h' := (id, .sem (mapC f m')) :: h) (c' := .sem (mapC f m')) (w' := { w with heap := w.heap.setIfInBounds b (.map es' clock') })
    (fun i c hi hc => by rw [hget_cons, if_neg (fun e => hi e.symm)] at hc; exact ⟨hc, .inl rfl⟩) (by rw [hget_cons, if_pos rfl])
    (by rw [hsame]; exact ⟨b, es', clock', hb, by simp [hlt], hE⟩)
    rfl rfl rfl (by simp) (fun k hk hne => by
      have : k ≠ b := fun e => hne _ hg (by rw [hb, e]; rfl)
      simp [Ne.symm this])
    (fun g2 hg2 => .inl ⟨_, hg, hg2⟩) (.inr rfl)
  rw [hsame] at hnew
  exact hnew
theorem sto_map {α : Type} {f : α → AV} {m : List (Int × α)} {t kt et : TypeId} {x y z : Operand} {id : Nat} {k : Int} (a : α) (ho : o.op = .mapUpdate t x y z) (ht : mapE P t = some (kt, et)) (hx : evA s x = .own id) (hg : hget h id = some (.sem (mapC f m))) (hy : evA s y = .int .i64 k)
    (hz : evA s z = f a) (hp : pureA (f a) = true) : StO P o s h ((id, .sem (mapC f (setM m k a))) :: h) := fun E σ ι act w hr hop => by
  have hX : VR σ ι (evA s x) (act.eval x) := hop x (by rw [ho]; simp [Op.operands])
  have hY : VR σ ι (evA s y) (act.eval y) := hop y (by rw [ho]; simp [Op.operands])
  have hZ : VR σ ι (evA s z) (act.eval z) := hop z (by rw [ho]; simp [Op.operands])
  rw [hx] at hX
  rw [hy] at hY
  rw [hz] at hZ
  obtain ⟨hm, hd⟩ := mapE_spec ht
  obtain ⟨b, es, clock, h1, h2, h3⟩ := hr.ch id _ hg
  have hlt : b < w.heap.size := (Array.getElem?_eq_some_iff.1 h2).1
  have hV := hZ.pure hp
  have ex := hX.own_inv.trans h1
  have ey := hY.int_inv.1
  have hik : IsKey (.int .i64) (.int .i64 k) := rfl
  rcases h3.find k 0 with ⟨g1, g2⟩ | ⟨e1, e, e2, m1, v, m2, ges, rfl, g3, g4, g5, g6, g7, g8, g9⟩
  · refine ⟨{ w with heap := w.heap.setIfInBounds b (.map (es.push { key := .int .i64 k, val := act.eval z, born := clock }) (clock + 1)) }, ?_, hr.mapNew hg h1 hlt ?_⟩
    · simp [execOp, ho, ex, ey, Instr.mapUpdate, run_underlying hm, Go.MapKept.run_getObj_map h2, Go.MapKept.run_checkKey hd hik, Go.MapKept.run_findKey hd g1, Go.MapKept.run_setObj_map _ h2, Result.andThen]
    · rw [setM_no g2, Array.toList_push]
      exact h3.app ⟨rfl, hV, trivial⟩
  · rw [Nat.zero_add] at g9
    have hj : es[e1.length]? = some e := by rw [← Array.getElem?_toList, ges]; simp
    refine ⟨{ w with heap := w.heap.setIfInBounds b (.map (es.modify e1.length fun e => { e with key := .int .i64 k, val := act.eval z }) clock) }, ?_, hr.mapNew hg h1 hlt ?_⟩
    · simp [execOp, ho, ex, ey, Instr.mapUpdate, run_underlying hm, Go.MapKept.run_getObj_map h2, Go.MapKept.run_checkKey hd hik, Go.MapKept.run_findKey hd g9, hj, g7, Go.MapKept.run_keyThatStays hik, Go.MapKept.run_setObj_map _ h2, Result.andThen]
    · rw [(M_at g4 a).2.1]
      have hmod : (es.modify e1.length fun e => { e with key := .int .i64 k, val := act.eval z }).toList = e1 ++ { e with key := .int .i64 k, val := act.eval z } :: e2 := by
        rw [Array.toList_modify, ges]
        exact modify_at e1 e e2 _
      rw [hmod]
      exact g5.app ⟨rfl, hV, g6⟩
theorem ao_mm {α : Type} {t : TypeId} (id : Nat) (f : α → AV) (ho : o.op = .makeMap t none) (hf : freshAll id s h = true) (hgd : o.guard = none) (hdo : dstOk n o.dst = true)
    (hk : O P n ops Q rest (putS s o.dst (.own id)) ((id, .sem (mapC f [])) :: h)) : O P n ops Q (o :: rest) s h := ⟨aops_one hgd fun E σ ι a w hr ht => by
  simp only [freshAll, Bool.and_eq_true, Nat.ble_eq] at hf
  unfold Oper.wp
  have hrun : (execOp a.eval o).run P w = .ok (.value (.map (some w.heap.size))) (w.alloc (.map #[] 0)) := by
    simp [execOp, ho, Instr.makeMap, Result.andThen]
  rw [hrun]
  have hkeep : ∀ g, g < w.heap.size → (w.alloc (.map #[] 0)).heap[g]? = w.heap[g]? := fun g hg => Below.heap_alloc _ _ _ hg
  have hnew := hr.turn (id := id) (u := .map (some w.heap.size)) (h' := (id, .sem (mapC f [])) :: h) (c' := .sem (mapC f [])) (w' := w.alloc (.map #[] 0))
    (fun i c hi hc => by
      rw [hget_cons, if_neg (fun e => hi e.symm)] at hc
      exact ⟨hc, .inr (freshH_get hf.2 i c hc).2⟩)
    (by rw [hget_cons, if_pos rfl])
    (by show mapR f [] _ _ _; rw [upd_eq]; exact ⟨w.heap.size, #[], 0, rfl, heap_alloc_new w _, trivial⟩)
    rfl rfl rfl (by simp) (fun k hk _ => hkeep k hk) (fun g hv => by cases hv; exact .inr (Nat.le_refl _)) (.inl hf.1.1)
  refine hk.out E σ _ _ _ hnew ((ht.upd hf.1.1 hf.1.2 _).putS hdo ?_)
  have h5 := VR.own (σ := σ) (ι := upd ι id (.map (some w.heap.size))) id (by rw [upd_eq]; rfl)
  rwa [upd_eq] at h5⟩
theorem ok_lookup {α : Type} {f : α → AV} {m : List (Int × α)} {t kt et : TypeId} {x y : Operand} {cm : Bool} {id : Nat} {k : Int} {z0 : AV} (v : AV) (b : Bool) (ho : o.op = .lookup t x y cm) (ht : mapE P t = some (kt, et)) (hx : evA s x = .own id) (hg : hget h id = some (.sem (mapC f m))) (hy : evA s y = .int .i64 k)
    (hz : ∀ (w : World) (σ : Sig), ∃ z, (zeroValue et).run P w = .ok z w ∧ VR0 σ z0 z) (hv : (getM m k = none ∧ v = z0 ∧ b = false) ∨ ∃ a, getM m k = some a ∧ v = f a ∧ b = true) : OkO P o s h (if cm then .tup [v, .bool b] else v) := by
  refine ok_of_run fun E σ ι a w hr hop => ?_
  have hX : VR σ ι (evA s x) (a.eval x) := hop x (by rw [ho]; simp [Op.operands])
  have hY : VR σ ι (evA s y) (a.eval y) := hop y (by rw [ho]; simp [Op.operands])
  rw [hx] at hX
  rw [hy] at hY
  obtain ⟨hm, hd⟩ := mapE_spec ht
  obtain ⟨r, es, clock, h1, h2, h3⟩ := hr.ch id _ hg
  have ex := hX.own_inv.trans h1
  have ey := hY.int_inv.1
  have hik : IsKey (.int .i64) (.int .i64 k) := rfl
  have fin : ∀ u, VR0 σ v u → ∃ q, (if cm then Value.tuple #[u, .bool b] else u) = q ∧ VR σ ι (if cm then .tup [v, .bool b] else v) q := fun u hu => by
    refine ⟨_, rfl, ?_⟩
    cases cm with
    | false => exact .base _ _ hu
    | true =>
      have h4 : L2 (VR σ ι) [v, .bool b] [u, .bool b] := ((L2.nil _).cons (.base _ _ (.bool b))).cons (.base _ _ hu)
      exact .tup _ _ h4.1 h4.2
  rcases h3.find k 0 with ⟨g1, g2⟩ | ⟨e1, e, e2, m1, v', m2, ges, rfl, g3, g4, g5, g6, g7, g8, g9⟩
  · rcases hv with ⟨_, rfl, rfl⟩ | ⟨a', h4, _⟩
    · obtain ⟨z, hz1, hz2⟩ := hz w σ
      obtain ⟨q, hq1, hq2⟩ := fin z hz2
      refine ⟨q, ?_, hq2⟩
      rw [← hq1]
      simp [execOp, ho, ex, ey, Instr.lookup, run_underlying hm, Go.MapKept.run_getObj_map h2, Go.MapKept.run_checkKey hd hik, Go.MapKept.run_findKey hd g1, hz1, Result.andThen]
    · rw [getM_no g2] at h4; cases h4
  · have h5 := (M_at (m2 := m2) (v := v') g4 v').1
    rcases hv with ⟨h4, _⟩ | ⟨a', h4, rfl, rfl⟩
    · rw [h5] at h4; cases h4
    · rw [h5] at h4; cases h4
      obtain ⟨q, hq1, hq2⟩ := fin e.val g8
      refine ⟨q, ?_, hq2⟩
      rw [← hq1]
      simp [execOp, ho, ex, ey, Instr.lookup, run_underlying hm, Go.MapKept.run_getObj_map h2, Go.MapKept.run_checkKey hd hik, Go.MapKept.run_findKey hd g9, Result.andThen]
theorem tu_delete {α : Type} {f : α → AV} {m : List (Int × α)} {t kt et t2 : TypeId} {x y : Operand} {id : Nat} {k : Int} (ho : o.op = .call { callee := .builtin .delete, args := #[x, y], argTypes := #[t, t2] }) (ht : mapE P t = some (kt, et)) (hx : evA s x = .own id) (hg : hget h id = some (.sem (mapC f m))) (hy : evA s y = .int .i64 k) :
    TuO P o s h ((id, .sem (mapC f (delM m k))) :: h) (.tup []) := fun E σ ι act w hr hop K Q hK => by
  have hX : VR σ ι (evA s x) (act.eval x) := hop x (by rw [ho]; simp [Op.operands, Call.operands])
  have hY : VR σ ι (evA s y) (act.eval y) := hop y (by rw [ho]; simp [Op.operands, Call.operands])
  rw [hx] at hX
  rw [hy] at hY
  obtain ⟨hm, hd⟩ := mapE_spec ht
  obtain ⟨b, es, clock, h1, h2, h3⟩ := hr.ch id _ hg
  have hlt : b < w.heap.size := (Array.getElem?_eq_some_iff.1 h2).1
  have ex := hX.own_inv.trans h1
  have ey := hY.int_inv.1
  have hik : IsKey (.int .i64) (.int .i64 k) := rfl
  obtain ⟨w', h4, h5⟩ : ∃ w', (execOp act.eval o).run P w = .ok (.value (.tuple #[])) w' ∧ Rel E σ ι ((id, .sem (mapC f (delM m k))) :: h) w' := by
    rcases h3.find k 0 with ⟨g1, g2⟩ | ⟨e1, e, e2, m1, v, m2, ges, rfl, g3, g4, g5, g6, g7, g8, g9⟩
    · refine ⟨{ w with heap := w.heap.setIfInBounds b (.map es clock) }, ?_, hr.mapNew hg h1 hlt (by rw [delM_no g2]; exact h3)⟩
      simp [execOp, ho, resolve, invoke, builtin, ex, ey, Builtin.delete_, run_underlying hm, Go.MapKept.run_getObj_map h2, Go.MapKept.run_checkKey hd hik, Go.MapKept.run_findKey hd g1, Go.MapKept.run_setObj_map _ h2, Result.andThen]
    · rw [Nat.zero_add] at g9
      refine ⟨{ w with heap := w.heap.setIfInBounds b (.map (es.eraseIdxIfInBounds e1.length) clock) }, ?_, hr.mapNew hg h1 hlt ?_⟩
      · simp [execOp, ho, resolve, invoke, builtin, ex, ey, Builtin.delete_, run_underlying hm, Go.MapKept.run_getObj_map h2, Go.MapKept.run_checkKey hd hik, Go.MapKept.run_findKey hd g9, Go.MapKept.run_setObj_map _ h2, Result.andThen]
      · rw [(M_at (m2 := m2) (v := v) g4 v).2.2]
        have hl : e1.length < es.size := by rw [← Array.length_toList, ges]; simp
        have her : (es.eraseIdxIfInBounds e1.length).toList = e1 ++ e2 := by
          unfold Array.eraseIdxIfInBounds
          rw [dif_pos hl, Array.toList_eraseIdx, ges]
          exact erase_at e1 e e2
        rw [her]
        exact g5.app g6
  unfold Oper.wp
  rw [h4]
  exact hK σ ι w' _ (Sig.le.refl σ) (fun _ _ _ t => t) h5 VR.tup0
theorem ao_tu {h' : Heap} {v : AV} (hs : TuO P o s h h' v) (hgd : o.guard = none) (hco : constsOk o = true) (hdo : dstOk n o.dst = true) (hk : O P n ops Q rest (putS s o.dst v) h') : O P n ops Q (o :: rest) s h := ⟨aops_one hgd fun E σ ι a w hr ht =>
  hs E σ ι a w hr (fun x hx => evA_sound (List.all_eq_true.1 hco x hx) fun t _ => ht.at_ t) _ _ fun σ' ι' w' u h1 h2 h3 h4 => hk.out E σ' ι' _ w' h3 ((h2 _ _ _ ht).putS hdo h4)⟩
theorem turn_ownJ {α : Type} (f : α → List AV) {b : Nat} {ty : TypeId} {cs : List AV} (j : Nat) (hg : hget h b = some (.blk ty cs)) (hj : cs[j]? = some .nils) (id : Nat) (e : TypeId) (sz : Nat) (hsz : 0 < sz) (hf : freshAll id s h = true) : Turns n s h s ((b, .blk ty (cs.set j (.own id))) :: (id, .row e sz (([] : List α).map f)) :: h) := by
  intro E σ ι a w hr ht
  simp only [freshAll, Bool.and_eq_true, Nat.ble_eq] at hf
  have hbi : b ≠ id := (freshH_get hf.2 b _ hg).1
  have r1 : Rel E σ (upd ι id (.slice none 0 0)) ((id, .row e sz (([] : List α).map f)) :: h) w := by
    refine hr.turn (c' := .row e sz []) ?_ (by rw [hget_cons, if_pos rfl]; rfl) ⟨hsz, by simp, [], by rw [upd_eq]; exact World.ownsRow_nil w 0 e sz, L2.nil _⟩ rfl rfl rfl (Nat.le_refl _) (fun _ _ _ => rfl) (fun g hg => by cases hg) (.inl hf.1.1)
    intro i c hi hc
    rw [hget_cons, if_neg (fun e => hi e.symm)] at hc
    exact ⟨hc, .inr (freshH_get hf.2 i c hc).2⟩
  have t1 := ht.upd hf.1.1 hf.1.2 (.slice none 0 0)
  have hown : VR σ (upd ι id (.slice none 0 0)) (.own id) (.slice none 0 0) := by
    have h4 := VR.own (σ := σ) (ι := upd ι id (.slice none 0 0)) id (by rw [upd_eq]; rfl)
    rwa [upd_eq] at h4
  generalize upd ι id (.slice none 0 0) = ι1 at *
  have hgb : hget ((id, .row e sz (([] : List α).map f)) :: h) b = some (.blk ty cs) := by rw [hget_cons, if_neg (fun e => hbi e.symm)]; exact hg
  obtain ⟨g, cur, e1, e2, e3⟩ := r1.ch b _ hgb
  have hsame : upd ι1 b (ι1 b) = ι1 := by funext i; unfold upd; split <;> simp_all
  have hnew := r1.turn (id := b) (u := ι1 b) (h' := (b, .blk ty (cs.set j (.own id))) :: (id, .row e sz (([] : List α).map f)) :: h) (c' := .blk ty (cs.set j (.own id))) (w' := w)
    (fun i c hi hc => by rw [hget_cons, if_neg (fun e => hi e.symm)] at hc; exact ⟨hc, .inl rfl⟩) (by rw [hget_cons, if_pos rfl])
    (by rw [hsame]; exact ⟨g, cur, e1, e2, by rw [List.length_set]; exact e3.1, fun k x y hx hy => by
      rw [List.getElem?_set] at hx
      by_cases hjk : j = k
      · subst hjk
        have h5 := e3.2 j .nils y hj hy
        have hjl := (List.getElem?_eq_some_iff.1 hj).1
        rw [if_pos rfl, if_pos hjl] at hx
        cases hx
        have h6 : y = .slice none 0 0 := by
          cases h5 with
          | base _ _ h0 => cases h0; rfl
        rw [h6]; exact hown
      · rw [if_neg hjk] at hx
        exact e3.2 k x y hx hy⟩)
    rfl rfl rfl (Nat.le_refl _) (fun _ _ _ => rfl) (fun g hv => .inl ⟨_, hgb, hv⟩) (.inr rfl)
  rw [hsame] at hnew
  exact ⟨σ, ι1, hnew, t1⟩
end
end Go.Proofs.YtfjoaeghnfkdlaaGreatDoor
namespace Go.Proofs.YtfjoaeghnfkdlaaGreatDoor
set_option maxRecDepth 100000
open Go.RowKit Go.MapKept
theorem ok_lookI {P : Program} {s : Slots} {h : Heap} {o : Oper} {m : List (Int × Int)} {t kt et : TypeId} {x y : Operand} {id : Nat} {k : Int} (hz : ∀ (w : World) (σ : Sig), ∃ z, (zeroValue et).run P w = .ok z w ∧ VR0 σ (.int .i64 0) z)
    (ho : o.op = .lookup t x y false) (ht : mapE P t = some (kt, et)) (hx : evA s x = .own id) (hg : hget h id = some (.sem (mapC (fun n : Int => AV.int .i64 n) m))) (hy : evA s y = .int .i64 k) : OkO P o s h (.int .i64 ((getM m k).getD 0)) := by
  cases hm : getM m k with
  | none => exact ok_lookup (.int .i64 0) false ho ht hx hg hy hz (.inl ⟨hm, rfl, rfl⟩)
  | some a => exact ok_lookup (.int .i64 a) true ho ht hx hg hy hz (.inr ⟨a, hm, rfl, rfl⟩)
theorem z_int : ∀ (w : World) (σ : Sig), ∃ z, (zeroValue 3).run Tryz.prog w = .ok z w ∧ VR0 σ (.int .i64 0) z := fun w σ => ⟨.int .i64 0, rfl, .int _ _ (by simp only [rangeP]; omega)⟩
abbrev mI (m : List (Int × Int)) : Chunk := .sem (mapC (fun n : Int => AV.int .i64 n) m)
end Go.Proofs.YtfjoaeghnfkdlaaGreatDoor
namespace Go.Proofs.YtfjoaeghnfkdlaaGreatDoor
set_option maxRecDepth 100000
open Go.RowKit Go.ChangeShapes Go.WideShapes

structure Instr where
  op : Int
  a : Int
  b : Int
  c : Int
  n : Int
instance : Inhabited Instr := ⟨⟨0, 0, 0, 0, 0⟩⟩
theorem Instr.ext_ {x y : Instr} (h : x.op = y.op ∧ x.a = y.a ∧ x.b = y.b ∧ x.c = y.c ∧ x.n = y.n) : x = y := by cases x; cases y; simp_all
instance : DecidableEq Instr := fun x y => decidable_of_iff (x.op = y.op ∧ x.a = y.a ∧ x.b = y.b ∧ x.c = y.c ∧ x.n = y.n) ⟨Instr.ext_, fun h => by subst h; simp⟩
def Instr.cells (x : Instr) : List Value := [.int .i64 x.op, .int .i64 x.a, .int .i64 x.b, .int .i64 x.c, .int .u32 x.n]
def Instr.ok (x : Instr) : Prop := (Lit.int .i64 x.op).wf = true ∧ (Lit.int .i64 x.a).wf = true ∧ (Lit.int .i64 x.b).wf = true ∧ (Lit.int .i64 x.c).wf = true ∧ (Lit.int .u32 x.n).wf = true
def Instr.cod : Cod Instr := fun _ cs x => cs = x.cells ∧ x.ok
theorem Instr.mono : Mono Instr.cod := fun _ _ _ _ _ h => h
theorem Instr.size {w : World} {cs : List Value} {x : Instr} (h : Instr.cod w cs x) : cs.length = 5 := by rw [h.1]; rfl
theorem Instr.at {w : World} {b off : Nat} {xs : List Instr} (h : Row' Instr.cod 5 w b off xs) (i : Nat) (hi : i < xs.length) :
    w.cell? ⟨b, off + i * 5, none⟩ = some (.int .i64 xs[i].op) ∧ w.cell? ⟨b, off + i * 5 + 1, none⟩ = some (.int .i64 xs[i].a) ∧ w.cell? ⟨b, off + i * 5 + 2, none⟩ = some (.int .i64 xs[i].b) ∧ w.cell? ⟨b, off + i * 5 + 3, none⟩ = some (.int .i64 xs[i].c) ∧ w.cell? ⟨b, off + i * 5 + 4, none⟩ = some (.int .u32 xs[i].n) ∧ xs[i].ok := by
  obtain ⟨cs, hx, _, hc⟩ := h i xs[i] (List.getElem?_eq_getElem hi)
  obtain ⟨rfl, hk⟩ := hx
  exact ⟨hc 0 _ rfl, hc 1 _ rfl, hc 2 _ rfl, hc 3 _ rfl, hc 4 _ rfl, hk⟩
theorem Instr.run_eqIn (x y : Instr) (w : World) : (Op.equalIn 10000 217 (.agg #[.int .i64 x.op, .int .i64 x.a, .int .i64 x.b, .int .i64 x.c, .int .u32 x.n]) (.agg #[.int .i64 y.op, .int .i64 y.a, .int .i64 y.b, .int .i64 y.c, .int .u32 y.n])).run Tryz.prog w = .ok (decide (x = y)) w := by
  have hs : Tryz.prog.stoodInHeld 217 = false := by kernel_rfl
  rw [run_equalIn_agg w 9999 217 _ _ (by simp only [Program.fieldsOf, Tryz.underlying217]) hs]
  simp only [Program.fieldsOf, Tryz.underlying217]
  simp [go_sem]
  by_cases h : x = y
  · subst h; simp
  · rw [show decide (x = y) = false from by simp [h]]
    repeat' split
    all_goals first | rfl | exact absurd (Instr.ext_ ⟨by assumption, by assumption, by assumption, by assumption, by assumption⟩) h
theorem Instr.run_guard (op : BinOp) (xo yo : Operand) (xs ys : Array Value) (w : World) : (eqGuard op 217 xo yo (.agg xs) (.agg ys)).run Tryz.prog w = .ok () w := run_eqGuard_agg w op 217 xo yo xs ys (by kernel_rfl)
end Go.Proofs.YtfjoaeghnfkdlaaGreatDoor
namespace Go.Proofs.YtfjoaeghnfkdlaaGreatDoor
set_option maxRecDepth 100000
open Go.RowKit Go.ChangeShapes Go.WideShapes

structure Task where
  kind : Int
  prio : Int
  period : Int
  offset : Int
  deadline : Int
  own : Int
  code : List Instr
instance : Inhabited Task := ⟨⟨0, 0, 0, 0, 0, 0, []⟩⟩
theorem Task.ext_ {x y : Task} (h : x.kind = y.kind ∧ x.prio = y.prio ∧ x.period = y.period ∧ x.offset = y.offset ∧ x.deadline = y.deadline ∧ x.own = y.own ∧ x.code = y.code) : x = y := by cases x; cases y; simp_all
instance : DecidableEq Task := fun x y => decidable_of_iff (x.kind = y.kind ∧ x.prio = y.prio ∧ x.period = y.period ∧ x.offset = y.offset ∧ x.deadline = y.deadline ∧ x.own = y.own ∧ x.code = y.code) ⟨Task.ext_, fun h => by subst h; simp⟩
def Task.ok (x : Task) : Prop := (Lit.int .i64 x.kind).wf = true ∧ (Lit.int .i64 x.prio).wf = true ∧ (Lit.int .i64 x.period).wf = true ∧ (Lit.int .i64 x.offset).wf = true ∧ (Lit.int .i64 x.deadline).wf = true ∧ (Lit.int .i64 x.own).wf = true
def Task.cod : Cod Task := fun w cs x => ∃ (A_code : Option Addr) (c_code : Nat), cs = [.int .i64 x.kind, .int .i64 x.prio, .int .i64 x.period, .int .i64 x.offset, .int .i64 x.deadline, .int .i64 x.own, .slice A_code x.code.length c_code] ∧ x.ok ∧ x.code.length ≤ c_code ∧ c_code ≤ maxLen ∧ Row Instr.cod 5 w A_code x.code
theorem Task.mono : Mono Task.cod := fun _ _ _ _ he ⟨A_code, c_code, h, hk, l_code, m_code, r_code⟩ => ⟨A_code, c_code, h, hk, l_code, m_code, r_code.ext Instr.mono he⟩
theorem Task.size {w : World} {cs : List Value} {x : Task} (h : Task.cod w cs x) : cs.length = 7 := by obtain ⟨A_code, c_code, h, _⟩ := h; rw [h]; rfl
theorem Task.at {w : World} {b off : Nat} {xs : List Task} (h : Row' Task.cod 7 w b off xs) (i : Nat) (hi : i < xs.length) :
    ∃ (A_code : Option Addr) (c_code : Nat), w.cell? ⟨b, off + i * 7, none⟩ = some (.int .i64 xs[i].kind) ∧ w.cell? ⟨b, off + i * 7 + 1, none⟩ = some (.int .i64 xs[i].prio) ∧ w.cell? ⟨b, off + i * 7 + 2, none⟩ = some (.int .i64 xs[i].period) ∧ w.cell? ⟨b, off + i * 7 + 3, none⟩ = some (.int .i64 xs[i].offset) ∧ w.cell? ⟨b, off + i * 7 + 4, none⟩ = some (.int .i64 xs[i].deadline) ∧ w.cell? ⟨b, off + i * 7 + 5, none⟩ = some (.int .i64 xs[i].own) ∧ w.cell? ⟨b, off + i * 7 + 6, none⟩ = some (.slice A_code xs[i].code.length c_code) ∧ xs[i].ok ∧ xs[i].code.length ≤ c_code ∧ c_code ≤ maxLen ∧ Row Instr.cod 5 w A_code xs[i].code := by
  obtain ⟨cs, hx, _, hc⟩ := h i xs[i] (List.getElem?_eq_getElem hi)
  obtain ⟨A_code, c_code, rfl, hk, l_code, m_code, r_code⟩ := hx
  exact ⟨A_code, c_code, hc 0 _ rfl, hc 1 _ rfl, hc 2 _ rfl, hc 3 _ rfl, hc 4 _ rfl, hc 5 _ rfl, hc 6 _ rfl, hk, l_code, m_code, r_code⟩
end Go.Proofs.YtfjoaeghnfkdlaaGreatDoor
namespace Go.Proofs.YtfjoaeghnfkdlaaGreatDoor
set_option maxRecDepth 100000
open Go.RowKit
def eInstr (x : Instr) : List AV := [.int .i64 x.op, .int .i64 x.a, .int .i64 x.b, .int .i64 x.c, .int .u32 x.n]
theorem br_Instr : Br Instr.cod eInstr := fun w cs x ⟨h1, h2⟩ => by
  subst h1
  obtain ⟨h_op, h_a, h_b, h_c, h_n⟩ := h2
  exact (((((L2.nil _).cons (.int _ _ (rangeP_wf.2 h_n))).cons (.int _ _ (rangeP_wf.2 h_c))).cons (.int _ _ (rangeP_wf.2 h_b))).cons (.int _ _ (rangeP_wf.2 h_a))).cons (.int _ _ (rangeP_wf.2 h_op))
end Go.Proofs.YtfjoaeghnfkdlaaGreatDoor
namespace Go.Proofs.YtfjoaeghnfkdlaaGreatDoor
set_option maxRecDepth 100000
open Go.RowKit
def eTask (x : Task) : List AV := [.int .i64 x.kind, .int .i64 x.prio, .int .i64 x.period, .int .i64 x.offset, .int .i64 x.deadline, .int .i64 x.own, .lst 5 (x.code.map eInstr)]
theorem br_Task : Br Task.cod eTask := fun w cs x ⟨A_code, c_code, h1, hk, l_code, m_code, r_code⟩ => by
  subst h1
  obtain ⟨h_kind, h_prio, h_period, h_offset, h_deadline, h_own⟩ := hk
  exact (((((((L2.nil _).cons (br_row br_Instr (fun _ => rfl) r_code l_code m_code)).cons (.int _ _ (rangeP_wf.2 h_own))).cons (.int _ _ (rangeP_wf.2 h_deadline))).cons (.int _ _ (rangeP_wf.2 h_offset))).cons (.int _ _ (rangeP_wf.2 h_period))).cons (.int _ _ (rangeP_wf.2 h_prio))).cons (.int _ _ (rangeP_wf.2 h_kind))
end Go.Proofs.YtfjoaeghnfkdlaaGreatDoor
namespace Go.Proofs.YtfjoaeghnfkdlaaGreatDoor
set_option maxRecDepth 100000
set_option maxRecDepth 100000
open Go.RowKit
def inT (n : Int) : Int := max 0 (min n 1099511627776)
def addT (a b : Int) : Int := inT (inT a + inT b)
theorem inT_le (n : Int) : 0 ≤ inT n ∧ inT n ≤ 1099511627776 := by unfold inT; omega
def eLI (x : List Int) : List AV := [.lst 1 (x.map eI)]
theorem wclamp_fn (n low high : Int) : Fn Tryz.prog 107 [.int .i64 n, .int .i64 low, .int .i64 high] (.int .i64 (max low (min n high))) := by
  refine fnb Tryz.func107 (entered_of (by kernel_rfl)) rfl rfl rfl ?_
  repeat' (first | refine sA ?_ | ((first | apply kM | apply kN); (iterate 3 (· exact rfl)); (· first | exact ya)) | refine sG ?_ | (refine sK ?_ ?_ <;> intro hc <;> (try simp only [KL, sL, reduceCtorEq] at hc) <;> (try (have hT : True := hc; clear hT hc)) <;> (try (exfalso; omega))))
  exact retq rfl rfl
theorem inside_fn (n : Int) : Fn Tryz.prog 131 [.int .i64 n] (.int .i64 (inT n)) := by
  refine fnb Tryz.func131 (entered_of (by kernel_rfl)) rfl rfl rfl ?_
  repeat' (first | refine sA ?_ | ((first | apply kM | apply kN); (iterate 3 (· exact rfl)); (· first | exact ya | exact q_c (wclamp_fn _ _ _) rfl)) | refine sG ?_ | (refine sK ?_ ?_ <;> intro hc <;> (try simp only [KL, sL, reduceCtorEq] at hc) <;> (try (have hT : True := hc; clear hT hc)) <;> (try (exfalso; omega))))
  exact retq rfl rfl
theorem wadd_fn (a b : Int) : Fn Tryz.prog 114 [.int .i64 a, .int .i64 b] (.int .i64 (addT a b)) := by
  have h1 := inT_le a
  have h2 := inT_le b
  refine fnb Tryz.func114 (entered_of (by kernel_rfl)) rfl rfl rfl ?_
  repeat' (first | refine sA ?_ | ((first | apply kM | apply kN); (iterate 3 (· exact rfl)); (· first | exact ya | exact q_c (inside_fn _) rfl)) | refine sG ?_ | (refine sK ?_ ?_ <;> intro hc <;> (try simp only [KL, sL, reduceCtorEq] at hc) <;> (try (have hT : True := hc; clear hT hc)) <;> (try (exfalso; omega))))
  exact retq rfl rfl
abbrev mJ (m : List (Int × Job)) : Chunk := .sem (mapC (fun j : Job => AV.agg (eJob j)) m)
abbrev mD (m : List (Int × Due)) : Chunk := .sem (mapC (fun d : Due => AV.agg (eDue d)) m)
abbrev bdH (l : List Task) (dm : List (List Int)) (T : List Int) (m1 : List (Int × Job)) (m2 : List (Int × Due)) : Heap :=
  [(4, .row 3 1 (T.map eI)), (0, .blk 120 [.lst 7 (l.map eTask), .lst 1 (dm.map eLI), .own 4, .own 2, .own 3]), (2, mJ m1), (3, mD m2)]
def stepsF (dm : List (List Int)) (i no : Int) : Int := if (dm.length : Int) ≤ i ∨ ((dm.getD i.toNat default).length : Int) ≤ no then 1 else max 1 ((dm.getD i.toNat default).getD no.toNat default)
def stepJ (most : Int) (j : Job) (t : Nat) : Job := { j with start := if j.steps = 0 then (t : Int) else j.start, steps := j.steps + 1, fin := if j.steps + 1 = most then (t : Int) + 1 else j.fin }
def giveL (most : Int) : Nat → List Int → Job → Nat → List Int × Job
  | 0, T, j, t => (T, j)
  | n + 1, T, j, t => if j.steps < most then (if T.getD t default = -1 then giveL most n (T.set t j.task) (stepJ most j t) (t + 1) else giveL most n T j (t + 1)) else (T, j)
def missJ (N : Nat) (j : Job) : Job := { j with missed := decide ((j.fin < 0 ∨ j.deadline < j.fin) ∧ j.deadline < N) }
def giveF (dm : List (List Int)) (T : List Int) (j : Job) : List Int × Job :=
  let r := giveL (stepsF dm j.task j.no) (T.length - j.release.toNat) T j j.release.toNat
  (r.1, missJ T.length r.2)
end Go.Proofs.YtfjoaeghnfkdlaaGreatDoor
namespace Go.Proofs.YtfjoaeghnfkdlaaGreatDoor
set_option maxRecDepth 100000
set_option maxRecDepth 100000
open Go.RowKit
theorem clO_Job (l : List Job) (hn : l.length ≤ 1000000) : FnH Tryz.prog 84 [.own 4] [(4, .row 71 8 (l.map eJob)), (5, .row 71 8 (([] : List Job).map eJob))] (fun r h' => r = .own 5 ∧ h' = [(4, .row 71 8 (l.map eJob)), (5, .row 71 8 (l.map eJob))]) := by
  refine fnhb Tryz.func84 (entered_of (by kernel_rfl)) rfl rfl ?_
  refine wle (s' := [(0, .own 4)]) (h' := [(4, .row 71 8 (l.map eJob))]) les leh ?_
  repeat' (first | refine sA ?_ | ((first | apply kM | apply kN); (iterate 3 (· exact rfl)); (· first | exact ya)) | refine sG ?_ | (refine sK ?_ ?_ <;> intro hc <;> (try simp only [KL, sL, reduceCtorEq] at hc) <;> (try (have hT : True := hc; clear hT hc)) <;> (try (exfalso; omega))))
  refine ao_nilqO rfl rfl rfl rfl rfl rfl rfl rfl (fun b hb => ?_)
  cases b
  · repeat' (first | refine sA ?_ | ((first | apply kM | apply kN); (iterate 3 (· exact rfl)); (· first | exact yag)) | refine sG ?_ | (refine sK ?_ ?_ <;> intro hc <;> (try simp only [KL, sL, reduceCtorEq] at hc) <;> (try (have hT : True := hc; clear hT hc)) <;> (try (exfalso; omega))))
    refine o_blit (f := eJob) (l := []) (id := 5) (sz := 8) rfl rfl rfl rfl rfl rfl rfl rfl rfl rfl rfl rfl rfl rfl ?_
    repeat' (first | refine sA ?_ | ((first | apply kM | apply kN); (iterate 3 (· exact rfl)); (· first | exact ya)) | refine sG ?_ | (refine sK ?_ ?_ <;> intro hc <;> (try simp only [KL, sL, reduceCtorEq] at hc) <;> (try (have hT : True := hc; clear hT hc)) <;> (try (exfalso; omega))))
    refine ao_apO (id := 5) (id2 := 4) (ys := l) (by_ := 64) rfl rfl rfl rfl rfl rfl rfl rfl rfl rfl (fun _ _ => rfl) ?_ ?_ rfl rfl rfl rfl rfl ?_
    · simp only [List.length_nil]; omega
    · simp only [List.length_nil]; omega
    repeat' (first | refine sA ?_ | ((first | apply kM | apply kN); (iterate 3 (· exact rfl)); (· first | exact ya)) | refine sG ?_ | (refine sK ?_ ?_ <;> intro hc <;> (try simp only [KL, sL, reduceCtorEq] at hc) <;> (try (have hT : True := hc; clear hT hc)) <;> (try (exfalso; omega))))
    exact reth rfl leh ⟨rfl, rfl⟩
  · have h0 : l = [] := by simpa using hb rfl
    subst h0
    repeat' (first | refine sA ?_ | ((first | apply kM | apply kN); (iterate 3 (· exact rfl)); (· first | exact ya)) | refine sG ?_ | (refine sK ?_ ?_ <;> intro hc <;> (try simp only [KL, sL, reduceCtorEq] at hc) <;> (try (have hT : True := hc; clear hT hc)) <;> (try (exfalso; omega))))
    refine retT (fun n => turn_own eJob (t := 2) rfl 5 71 8 (by omega) rfl) ?_
    exact reth rfl leh ⟨rfl, rfl⟩
end Go.Proofs.YtfjoaeghnfkdlaaGreatDoor
