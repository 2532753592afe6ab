/- The agenda's list, of few dues: a sort by insertion. No condition. -/
import Derived.Test.YtfjoaeghnfkdlaaGreatDoorC11
import Derived.Test.YtfjoaeghnfkdlaaGreatDoorC16
import Derived.Test.YtfjoaeghnfkdlaaGreatDoorC10
import Derived.Test.YtfjoaeghnfkdlaaGreatDoorC24
import Derived.Test.YtfjoaeghnfkdlaaGreatDoorC22
import Derived.Test.YtfjoaeghnfkdlaaGreatDoorC9
import Derived.Test.YtfjoaeghnfkdlaaGreatDoorC13
import Derived.Test.YtfjoaeghnfkdlaaGreatDoorC12
import Derived.Test.YtfjoaeghnfkdlaaGreatDoorC15
import Derived.Test.YtfjoaeghnfkdlaaGreatDoorC8
import Derived.OwnWalk
import Derived.RegionTactic
import Derived.Deep.QuietTactic
import Derived.BigQuiet
import Derived.Test.YtfjoaeghnfkdlaaGreatDoorC18
set_option linter.unusedSimpArgs false
set_option linter.unusedVariables false
set_option maxHeartbeats 1000000
namespace Go.Proofs.YtfjoaeghnfkdlaaGreatDoor
set_option maxRecDepth 100000
set_option maxRecDepth 100000
open Go.RowKit
theorem len64_fn (x : Int) (h0 : 0 ≤ x) (h1 : x < 256) : FnH Tryz.prog 141 [.int .u64 x] [] (fun r h' => (∃ k : Int, r = .int .i64 k) ∧ h' = []) := by
  refine fnhb Tryz.func141 (entered_of (by kernel_rfl)) rfl rfl ?_
  repeat' (first | refine sA ?_ | ((first | apply kM | apply kN); (iterate 3 (· exact rfl)); (· first | exact ya)) | refine sG ?_ | (refine sK ?_ ?_ <;> intro hc <;> (try simp only [KL, sL, reduceCtorEq] at hc) <;> (try (have hT : True := hc; clear hT hc)) <;> (try (exfalso; omega))))
  all_goals first | (exfalso; omega) | skip
  refine ao_indexS rfl rfl rfl rfl (by omega) 256 rfl (by omega) rfl rfl rfl (fun m hm => ?_)
  repeat' (first | refine sA ?_ | ((first | apply kM | apply kN); (iterate 3 (· exact rfl)); (· first | exact ya)) | refine sG ?_ | (refine sK ?_ ?_ <;> intro hc <;> (try simp only [KL, sL, reduceCtorEq] at hc) <;> (try (have hT : True := hc; clear hT hc)) <;> (try (exfalso; omega))))
  exact retq rfl ⟨⟨_, rfl⟩, rfl⟩
theorem len_fn (x : Int) (h0 : 0 ≤ x) (h1 : x < 256) : FnH Tryz.prog 117 [.int .u64 x] [] (fun r h' => (∃ k : Int, r = .int .i64 k) ∧ h' = []) := by
  refine fnhb Tryz.func117 (entered_of (by kernel_rfl)) rfl rfl ?_
  repeat' (first | refine sA ?_ | ((first | apply kM | apply kN); (iterate 3 (· exact rfl)); (· first | exact ya)) | refine sG ?_ | (refine sK ?_ ?_ <;> intro hc <;> (try simp only [KL, sL, reduceCtorEq] at hc) <;> (try (have hT : True := hc; clear hT hc)) <;> (try (exfalso; omega))))
  all_goals first | (exfalso; omega) | skip
  refine zcall (fun i => i) (len64_fn x h0 h1) rfl rfl leh rfl rfl rfl rfl rfl rfl (fun r h' hR => ?_)
  obtain ⟨⟨k, rfl⟩, rfl⟩ := hR
  refine ⟨rfl, rfl, ?_⟩
  repeat' (first | refine sA ?_ | ((first | apply kM | apply kN); (iterate 3 (· exact rfl)); (· first | exact ya)) | refine sG ?_ | (refine sK ?_ ?_ <;> intro hc <;> (try simp only [KL, sL, reduceCtorEq] at hc) <;> (try (have hT : True := hc; clear hT hc)) <;> (try (exfalso; omega))))
  exact retq rfl ⟨⟨_, rfl⟩, rfl⟩
theorem cloneO_fn (l : List Due) (hn : l.length ≤ 1000000) : FnH Tryz.prog 85 [.own 4] [(4, .row 60 2 (l.map eDue)), (5, .row 60 2 (([] : List Due).map eDue))] (fun r h' => r = .own 5 ∧ h' = [(4, .row 60 2 (l.map eDue)), (5, .row 60 2 (l.map eDue))]) := by
  refine fnhb Tryz.func85 (entered_of (by kernel_rfl)) rfl rfl ?_
  refine wle (s' := [(0, .own 4)]) (h' := [(4, .row 60 2 (l.map eDue))]) les leh ?_
  repeat' (first | refine sA ?_ | ((first | apply kM | apply kN); (iterate 3 (· exact rfl)); (· first | exact ya)) | refine sG ?_ | (refine sK ?_ ?_ <;> intro hc <;> (try simp only [KL, sL, reduceCtorEq] at hc) <;> (try (have hT : True := hc; clear hT hc)) <;> (try (exfalso; omega))))
  refine ao_nilqO rfl rfl rfl rfl rfl rfl rfl rfl (fun b hb => ?_)
  cases b
  · repeat' (first | refine sA ?_ | ((first | apply kM | apply kN); (iterate 3 (· exact rfl)); (· first | exact yag)) | refine sG ?_ | (refine sK ?_ ?_ <;> intro hc <;> (try simp only [KL, sL, reduceCtorEq] at hc) <;> (try (have hT : True := hc; clear hT hc)) <;> (try (exfalso; omega))))
    refine o_blit (f := eDue) (l := []) (id := 5) (sz := 2) rfl rfl rfl rfl rfl rfl rfl rfl rfl rfl rfl rfl rfl rfl ?_
    repeat' (first | refine sA ?_ | ((first | apply kM | apply kN); (iterate 3 (· exact rfl)); (· first | exact ya)) | refine sG ?_ | (refine sK ?_ ?_ <;> intro hc <;> (try simp only [KL, sL, reduceCtorEq] at hc) <;> (try (have hT : True := hc; clear hT hc)) <;> (try (exfalso; omega))))
    refine ao_apO (id := 5) (id2 := 4) (ys := l) (by_ := 16) rfl rfl rfl rfl rfl rfl rfl rfl rfl rfl (fun _ _ => rfl) ?_ ?_ rfl rfl rfl rfl rfl ?_
    · simp only [List.length_nil]; omega
    · simp only [List.length_nil]; omega
    repeat' (first | refine sA ?_ | ((first | apply kM | apply kN); (iterate 3 (· exact rfl)); (· first | exact ya)) | refine sG ?_ | (refine sK ?_ ?_ <;> intro hc <;> (try simp only [KL, sL, reduceCtorEq] at hc) <;> (try (have hT : True := hc; clear hT hc)) <;> (try (exfalso; omega))))
    exact reth rfl leh ⟨rfl, rfl⟩
  · have h0 : l = [] := by simpa using hb rfl
    subst h0
    repeat' (first | refine sA ?_ | ((first | apply kM | apply kN); (iterate 3 (· exact rfl)); (· first | exact ya)) | refine sG ?_ | (refine sK ?_ ?_ <;> intro hc <;> (try simp only [KL, sL, reduceCtorEq] at hc) <;> (try (have hT : True := hc; clear hT hc)) <;> (try (exfalso; omega))))
    refine retT (fun n => turn_own eDue (t := 2) rfl 5 60 2 (by omega) rfl) ?_
    exact reth rfl leh ⟨rfl, rfl⟩
theorem pdqS_Due (fc : FuncId) (c : Due → Due → Int) (hs : SWO (ltcDue c)) (hF : ∀ x y, Fn Tryz.prog fc ([.agg (eDue x), .agg (eDue y)] ++ []) (.int .i64 (c x y))) (xx : List Due) (lim : Int) (n : Int) (hn : n = xx.length) (hl : xx.length ≤ 12) :
    FnH Tryz.prog 116 [.own 4, .int .i64 0, .int .i64 n, .int .i64 lim, .fn (.func fc) [] []] [(4, .row 60 2 (xx.map eDue))]
    (fun r h' => r = .tup [] ∧ ∃ xx', StS (ltcDue c) xx xx' ∧ h' = [(4, .row 60 2 (xx'.map eDue))]) := by
  refine fnhb Tryz.func116 (entered_of (by kernel_rfl)) rfl rfl ?_
  subst hn
  repeat' (first | refine sA ?_ | ((first | apply kM | apply kN); (iterate 3 (· exact rfl)); (· first | exact ya)) | refine sG ?_ | (refine sK ?_ ?_ <;> intro hc <;> (try simp only [KL, sL, reduceCtorEq] at hc) <;> (try (have hT : True := hc; clear hT hc)) <;> (try (exfalso; omega))))
  refine wloop (fun _ : Unit => ([(0, .own 4), (1, .int .i64 0), (2, .int .i64 xx.length), (4, .fn (.func fc) [] [])], [(4, .row 60 2 (xx.map eDue))])) (fun _ => True) (fun _ => 0) () trivial les leh (fun z hz => ?_)
  repeat' (first | refine sA ?_ | ((first | apply kM | apply kN); (iterate 3 (· exact rfl)); (· first | exact ya)) | refine sG ?_ | (refine sK ?_ ?_ <;> intro hc <;> (try simp only [KL, sL, reduceCtorEq] at hc) <;> (try (have hT : True := hc; clear hT hc)) <;> (try (exfalso; omega))))
  all_goals first | (exfalso; omega) | skip
  have hins := ins_Due fc c (fun _ => True) hs (fun x y _ _ => hF x y) [] xx [] (fun _ _ => trivial) 0 xx.length rfl (by simp) (by simp only [List.length_nil]; omega)
  simp only [List.nil_append, List.append_nil] at hins
  refine zcall (fun i => i) (hins) rfl rfl leh rfl rfl rfl rfl rfl rfl (fun r h' hR => ?_)
  obtain ⟨rfl, xx', hx, rfl⟩ := hR
  refine ⟨rfl, rfl, ?_⟩
  repeat' (first | refine sA ?_ | ((first | apply kM | apply kN); (iterate 3 (· exact rfl)); (· first | exact ya)) | refine sG ?_ | (refine sK ?_ ?_ <;> intro hc <;> (try simp only [KL, sL, reduceCtorEq] at hc) <;> (try (have hT : True := hc; clear hT hc)) <;> (try (exfalso; omega))))
  first | exact retn rfl ⟨rfl, xx', hx, rfl⟩ | exact retq rfl ⟨rfl, xx', hx, rfl⟩
theorem sortF_Due (fc : FuncId) (c : Due → Due → Int) (hs : SWO (ltcDue c)) (hF : ∀ x y, Fn Tryz.prog fc ([.agg (eDue x), .agg (eDue y)] ++ []) (.int .i64 (c x y))) (xx : List Due) (hl : xx.length ≤ 12) :
    FnH Tryz.prog 87 [.own 4, .fn (.func fc) [] []] [(4, .row 60 2 (xx.map eDue))]
    (fun r h' => r = .tup [] ∧ ∃ xx', StS (ltcDue c) xx xx' ∧ h' = [(4, .row 60 2 (xx'.map eDue))]) := by
  refine fnhb Tryz.func87 (entered_of (by kernel_rfl)) rfl rfl ?_
  repeat' (first | refine sA ?_ | ((first | apply kM | apply kN); (iterate 3 (· exact rfl)); (· first | exact ya)) | refine sG ?_ | (refine sK ?_ ?_ <;> intro hc <;> (try simp only [KL, sL, reduceCtorEq] at hc) <;> (try (have hT : True := hc; clear hT hc)) <;> (try (exfalso; omega))))
  refine zcall (fun i => i) (len_fn xx.length (by omega) (by omega)) rfl rfl leh rfl rfl rfl rfl rfl rfl (fun r h' hR => ?_)
  obtain ⟨⟨k, rfl⟩, rfl⟩ := hR
  refine ⟨rfl, rfl, ?_⟩
  repeat' (first | refine sA ?_ | ((first | apply kM | apply kN); (iterate 3 (· exact rfl)); (· first | exact ya)) | refine sG ?_ | (refine sK ?_ ?_ <;> intro hc <;> (try simp only [KL, sL, reduceCtorEq] at hc) <;> (try (have hT : True := hc; clear hT hc)) <;> (try (exfalso; omega))))
  refine zcall (fun i => i) (pdqS_Due fc c hs hF xx k _ rfl hl) rfl rfl leh rfl rfl rfl rfl rfl rfl (fun r h' hR => ?_)
  obtain ⟨rfl, xx', hx, rfl⟩ := hR
  refine ⟨rfl, rfl, ?_⟩
  repeat' (first | refine sA ?_ | ((first | apply kM | apply kN); (iterate 3 (· exact rfl)); (· first | exact ya)) | refine sG ?_ | (refine sK ?_ ?_ <;> intro hc <;> (try simp only [KL, sL, reduceCtorEq] at hc) <;> (try (have hT : True := hc; clear hT hc)) <;> (try (exfalso; omega))))
  first | exact retn rfl ⟨rfl, xx', hx, rfl⟩ | exact retq rfl ⟨rfl, xx', hx, rfl⟩
theorem listC_fn (x y : Due) : Fn Tryz.prog 88 ([.agg (eDue x), .agg (eDue y)] ++ []) (.int .i64 (cmpD x y)) := by
  refine fnb Tryz.func88 (entered_of (by kernel_rfl)) rfl rfl rfl ?_
  have c1 := cmp_fn x.at_ y.at_
  have c2 := cmp_fn x.task y.task
  have c3 := or_fn (cmpI x.at_ y.at_) (cmpI x.task y.task)
  repeat' (first | refine sA ?_ | ((first | apply kM | apply kN); (iterate 3 (· exact rfl)); (· first | exact ya | exact q_c (c1) rfl | exact q_c (c2) rfl | exact q_c (c3) rfl)) | refine sG ?_ | (refine sK ?_ ?_ <;> intro hc <;> (try simp only [KL, sL, reduceCtorEq] at hc) <;> (try (have hT : True := hc; clear hT hc)) <;> (try (exfalso; omega))))
  exact retq rfl rfl
def ρ4b (i : Nat) : Nat := [0, 1, 2, 3, 4, 11, 6, 7, 8, 9].getD i i
def ρ4c (i : Nat) : Nat := [0, 1, 2, 3, 11].getD i i
theorem list05_fn (room : Int) (xs : List Due) (hl : xs.length ≤ 12) : FnH Tryz.prog 54 [.ptr 0 0] (agH 4 room xs) (fun r h' => r = .lst 2 ((sortD xs).map eDue) ∧ h' = agH 4 room xs) := by
  refine (fnhb Tryz.func54 (entered_of (by kernel_rfl)) rfl rfl ?_).drop
  repeat' (first | refine sA ?_ | ((first | apply kM | apply kN); (iterate 3 (· exact rfl)); (· first | exact ya)) | refine sG ?_ | (refine sK ?_ ?_ <;> intro hc <;> (try simp only [KL, sL, reduceCtorEq] at hc) <;> (try (have hT : True := hc; clear hT hc)) <;> (try (exfalso; omega))))
  refine oturn (turn_dummy eDue 11 60 2 (by omega) rfl) ?_
  refine zcall (fun i => ρ4b i) (cloneO_fn xs (by omega)) rfl rfl leh rfl rfl rfl rfl rfl rfl (fun r h' hR => ?_)
  obtain ⟨rfl, rfl⟩ := hR
  refine ⟨rfl, rfl, ?_⟩
  repeat' (first | refine sA ?_ | ((first | apply kM | apply kN); (iterate 3 (· exact rfl)); (· first | exact ya)) | refine sG ?_ | (refine sK ?_ ?_ <;> intro hc <;> (try simp only [KL, sL, reduceCtorEq] at hc) <;> (try (have hT : True := hc; clear hT hc)) <;> (try (exfalso; omega))))
  refine zcall (fun i => ρ4c i) (sortF_Due 88 cmpD swoD listC_fn xs hl) rfl rfl leh rfl rfl rfl rfl rfl rfl (fun r h' hR => ?_)
  obtain ⟨rfl, xx', hx, rfl⟩ := hR
  refine ⟨rfl, rfl, ?_⟩
  have h1 := sortD_of hx
  subst h1
  repeat' (first | refine sA ?_ | ((first | apply kM | apply kN); (iterate 3 (· exact rfl)); (· first | exact ya)) | refine sG ?_ | (refine sK ?_ ?_ <;> intro hc <;> (try simp only [KL, sL, reduceCtorEq] at hc) <;> (try (have hT : True := hc; clear hT hc)) <;> (try (exfalso; omega))))
  refine retT (fun _ => turn_freeze (t := 2) rfl rfl rfl) ?_
  exact retq rfl ⟨agH 4 room xs, leh, rfl, rfl⟩
end Go.Proofs.YtfjoaeghnfkdlaaGreatDoor
namespace Go.Proofs.YtfjoaeghnfkdlaaGreatDoor
set_option linter.unusedSimpArgs false
set_option linter.unusedVariables false
set_option maxRecDepth 100000
set_option linter.unusedSimpArgs false
set_option linter.unusedVariables false
set_option maxRecDepth 100000
open Go.RowKit
theorem agC_congr {S S' : List Due} (h : S.Perm S') : agC S = agC S' := by
  have : agΦ S = agΦ S' := by
    funext xs
    exact propext ⟨fun ⟨l, a, b, c⟩ => ⟨l, a, b, c.trans h⟩, fun ⟨l, a, b, c⟩ => ⟨l, a, b, c.trans h.symm⟩⟩
  unfold agC
  rw [this]
abbrev agT (room : Int) (S : List Due) : Heap := [(4, agC S), (0, .blk 129 [.int .i64 room, .own 4])]
theorem listS_fn (room : Int) (S : List Due) (hl : S.length ≤ 12) : FnH Tryz.prog 54 [.ptr 0 0] (agT room S) (fun r h' => r = .lst 2 ((sortD S).map eDue) ∧ h' = agT room S) := by
  refine FnH.exOpen 4 (entered_of (by kernel_rfl)) (fun xs hx => ?_) rfl
  obtain ⟨l, rfl, h1, h2⟩ := hx
  have hll := h2.length_eq
  refine FnH.exPack 4 (e := 60) (sz := 2) (FnH.mono (FnH.leIn (list05_fn room l (by omega)) leh) ?_)
  rintro r h' ⟨rfl, rfl⟩
  rw [sortD_congr h2]
  exact ⟨l.map eDue, agΦ S, rfl, ⟨l, rfl, h1, h2⟩, agT room S, leh, rfl, rfl⟩
def caS (l : List Task) (B : Bk) (S : List Due) (last : List (Int × Int)) (now : Int) (opn : Bool) : Nat → Heap
  | 0 => [(100, .blk 87 [.lst 7 (l.map eTask), .lst 1 ((l.map Task.prio).map eI), .ptr 1 0, .ptr 4 0, .own 8, .int .i64 now, .bool opn]), (105, .row 71 8 (([] : List Job).map eJob)), (106, .row 60 2 (([] : List Due).map eDue)), dumZ 102, dumZ 103, dumZ 101, dumZ 108]
  | 1 => [(100, .blk 87 [.lst 7 (l.map eTask), .lst 1 ((l.map Task.prio).map eI), .ptr 1 0, .ptr 4 0, .own 8, .int .i64 now, .bool opn]), (105, .row 71 8 (B.all.map eJob)), (106, .row 60 2 (B.overs.map eDue)), (102, mI B.now), (103, mI B.cnt), (101, .blk 127 [.lst 7 (l.map eTask), .own 105, .own 102, .own 103, .int .u64 B.act, .own 106]), dumZ 108]
  | 2 => [(100, .blk 87 [.lst 7 (l.map eTask), .lst 1 ((l.map Task.prio).map eI), .ptr 1 0, .ptr 4 0, .own 8, .int .i64 now, .bool opn]), (105, .row 71 8 (B.all.map eJob)), (106, .row 60 2 (B.overs.map eDue)), (102, mI B.now), (103, mI B.cnt), (101, .blk 127 [.lst 7 (l.map eTask), .own 105, .own 102, .own 103, .int .u64 B.act, .own 106]), (108, mI last)]
  | 3 => [(100, .blk 87 [.lst 7 (l.map eTask), .lst 1 ((l.map Task.prio).map eI), .ptr 101 0, .ptr 4 0, .own 8, .int .i64 now, .bool opn]), (105, .row 71 8 (B.all.map eJob)), (106, .row 60 2 (B.overs.map eDue)), (102, mI B.now), (103, mI B.cnt), (101, .blk 127 [.lst 7 (l.map eTask), .own 105, .own 102, .own 103, .int .u64 B.act, .own 106]), (108, mI last)]
  | _ => [(100, .blk 87 [.lst 7 (l.map eTask), .lst 1 ((l.map Task.prio).map eI), .ptr 101 0, .ptr 4 0, .own 108, .int .i64 now, .bool opn]), (105, .row 71 8 (B.all.map eJob)), (106, .row 60 2 (B.overs.map eDue)), (102, mI B.now), (103, mI B.cnt), (101, .blk 127 [.lst 7 (l.map eTask), .own 105, .own 102, .own 103, .int .u64 B.act, .own 106]), (108, mI last)]
def caH (l : List Task) (B : Bk) (S : List Due) (last : List (Int × Int)) (now : Int) (opn : Bool) (y : Nat) (f : Bool) : Heap := knX l l.length B S last now opn ++ caS l B S last now opn y
def nwCl (i : Nat) : List Nat := if i = 4 then [105, 106, 102, 103, 101] else if i = 9 then [108] else []
def ρC1 (i : Nat) : Nat := [1, 5, 2, 3, 6, 105, 106, 102, 103, 101].getD i i
def ρC2 (i : Nat) : Nat := if i = 4 then 8 else if i = 5 then 108 else i
def ρC3 (i : Nat) : Nat := if i = 5 then 104 else i
def ρC4 (i : Nat) : Nat := if i = 0 then 4 else if i = 4 then 7 else i
def ρC5 (i : Nat) : Nat := if i = 0 then 104 else if i = 5 then 107 else i
abbrev d14b (d : Due) : Nat × Chunk := (14, .blk 60 (eDue d))
set_option maxHeartbeats 4000000 in
theorem cloneK_fn (l : List Task) (K : Kn) (hl : l.length ≤ 8) (h1 : K.B.all.length ≤ 1000000) (h2 : K.B.overs.length ≤ 1000000) (hs : K.S.length ≤ l.length) (hd : ∀ d ∈ K.S, 0 ≤ d.task ∧ 0 ≤ d.at_) :
    FnH Tryz.prog 16 [.ptr 0 0] (knH l l.length K ++ dmys) (fun r h' => r = .ptr 100 0 ∧ h' = knH l l.length K ++ knO l l.length K) := by
  obtain ⟨B, S, last, now, opn⟩ := K
  simp only at h1 h2 hs hd ⊢
  refine FnH.drop' (fnhb Tryz.func16 (entered_of (by kernel_rfl)) rfl rfl ?_)
  refine wle (s' := [(0, .ptr 0 0)]) (h' := knX l l.length B S last now opn) les (show LeH _ (knX l l.length B S last now opn) from leh) ?_
  have c1 := cloneJ_fn l B (by omega) h1 h2
  have c2 := mclone_fn last
  have c3 := new05_fn l.length
  rw [show max 0 (min (l.length : Int) 4096) = l.length by omega] at c3
  have c4 := listS_fn l.length S (by omega)
  repeat' (first | (show W _ _ _ _ _ _; first | apply kA | refine kB rfl ?_ | refine kC rfl rfl ?_ | refine kD rfl rfl ?_ | apply kE | apply kF | apply kG | apply kH) | (show O _ _ _ _ _ _ _; first | (show O _ _ _ _ (⟨_, .alloc _, _, _, _, _⟩ :: _) _ _; first | refine ao_alloc (id := 100) rfl rfl rfl rfl rfl rfl rfl ?_) | (show O _ _ _ _ (⟨_, .store _ _ _, _, _, _, _⟩ :: _) _ _; refine kJ rfl rfl rfl rfl rfl rfl rfl rfl rfl rfl rfl ?_) | apply kK) | apply kL | ((first | apply kM | apply kN); (iterate 3 (· exact rfl)); (· first | exact ya)) | refine kO rfl rfl rfl rfl rfl ?_ | refine kP rfl rfl rfl ?_ | ((first | refine kQ rfl rfl ?_ ?_ | refine kR rfl rfl rfl rfl rfl ?_ ?_ | refine kS rfl rfl rfl ?_ ?_) <;> intro hc <;> (try simp only [KL, cond_true, cond_false, beq_iff_eq, bne_iff_ne, ne_eq, reduceCtorEq] at hc) <;> (try (have hT : True := hc; clear hT hc)) <;> (try (exfalso; omega))) | apply kT | apply kU | apply kV | apply kW | refine kX rfl ?_ | apply kY | apply kZ)
  refine wle (s' := [(0, .ptr 0 0), (3, .ptr 100 0)]) (h' := (100, .blk 87 [.lst 7 (l.map eTask), .lst 1 ((l.map Task.prio).map eI), .ptr 1 0, .ptr 4 0, .own 8, .int .i64 now, .bool opn]) :: knX l l.length B S last now opn) les leh ?_
  refine wturn (turn_dummy eJob 105 71 8 (by omega) (by kernel_rfl)) ?_
  refine wturn (turn_dummy eDue 106 60 2 (by omega) (by kernel_rfl)) ?_
  refine wturn (turn_dummy eI 102 3 1 (by omega) (by kernel_rfl)) ?_
  refine wturn (turn_dummy eI 103 3 1 (by omega) (by kernel_rfl)) ?_
  refine wturn (turn_dummy eI 101 3 1 (by omega) (by kernel_rfl)) ?_
  refine wturn (turn_dummy eI 108 3 1 (by omega) (by kernel_rfl)) ?_
  refine wle (s' := [(0, .ptr 0 0), (3, .ptr 100 0)]) (h' := caH l B S last now opn 0 false) les (show LeH _ (knX l l.length B S last now opn ++ [(100, .blk 87 [.lst 7 (l.map eTask), .lst 1 ((l.map Task.prio).map eI), .ptr 1 0, .ptr 4 0, .own 8, .int .i64 now, .bool opn]), (105, .row 71 8 (([] : List Job).map eJob)), (106, .row 60 2 (([] : List Due).map eDue)), dumZ 102, dumZ 103, dumZ 101, dumZ 108]) from leh) ?_
  refine wdrawQ (caH l B S last now opn) (fun _ => True) (fun _ => True) [4, 9, 11, 13] [] 0 99 nwCl 0 (LeH.refl _) (by kernel_rfl) (by kernel_rfl) (by kernel_rfl) trivial trivial rfl rfl rfl rfl ?_
  refine qw_new (v := .ptr 0 0) rfl rfl (by kernel_rfl) (fun y hy => tn_ok ya) ?_
  repeat' (first | (show W _ _ _ _ _ _; first | apply kA | refine kB rfl ?_ | refine kC rfl rfl ?_ | refine kD rfl rfl ?_ | apply kE | apply kF | apply kG | apply kH | refine kI (by kernel_rfl) (by kernel_rfl) ?_) | (show O _ _ _ _ _ _ _; first | (show O _ _ _ _ (⟨_, .store _ _ _, _, _, _, _⟩ :: _) _ _; refine kJ rfl rfl rfl rfl rfl rfl rfl rfl rfl rfl rfl ?_) | apply kK) | apply kL | ((first | apply kM | apply kN); (iterate 3 (· exact rfl)); (· first | exact ya)) | (show QW _ _ _ _ _ _ _ _ _ _ _ _ _ _ _; first | refine qw_nil ?_ | (apply qw_any; (· exact rfl); (· exact rfl); (· exact rfl); (· intro y' f' hy'; first | exact ya); (· first | exact rfl | kernel_rfl))) | refine kO rfl rfl rfl rfl rfl ?_ | refine kP rfl rfl rfl ?_ | ((first | refine kQ rfl rfl ?_ ?_ | refine kR rfl rfl rfl rfl rfl ?_ ?_ | refine kS rfl rfl rfl ?_ ?_) <;> intro hc <;> (try simp only [KL, cond_true, cond_false, beq_iff_eq, bne_iff_ne, ne_eq, reduceCtorEq] at hc) <;> (try (have hT : True := hc; clear hT hc)) <;> (try (exfalso; omega))) | apply kT | apply kU | apply kV | apply kW | refine kX rfl ?_ | apply kY | apply kZ)
  refine qw_tu (x' := 1) rfl rfl rfl trivial trivial (fun f hf => tl_call ρC1 c1 rfl (show LeH (knX l l.length B S last now opn ++ [(100, .blk 87 [.lst 7 (l.map eTask), .lst 1 ((l.map Task.prio).map eI), .ptr 1 0, .ptr 4 0, .own 8, .int .i64 now, .bool opn]), (105, .row 71 8 (([] : List Job).map eJob)), (106, .row 60 2 (([] : List Due).map eDue)), dumZ 102, dumZ 103, dumZ 101, dumZ 108]) _ from leh) (by kernel_rfl) (by kernel_rfl) (by kernel_rfl) (by kernel_rfl) (by kernel_rfl) (by kernel_rfl) (by kernel_rfl) rfl (show LeH _ (knX l l.length B S last now opn ++ [(100, .blk 87 [.lst 7 (l.map eTask), .lst 1 ((l.map Task.prio).map eI), .ptr 1 0, .ptr 4 0, .own 8, .int .i64 now, .bool opn]), (105, .row 71 8 (B.all.map eJob)), (106, .row 60 2 (B.overs.map eDue)), (102, mI B.now), (103, mI B.cnt), (101, .blk 127 [.lst 7 (l.map eTask), .own 105, .own 102, .own 103, .int .u64 B.act, .own 106]), dumZ 108]) from leh)) (by kernel_rfl) ?_
  repeat' (first | (show W _ _ _ _ _ _; first | apply kA | refine kB rfl ?_ | refine kC rfl rfl ?_ | refine kD rfl rfl ?_ | apply kE | apply kF | apply kG | apply kH | refine kI (by kernel_rfl) (by kernel_rfl) ?_) | (show O _ _ _ _ _ _ _; first | (show O _ _ _ _ (⟨_, .store _ _ _, _, _, _, _⟩ :: _) _ _; refine kJ rfl rfl rfl rfl rfl rfl rfl rfl rfl rfl rfl ?_) | apply kK) | apply kL | ((first | apply kM | apply kN); (iterate 3 (· exact rfl)); (· first | exact ya)) | (show QW _ _ _ _ _ _ _ _ _ _ _ _ _ _ _; first | refine qw_nil ?_ | (apply qw_any; (· exact rfl); (· exact rfl); (· exact rfl); (· intro y' f' hy'; first | exact ya); (· first | exact rfl | kernel_rfl))) | refine kO rfl rfl rfl rfl rfl ?_ | refine kP rfl rfl rfl ?_ | ((first | refine kQ rfl rfl ?_ ?_ | refine kR rfl rfl rfl rfl rfl ?_ ?_ | refine kS rfl rfl rfl ?_ ?_) <;> intro hc <;> (try simp only [KL, cond_true, cond_false, beq_iff_eq, bne_iff_ne, ne_eq, reduceCtorEq] at hc) <;> (try (have hT : True := hc; clear hT hc)) <;> (try (exfalso; omega))) | apply kT | apply kU | apply kV | apply kW | refine kX rfl ?_ | apply kY | apply kZ)
  refine qw_tu (x' := 2) rfl rfl rfl trivial trivial (fun f hf => tl_call ρC2 c2 rfl (show LeH (knX l l.length B S last now opn ++ [(100, .blk 87 [.lst 7 (l.map eTask), .lst 1 ((l.map Task.prio).map eI), .ptr 1 0, .ptr 4 0, .own 8, .int .i64 now, .bool opn]), (105, .row 71 8 (B.all.map eJob)), (106, .row 60 2 (B.overs.map eDue)), (102, mI B.now), (103, mI B.cnt), (101, .blk 127 [.lst 7 (l.map eTask), .own 105, .own 102, .own 103, .int .u64 B.act, .own 106]), dumZ 108]) _ from leh) (by kernel_rfl) (by kernel_rfl) (by kernel_rfl) (by kernel_rfl) (by kernel_rfl) (by kernel_rfl) (by kernel_rfl) rfl (show LeH _ (knX l l.length B S last now opn ++ [(100, .blk 87 [.lst 7 (l.map eTask), .lst 1 ((l.map Task.prio).map eI), .ptr 1 0, .ptr 4 0, .own 8, .int .i64 now, .bool opn]), (105, .row 71 8 (B.all.map eJob)), (106, .row 60 2 (B.overs.map eDue)), (102, mI B.now), (103, mI B.cnt), (101, .blk 127 [.lst 7 (l.map eTask), .own 105, .own 102, .own 103, .int .u64 B.act, .own 106]), (108, mI last)]) from leh)) (by kernel_rfl) ?_
  repeat' (first | (show W _ _ _ _ _ _; first | apply kA | refine kB rfl ?_ | refine kC rfl rfl ?_ | refine kD rfl rfl ?_ | apply kE | apply kF | apply kG | apply kH | refine kI (by kernel_rfl) (by kernel_rfl) ?_) | (show O _ _ _ _ _ _ _; first | (show O _ _ _ _ (⟨_, .store _ _ _, _, _, _, _⟩ :: _) _ _; refine kJ rfl rfl rfl rfl rfl rfl rfl rfl rfl rfl rfl ?_) | apply kK) | apply kL | ((first | apply kM | apply kN); (iterate 3 (· exact rfl)); (· first | exact ya)) | (show QW _ _ _ _ _ _ _ _ _ _ _ _ _ _ _; first | refine qw_nil ?_ | (apply qw_any; (· exact rfl); (· exact rfl); (· exact rfl); (· intro y' f' hy'; first | exact ya); (· first | exact rfl | kernel_rfl))) | refine kO rfl rfl rfl rfl rfl ?_ | refine kP rfl rfl rfl ?_ | ((first | refine kQ rfl rfl ?_ ?_ | refine kR rfl rfl rfl rfl rfl ?_ ?_ | refine kS rfl rfl rfl ?_ ?_) <;> intro hc <;> (try simp only [KL, cond_true, cond_false, beq_iff_eq, bne_iff_ne, ne_eq, reduceCtorEq] at hc) <;> (try (have hT : True := hc; clear hT hc)) <;> (try (exfalso; omega))) | apply kT | apply kU | apply kV | apply kW | refine kX rfl ?_ | apply kY | apply kZ)
  refine qw_tu (x' := 3) rfl rfl rfl trivial trivial (fun f hf => ((tu_st (sto_B rfl rfl rfl rfl rfl rfl (Nat.le_of_ble_eq_true rfl)) rfl).post (show LeH _ (knX l l.length B S last now opn ++ [(100, .blk 87 [.lst 7 (l.map eTask), .lst 1 ((l.map Task.prio).map eI), .ptr 101 0, .ptr 4 0, .own 8, .int .i64 now, .bool opn]), (105, .row 71 8 (B.all.map eJob)), (106, .row 60 2 (B.overs.map eDue)), (102, mI B.now), (103, mI B.cnt), (101, .blk 127 [.lst 7 (l.map eTask), .own 105, .own 102, .own 103, .int .u64 B.act, .own 106]), (108, mI last)]) from leh)).toL) (by kernel_rfl) ?_
  repeat' (first | (show W _ _ _ _ _ _; first | apply kA | refine kB rfl ?_ | refine kC rfl rfl ?_ | refine kD rfl rfl ?_ | apply kE | apply kF | apply kG | apply kH | refine kI (by kernel_rfl) (by kernel_rfl) ?_) | (show O _ _ _ _ _ _ _; first | (show O _ _ _ _ (⟨_, .store _ _ _, _, _, _, _⟩ :: _) _ _; refine kJ rfl rfl rfl rfl rfl rfl rfl rfl rfl rfl rfl ?_) | apply kK) | apply kL | ((first | apply kM | apply kN); (iterate 3 (· exact rfl)); (· first | exact ya)) | (show QW _ _ _ _ _ _ _ _ _ _ _ _ _ _ _; first | refine qw_nil ?_ | (apply qw_any; (· exact rfl); (· exact rfl); (· exact rfl); (· intro y' f' hy'; first | exact ya); (· first | exact rfl | kernel_rfl))) | refine kO rfl rfl rfl rfl rfl ?_ | refine kP rfl rfl rfl ?_ | ((first | refine kQ rfl rfl ?_ ?_ | refine kR rfl rfl rfl rfl rfl ?_ ?_ | refine kS rfl rfl rfl ?_ ?_) <;> intro hc <;> (try simp only [KL, cond_true, cond_false, beq_iff_eq, bne_iff_ne, ne_eq, reduceCtorEq] at hc) <;> (try (have hT : True := hc; clear hT hc)) <;> (try (exfalso; omega))) | apply kT | apply kU | apply kV | apply kW | refine kX rfl ?_ | apply kY | apply kZ)
  refine qw_tu (x' := 4) rfl rfl rfl trivial trivial (fun f hf => ((tu_st (sto_B rfl rfl rfl rfl rfl rfl (Nat.le_of_ble_eq_true rfl)) rfl).post (show LeH _ (knX l l.length B S last now opn ++ [(100, .blk 87 [.lst 7 (l.map eTask), .lst 1 ((l.map Task.prio).map eI), .ptr 101 0, .ptr 4 0, .own 108, .int .i64 now, .bool opn]), (105, .row 71 8 (B.all.map eJob)), (106, .row 60 2 (B.overs.map eDue)), (102, mI B.now), (103, mI B.cnt), (101, .blk 127 [.lst 7 (l.map eTask), .own 105, .own 102, .own 103, .int .u64 B.act, .own 106]), (108, mI last)]) from leh)).toL) (by kernel_rfl) ?_
  repeat' (first | (show W _ _ _ _ _ _; first | apply kA | refine kB rfl ?_ | refine kC rfl rfl ?_ | refine kD rfl rfl ?_ | apply kE | apply kF | apply kG | apply kH | refine kI (by kernel_rfl) (by kernel_rfl) ?_) | (show O _ _ _ _ _ _ _; first | (show O _ _ _ _ (⟨_, .store _ _ _, _, _, _, _⟩ :: _) _ _; refine kJ rfl rfl rfl rfl rfl rfl rfl rfl rfl rfl rfl ?_) | apply kK) | apply kL | ((first | apply kM | apply kN); (iterate 3 (· exact rfl)); (· first | exact ya)) | (show QW _ _ _ _ _ _ _ _ _ _ _ _ _ _ _; first | refine qw_nil ?_ | (apply qw_any; (· exact rfl); (· exact rfl); (· exact rfl); (· intro y' f' hy'; first | exact ya); (· first | exact rfl | kernel_rfl))) | refine kO rfl rfl rfl rfl rfl ?_ | refine kP rfl rfl rfl ?_ | ((first | refine kQ rfl rfl ?_ ?_ | refine kR rfl rfl rfl rfl rfl ?_ ?_ | refine kS rfl rfl rfl ?_ ?_) <;> intro hc <;> (try simp only [KL, cond_true, cond_false, beq_iff_eq, bne_iff_ne, ne_eq, reduceCtorEq] at hc) <;> (try (have hT : True := hc; clear hT hc)) <;> (try (exfalso; omega))) | apply kT | apply kU | apply kV | apply kW | refine kX rfl ?_ | apply kY | apply kZ)
  refine ole (s' := [(0, .ptr 0 0), (3, .ptr 100 0), (27, .int .i64 l.length)]) (h' := knX l l.length B S last now opn ++ [(100, .blk 87 [.lst 7 (l.map eTask), .lst 1 ((l.map Task.prio).map eI), .ptr 101 0, .ptr 4 0, .own 108, .int .i64 now, .bool opn]), (105, .row 71 8 (B.all.map eJob)), (106, .row 60 2 (B.overs.map eDue)), (102, mI B.now), (103, mI B.cnt), (101, .blk 127 [.lst 7 (l.map eTask), .own 105, .own 102, .own 103, .int .u64 B.act, .own 106]), (108, mI last)]) les (LeH.refl _) ?_
  refine oturn (turn_dummy eI 104 3 1 (by omega) (by kernel_rfl)) ?_
  refine zcall (fun i => ρC3 i) (c3) rfl rfl leh (by kernel_rfl) (by kernel_rfl) (by kernel_rfl) (by kernel_rfl) rfl rfl (fun r h' hR => ?_)
  obtain ⟨rfl, rfl⟩ := hR
  refine ⟨rfl, rfl, ?_⟩
  refine ole (s' := [(0, .ptr 0 0), (3, .ptr 100 0), (28, .ptr 104 0)]) (h' := (104, .blk 129 [.int .i64 l.length, .nils]) :: (knX l l.length B S last now opn ++ [(100, .blk 87 [.lst 7 (l.map eTask), .lst 1 ((l.map Task.prio).map eI), .ptr 101 0, .ptr 4 0, .own 108, .int .i64 now, .bool opn]), (105, .row 71 8 (B.all.map eJob)), (106, .row 60 2 (B.overs.map eDue)), (102, mI B.now), (103, mI B.cnt), (101, .blk 127 [.lst 7 (l.map eTask), .own 105, .own 102, .own 103, .int .u64 B.act, .own 106]), (108, mI last)])) les (LeH_ke (by kernel_rfl)) ?_
  repeat' (first | (show W _ _ _ _ _ _; first | apply kA | refine kB rfl ?_ | refine kC rfl rfl ?_ | refine kD rfl rfl ?_ | apply kE | apply kF | apply kG | apply kH | refine kI (by kernel_rfl) (by kernel_rfl) ?_) | (show O _ _ _ _ _ _ _; first | (show O _ _ _ _ (⟨_, .store _ _ _, _, _, _, _⟩ :: _) _ _; refine kJ rfl rfl rfl rfl rfl rfl rfl rfl rfl rfl rfl ?_) | apply kK) | apply kL | ((first | apply kM | apply kN); (iterate 3 (· exact rfl)); (· first | exact ya)) | refine kO rfl rfl rfl rfl rfl ?_ | refine kP rfl rfl rfl ?_ | ((first | refine kQ rfl rfl ?_ ?_ | refine kR rfl rfl rfl rfl rfl ?_ ?_ | refine kS rfl rfl rfl ?_ ?_) <;> intro hc <;> (try simp only [KL, cond_true, cond_false, beq_iff_eq, bne_iff_ne, ne_eq, reduceCtorEq] at hc) <;> (try (have hT : True := hc; clear hT hc)) <;> (try (exfalso; omega))) | apply kT | apply kU | apply kV | apply kW | refine kX rfl ?_ | apply kY | apply kZ)
  refine ole (s' := [(0, .ptr 0 0), (3, .ptr 100 0), (33, .ptr 4 0)]) (h' := knX l l.length B S last now opn ++ [(100, .blk 87 [.lst 7 (l.map eTask), .lst 1 ((l.map Task.prio).map eI), .ptr 101 0, .ptr 104 0, .own 108, .int .i64 now, .bool opn]), (105, .row 71 8 (B.all.map eJob)), (106, .row 60 2 (B.overs.map eDue)), (102, mI B.now), (103, mI B.cnt), (101, .blk 127 [.lst 7 (l.map eTask), .own 105, .own 102, .own 103, .int .u64 B.act, .own 106]), (108, mI last), (104, .blk 129 [.int .i64 l.length, .nils])]) les (show LeH _ (knX l l.length B S last now opn ++ [(100, .blk 87 [.lst 7 (l.map eTask), .lst 1 ((l.map Task.prio).map eI), .ptr 101 0, .ptr 104 0, .own 108, .int .i64 now, .bool opn]), (105, .row 71 8 (B.all.map eJob)), (106, .row 60 2 (B.overs.map eDue)), (102, mI B.now), (103, mI B.cnt), (101, .blk 127 [.lst 7 (l.map eTask), .own 105, .own 102, .own 103, .int .u64 B.act, .own 106]), (108, mI last), (104, .blk 129 [.int .i64 l.length, .nils])]) from leh) ?_
  refine oturn (turn_ownJ eDue (b := 104) 1 rfl rfl 107 60 2 (by omega) rfl) ?_
  refine oturn (turn_pack 107 (agΦ []) rfl ⟨[], rfl, fun k _ hk => absurd hk (by simp), List.Perm.refl _⟩) ?_
  refine ole (h' := knX l l.length B S last now opn ++ [(100, .blk 87 [.lst 7 (l.map eTask), .lst 1 ((l.map Task.prio).map eI), .ptr 101 0, .ptr 104 0, .own 108, .int .i64 now, .bool opn]), (105, .row 71 8 (B.all.map eJob)), (106, .row 60 2 (B.overs.map eDue)), (102, mI B.now), (103, mI B.cnt), (101, .blk 127 [.lst 7 (l.map eTask), .own 105, .own 102, .own 103, .int .u64 B.act, .own 106]), (108, mI last), (104, .blk 129 [.int .i64 l.length, .own 107]), (107, agC [])]) (LeS.refl _) (show LeH _ (knX l l.length B S last now opn ++ [(100, .blk 87 [.lst 7 (l.map eTask), .lst 1 ((l.map Task.prio).map eI), .ptr 101 0, .ptr 104 0, .own 108, .int .i64 now, .bool opn]), (105, .row 71 8 (B.all.map eJob)), (106, .row 60 2 (B.overs.map eDue)), (102, mI B.now), (103, mI B.cnt), (101, .blk 127 [.lst 7 (l.map eTask), .own 105, .own 102, .own 103, .int .u64 B.act, .own 106]), (108, mI last), (104, .blk 129 [.int .i64 l.length, .own 107]), (107, agC [])]) from leh) ?_
  refine zcall (fun i => ρC4 i) (c4) rfl rfl leh (by kernel_rfl) (by kernel_rfl) (by kernel_rfl) (by kernel_rfl) rfl rfl (fun r h' hR => ?_)
  obtain ⟨rfl, rfl⟩ := hR
  refine ⟨rfl, rfl, ?_⟩
  obtain ⟨ds, hds⟩ : ∃ ds, ds = sortD S := ⟨_, rfl⟩
  have hdl : ds.length = S.length := by rw [hds, sortD_len]
  have hdd : ∀ d ∈ ds, 0 ≤ d.task ∧ 0 ≤ d.at_ := fun d h => hd d ((sortD_perm S).mem_iff.1 (hds ▸ h))
  rw [← hds]
  refine ole (s' := [(3, .ptr 100 0), (34, .lst 2 (ds.map eDue))]) (h' := knX l l.length B S last now opn ++ [(100, .blk 87 [.lst 7 (l.map eTask), .lst 1 ((l.map Task.prio).map eI), .ptr 101 0, .ptr 104 0, .own 108, .int .i64 now, .bool opn]), (105, .row 71 8 (B.all.map eJob)), (106, .row 60 2 (B.overs.map eDue)), (102, mI B.now), (103, mI B.cnt), (101, .blk 127 [.lst 7 (l.map eTask), .own 105, .own 102, .own 103, .int .u64 B.act, .own 106]), (108, mI last), (104, .blk 129 [.int .i64 l.length, .own 107]), (107, agC [])]) les (show LeH _ (knX l l.length B S last now opn ++ [(100, .blk 87 [.lst 7 (l.map eTask), .lst 1 ((l.map Task.prio).map eI), .ptr 101 0, .ptr 104 0, .own 108, .int .i64 now, .bool opn]), (105, .row 71 8 (B.all.map eJob)), (106, .row 60 2 (B.overs.map eDue)), (102, mI B.now), (103, mI B.cnt), (101, .blk 127 [.lst 7 (l.map eTask), .own 105, .own 102, .own 103, .int .u64 B.act, .own 106]), (108, mI last), (104, .blk 129 [.int .i64 l.length, .own 107]), (107, agC [])]) from leh) ?_
  repeat' (first | (show W _ _ _ _ _ _; first | apply kA | refine kB rfl ?_ | refine kC rfl rfl ?_ | refine kD rfl rfl ?_ | apply kE | apply kF | apply kG | apply kH | refine kI (by kernel_rfl) (by kernel_rfl) ?_) | (show O _ _ _ _ _ _ _; first | (show O _ _ _ _ (⟨_, .store _ _ _, _, _, _, _⟩ :: _) _ _; refine kJ rfl rfl rfl rfl rfl rfl rfl rfl rfl rfl rfl ?_) | apply kK) | apply kL | ((first | apply kM | apply kN); (iterate 3 (· exact rfl)); (· first | exact ya)) | refine kO rfl rfl rfl rfl rfl ?_ | refine kP rfl rfl rfl ?_ | ((first | refine kQ rfl rfl ?_ ?_ | refine kR rfl rfl rfl rfl rfl ?_ ?_ | refine kS rfl rfl rfl ?_ ?_) <;> intro hc <;> (try simp only [KL, cond_true, cond_false, beq_iff_eq, bne_iff_ne, ne_eq, reduceCtorEq] at hc) <;> (try (have hT : True := hc; clear hT hc)) <;> (try (exfalso; omega))) | apply kT | apply kU | apply kV | apply kW | refine kX rfl ?_ | apply kY | apply kZ)
  refine wloop (fun k : Nat => ([(3, .ptr 100 0), (34, .lst 2 (ds.map eDue)), (35, .int .i64 ds.length), (36, .int .i64 k)], knX l l.length B S last now opn ++ [(100, .blk 87 [.lst 7 (l.map eTask), .lst 1 ((l.map Task.prio).map eI), .ptr 101 0, .ptr 104 0, .own 108, .int .i64 now, .bool opn]), (105, .row 71 8 (B.all.map eJob)), (106, .row 60 2 (B.overs.map eDue)), (102, mI B.now), (103, mI B.cnt), (101, .blk 127 [.lst 7 (l.map eTask), .own 105, .own 102, .own 103, .int .u64 B.act, .own 106]), (108, mI last), (104, .blk 129 [.int .i64 l.length, .own 107]), (107, agC (ds.take k))])) (fun k => k ≤ ds.length) (fun k => ds.length - k) 0 (Nat.zero_le _) les (show LeH _ (knX l l.length B S last now opn ++ [(100, .blk 87 [.lst 7 (l.map eTask), .lst 1 ((l.map Task.prio).map eI), .ptr 101 0, .ptr 104 0, .own 108, .int .i64 now, .bool opn]), (105, .row 71 8 (B.all.map eJob)), (106, .row 60 2 (B.overs.map eDue)), (102, mI B.now), (103, mI B.cnt), (101, .blk 127 [.lst 7 (l.map eTask), .own 105, .own 102, .own 103, .int .u64 B.act, .own 106]), (108, mI last), (104, .blk 129 [.int .i64 l.length, .own 107]), (107, agC [])]) from LeH.refl _) (fun k hk => ?_)
  rcases Nat.lt_or_eq_of_le hk with hkk | hkk
  · have hdm : ds.getD k default ∈ ds := getD_mem hkk
    have hnx : ds.take (k + 1) = ds.take k ++ [ds.getD k default] := by
      rw [List.take_succ_eq_append_getElem hkk]; simp [hkk]
    have hlt : (ds.take k).length = k := by rw [List.length_take]; omega
    obtain ⟨d, hda⟩ : ∃ d, ds.getD k default = d := ⟨_, rfl⟩
    rw [hda] at hdm hnx
    have f1 := pushS_fn l.length (ds.take k) d (by omega)
    have q := hdd d hdm
    have e0 : pushE l.length (ds.take k).length d = 0 := by rw [pushE, if_neg (by omega), if_neg (by rw [hlt]; omega)]
    have e1 : pushL l.length (ds.take k) d = ds.take k ++ [d] := by rw [pushL, if_pos e0]
    rw [e0, e1] at f1
    generalize ds.take k = xs at f1 hnx hlt ⊢
    repeat' (first | (show W _ _ _ _ _ _; first | apply kA | refine kB rfl ?_ | refine kC rfl rfl ?_ | refine kD rfl rfl ?_ | apply kE | apply kF | apply kG | apply kH | refine kI (by kernel_rfl) (by kernel_rfl) ?_) | (show O _ _ _ _ _ _ _; first | (show O _ _ _ _ (⟨_, .alloc _, _, _, _, _⟩ :: _) _ _; first | refine ao_alloc (id := 14) rfl rfl rfl rfl rfl rfl rfl ?_) | (show O _ _ _ _ (⟨_, .store _ _ _, _, _, _, _⟩ :: _) _ _; refine kJ rfl rfl rfl rfl rfl rfl rfl rfl rfl rfl rfl ?_) | apply kK) | apply kL | ((first | apply kM | apply kN); (iterate 3 (· exact rfl)); (· first | (show Y _ ⟨_, .indexAddr _ _ _, _, _, _, _⟩ _ _ _; first | exact Y.mk (ok_indexE (hda) rfl rfl rfl rfl rfl (by omega))) | exact ya)) | refine kO rfl rfl rfl rfl rfl ?_ | refine kP rfl rfl rfl ?_ | ((first | refine kQ rfl rfl ?_ ?_ | refine kR rfl rfl rfl rfl rfl ?_ ?_ | refine kS rfl rfl rfl ?_ ?_) <;> intro hc <;> (try simp only [KL, cond_true, cond_false, beq_iff_eq, bne_iff_ne, ne_eq, reduceCtorEq] at hc) <;> (try (have hT : True := hc; clear hT hc)) <;> (try (exfalso; omega))) | apply kT | apply kU | apply kV | apply kW | refine kX rfl ?_ | apply kY | apply kZ)
    all_goals first | (exfalso; omega) | skip
    refine ole (s' := [(3, .ptr 100 0), (34, .lst 2 (ds.map eDue)), (35, .int .i64 ds.length), (36, .int .i64 k), (41, .ptr 104 0), (42, .agg (eDue d))]) (h' := knX l l.length B S last now opn ++ [(100, .blk 87 [.lst 7 (l.map eTask), .lst 1 ((l.map Task.prio).map eI), .ptr 101 0, .ptr 104 0, .own 108, .int .i64 now, .bool opn]), (105, .row 71 8 (B.all.map eJob)), (106, .row 60 2 (B.overs.map eDue)), (102, mI B.now), (103, mI B.cnt), (101, .blk 127 [.lst 7 (l.map eTask), .own 105, .own 102, .own 103, .int .u64 B.act, .own 106]), (108, mI last), (104, .blk 129 [.int .i64 l.length, .own 107]), (107, agC xs)]) les (show LeH _ (knX l l.length B S last now opn ++ [(100, .blk 87 [.lst 7 (l.map eTask), .lst 1 ((l.map Task.prio).map eI), .ptr 101 0, .ptr 104 0, .own 108, .int .i64 now, .bool opn]), (105, .row 71 8 (B.all.map eJob)), (106, .row 60 2 (B.overs.map eDue)), (102, mI B.now), (103, mI B.cnt), (101, .blk 127 [.lst 7 (l.map eTask), .own 105, .own 102, .own 103, .int .u64 B.act, .own 106]), (108, mI last), (104, .blk 129 [.int .i64 l.length, .own 107]), (107, agC xs)]) from leh) ?_
    refine zcall (fun i => ρC5 i) (f1) rfl rfl leh (by kernel_rfl) (by kernel_rfl) (by kernel_rfl) (by kernel_rfl) rfl rfl (fun r h' hR => ?_)
    obtain ⟨rfl, rfl⟩ := hR
    refine ⟨rfl, rfl, ?_⟩
    refine ole (s' := [(3, .ptr 100 0), (34, .lst 2 (ds.map eDue)), (35, .int .i64 ds.length), (36, .int .i64 k)]) (h' := knX l l.length B S last now opn ++ [(100, .blk 87 [.lst 7 (l.map eTask), .lst 1 ((l.map Task.prio).map eI), .ptr 101 0, .ptr 104 0, .own 108, .int .i64 now, .bool opn]), (105, .row 71 8 (B.all.map eJob)), (106, .row 60 2 (B.overs.map eDue)), (102, mI B.now), (103, mI B.cnt), (101, .blk 127 [.lst 7 (l.map eTask), .own 105, .own 102, .own 103, .int .u64 B.act, .own 106]), (108, mI last), (104, .blk 129 [.int .i64 l.length, .own 107]), (107, agC (xs ++ [d]))]) les (show LeH _ (knX l l.length B S last now opn ++ [(100, .blk 87 [.lst 7 (l.map eTask), .lst 1 ((l.map Task.prio).map eI), .ptr 101 0, .ptr 104 0, .own 108, .int .i64 now, .bool opn]), (105, .row 71 8 (B.all.map eJob)), (106, .row 60 2 (B.overs.map eDue)), (102, mI B.now), (103, mI B.cnt), (101, .blk 127 [.lst 7 (l.map eTask), .own 105, .own 102, .own 103, .int .u64 B.act, .own 106]), (108, mI last), (104, .blk 129 [.int .i64 l.length, .own 107]), (107, agC (xs ++ [d]))]) from leh) ?_
    repeat' (first | (show W _ _ _ _ _ _; first | apply kA | refine kB rfl ?_ | refine kC rfl rfl ?_ | refine kD rfl rfl ?_ | apply kE | apply kF | apply kG | apply kH | refine kI (by kernel_rfl) (by kernel_rfl) ?_) | (show O _ _ _ _ _ _ _; first | (show O _ _ _ _ (⟨_, .store _ _ _, _, _, _, _⟩ :: _) _ _; refine kJ rfl rfl rfl rfl rfl rfl rfl rfl rfl rfl rfl ?_) | apply kK) | apply kL | ((first | apply kM | apply kN); (iterate 3 (· exact rfl)); (· first | exact ya)) | refine kO rfl rfl rfl rfl rfl ?_ | refine kP rfl rfl rfl ?_ | ((first | refine kQ rfl rfl ?_ ?_ | refine kR rfl rfl rfl rfl rfl ?_ ?_ | refine kS rfl rfl rfl ?_ ?_) <;> intro hc <;> (try simp only [KL, cond_true, cond_false, beq_iff_eq, bne_iff_ne, ne_eq, reduceCtorEq] at hc) <;> (try (have hT : True := hc; clear hT hc)) <;> (try (exfalso; omega))) | apply kT | apply kU | apply kV | apply kW | refine kX rfl ?_ | apply kY | apply kZ)
    exact ⟨k + 1, by omega, by omega, les, by simp only [hnx]; exact LeH.refl _⟩
  · subst hkk
    rw [List.take_length]
    repeat' (first | (show W _ _ _ _ _ _; first | apply kA | refine kB rfl ?_ | refine kC rfl rfl ?_ | refine kD rfl rfl ?_ | apply kE | apply kF | apply kG | apply kH | refine kI (by kernel_rfl) (by kernel_rfl) ?_) | (show O _ _ _ _ _ _ _; first | (show O _ _ _ _ (⟨_, .store _ _ _, _, _, _, _⟩ :: _) _ _; refine kJ rfl rfl rfl rfl rfl rfl rfl rfl rfl rfl rfl ?_) | apply kK) | apply kL | ((first | apply kM | apply kN); (iterate 3 (· exact rfl)); (· first | exact ya)) | refine kO rfl rfl rfl rfl rfl ?_ | refine kP rfl rfl rfl ?_ | ((first | refine kQ rfl rfl ?_ ?_ | refine kR rfl rfl rfl rfl rfl ?_ ?_ | refine kS rfl rfl rfl ?_ ?_) <;> intro hc <;> (try simp only [KL, cond_true, cond_false, beq_iff_eq, bne_iff_ne, ne_eq, reduceCtorEq] at hc) <;> (try (have hT : True := hc; clear hT hc)) <;> (try (exfalso; omega))) | apply kT | apply kU | apply kV | apply kW | refine kX rfl ?_ | apply kY | apply kZ)
    all_goals first | (exfalso; omega) | skip
    have hag : agC ds = agC S := agC_congr (by rw [hds]; exact sortD_perm S)
    rw [hag]
    exact retq rfl ⟨knH l l.length ⟨B, S, last, now, opn⟩ ++ knO l l.length ⟨B, S, last, now, opn⟩, (show LeH (knX l l.length B S last now opn ++ [(100, .blk 87 [.lst 7 (l.map eTask), .lst 1 ((l.map Task.prio).map eI), .ptr 101 0, .ptr 104 0, .own 108, .int .i64 now, .bool opn]), (105, .row 71 8 (B.all.map eJob)), (106, .row 60 2 (B.overs.map eDue)), (102, mI B.now), (103, mI B.cnt), (101, .blk 127 [.lst 7 (l.map eTask), .own 105, .own 102, .own 103, .int .u64 B.act, .own 106]), (108, mI last), (104, .blk 129 [.int .i64 l.length, .own 107]), (107, agC S)]) _ from leh), rfl, rfl⟩
end Go.Proofs.YtfjoaeghnfkdlaaGreatDoor
namespace Go.Proofs.YtfjoaeghnfkdlaaGreatDoor
set_option maxRecDepth 100000
set_option maxRecDepth 100000
open Go.RowKit
def lightB (l : List Task) (asks : List Due) (dm : List (List Int)) (ticks : Int) : Bool :=
  fewQ l 20 && decide (asks.length ≤ 200 ∧ dm.length ≤ 20 ∧ ¬ (1000 < ticks ∧ ticks ≤ 65536)) && dm.all fun x => decide (x.length ≤ 1000)
theorem all_takeL (p : List Int → Bool) (l : List (List Int)) (k : Nat) (h : k < l.length) (h1 : (l.take k).all p = true) (h2 : p (l.getD k default) = true) : (l.take (k + 1)).all p = true := by
  rw [List.take_succ_eq_append_getElem h, List.all_append, h1]
  have e : l.getD k default = l[k] := by simp [h]
  rw [e] at h2
  simp [h2]
theorem light29_fn (l : List Task) (asks : List Due) (dm : List (List Int)) (ticks : Int) : Fn Tryz.prog 23 [.agg [.lst 7 (l.map eTask), .lst 2 (asks.map eDue), .lst 1 (dm.map eLI), .int .i64 ticks]] (.bool (lightB l asks dm ticks)) := by
  refine fnb Tryz.func23 (entered_of (by kernel_rfl)) rfl rfl rfl ?_
  have c1 := few_fn l 20 (by omega)
  rw [lightB]
  generalize fewQ l 20 = few at *
  by_cases h0 : few = true ∧ asks.length ≤ 200 ∧ dm.length ≤ 20 ∧ ¬ (1000 < ticks ∧ ticks ≤ 65536)
  case neg =>
    have e : (few && decide (asks.length ≤ 200 ∧ dm.length ≤ 20 ∧ ¬ (1000 < ticks ∧ ticks ≤ 65536))) = false := by
      cases few
      · rfl
      · rw [decide_eq_false (fun h => h0 ⟨rfl, h⟩)]; rfl
    cases few
    · repeat' (first | refine sA ?_ | ((first | apply kM | apply kN); (iterate 3 (· exact rfl)); (· first | exact ya | exact q_c (c1) rfl)) | refine sG ?_ | (refine sK ?_ ?_ <;> intro hc <;> (try simp only [KL, sL, reduceCtorEq] at hc) <;> (try (have hT : True := hc; clear hT hc)) <;> (try (exfalso; omega))))
      all_goals first | (exfalso; omega) | exact retq rfl (by rw [e, Bool.false_and])
    · have h0 : ¬ (asks.length ≤ 200 ∧ dm.length ≤ 20 ∧ ¬ (1000 < ticks ∧ ticks ≤ 65536)) := fun h => h0 ⟨rfl, h⟩
      repeat' (first | refine sA ?_ | ((first | apply kM | apply kN); (iterate 3 (· exact rfl)); (· first | exact ya | exact q_c (c1) rfl)) | refine sG ?_ | (refine sK ?_ ?_ <;> intro hc <;> (try simp only [KL, sL, reduceCtorEq] at hc) <;> (try (have hT : True := hc; clear hT hc)) <;> (try (exfalso; omega))))
      all_goals first | (exfalso; omega) | exact retq rfl (by rw [e, Bool.false_and])
  obtain ⟨rfl, h1, h2, h3⟩ := h0
  rw [decide_eq_true ⟨h1, h2, h3⟩]
  repeat' (first | refine sA ?_ | ((first | apply kM | apply kN); (iterate 3 (· exact rfl)); (· first | exact ya | exact q_c (c1) rfl)) | refine sG ?_ | (refine sK ?_ ?_ <;> intro hc <;> (try simp only [KL, sL, reduceCtorEq] at hc) <;> (try (have hT : True := hc; clear hT hc)) <;> (try (exfalso; omega))))
  all_goals first | (exfalso; omega) | skip
  all_goals
  refine wloop (fun k : Nat => ([(32, .lst 1 (dm.map eLI)), (33, .int .i64 dm.length), (34, .int .i64 k)], [])) (fun k => k ≤ dm.length ∧ (dm.take k).all (fun x => decide (x.length ≤ 1000)) = true) (fun k => dm.length - k) 0 ⟨Nat.zero_le _, rfl⟩ les leh (fun k hk => ?_)
  all_goals
  obtain ⟨hk1, hk2⟩ := hk
  rcases Nat.lt_or_eq_of_le hk1 with hkl | hkl
  · obtain ⟨d, hd⟩ : ∃ d, dm.getD k default = d := ⟨_, rfl⟩
    by_cases hc0 : d.length ≤ 1000
    · have := all_takeL _ dm k hkl hk2 (by rw [hd]; exact decide_eq_true hc0)
      repeat' (first | refine sA ?_ | ((first | apply kM | apply kN); (iterate 3 (· exact rfl)); (· first | (show Y _ ⟨_, .indexAddr _ _ _, _, _, _, _⟩ _ _ _; first | exact Y.mk (ok_indexE (hd) rfl rfl rfl rfl rfl (by omega))) | exact ya)) | refine sG ?_ | (refine sK ?_ ?_ <;> intro hc <;> (try simp only [KL, sL, reduceCtorEq] at hc) <;> (try (have hT : True := hc; clear hT hc)) <;> (try (exfalso; omega))))
      all_goals first | (exfalso; omega) | exact ⟨k + 1, ⟨by omega, this⟩, by omega, les, leh⟩
    · have hf : dm.all (fun t => decide (t.length ≤ 1000)) = false := by
        rw [List.all_eq_false]
        refine ⟨d, by rw [← hd]; exact getD_mem hkl, by simpa using hc0⟩
      repeat' (first | refine sA ?_ | ((first | apply kM | apply kN); (iterate 3 (· exact rfl)); (· first | (show Y _ ⟨_, .indexAddr _ _ _, _, _, _, _⟩ _ _ _; first | exact Y.mk (ok_indexE (hd) rfl rfl rfl rfl rfl (by omega))) | exact ya)) | refine sG ?_ | (refine sK ?_ ?_ <;> intro hc <;> (try simp only [KL, sL, reduceCtorEq] at hc) <;> (try (have hT : True := hc; clear hT hc)) <;> (try (exfalso; omega))))
      all_goals first | (exfalso; omega) | exact retq rfl (by rw [hf]; rfl)
  · subst hkl
    rw [List.take_length] at *
    repeat' (first | refine sA ?_ | ((first | apply kM | apply kN); (iterate 3 (· exact rfl)); (· first | exact ya)) | refine sG ?_ | (refine sK ?_ ?_ <;> intro hc <;> (try simp only [KL, sL, reduceCtorEq] at hc) <;> (try (have hT : True := hc; clear hT hc)) <;> (try (exfalso; omega))))
    all_goals first | (exfalso; omega) | exact retq rfl (by rw [hk2]; rfl)
end Go.Proofs.YtfjoaeghnfkdlaaGreatDoor
namespace Go.Proofs.YtfjoaeghnfkdlaaGreatDoor
set_option maxRecDepth 100000
open Go.RowKit

def Elt (P : Program) (t e : TypeId) (k bytes : Nat) : Prop :=
  P.underlying t = some (.slice e) ∧ 0 < k ∧ ∃ i z, P.info? e = some i ∧ i.zero = some z ∧ z.cells.size = k ∧ i.size = k ∧ i.bytes = bytes
def Own {α : Type} (f : α → List Value) (k : Nat) (e : TypeId) (B : Nat) (w : World) (v : Value) (xs : List α) : Prop :=
  w.ownsRow B e k v xs.length (xs.flatMap f)
theorem Own.nil {α : Type} (f : α → List Value) (k : Nat) (e : TypeId) (B : Nat) (w : World) : Own f k e B w (.slice none 0 0) [] := World.ownsRow_nil w B e k
theorem Own.alloc {α : Type} {f : α → List Value} {k : Nat} {e : TypeId} {B : Nat} {w : World} {v : Value} {xs : List α} (h : Own f k e B w v xs) (o : Obj) : Own f k e B (w.alloc o) v xs := World.ownsRow.alloc h o
theorem Own.below {α : Type} {f : α → List Value} {k : Nat} {e : TypeId} {B : Nat} {w w' : World} {v : Value} {xs : List α} (h : Own f k e B w v xs) (hb : Below w.heap.size w w') : Own f k e B w' v xs := by
  obtain ⟨h1, h2⟩ := h
  refine ⟨h1, ?_⟩
  rcases h2 with h2 | ⟨g, cap, cur, hv, hg, hh, r⟩
  · exact .inl h2
  · exact .inr ⟨g, cap, cur, hv, hg, (hb.block g (Array.getElem?_eq_some_iff.1 hh).1).trans hh, r⟩
theorem Own.base {α : Type} {f : α → List Value} {k : Nat} {e : TypeId} {B B' : Nat} {w : World} {v : Value} {xs : List α} (h : Own f k e B w v xs) (hB : B' ≤ B) : Own f k e B' w v xs := by
  obtain ⟨h1, h2⟩ := h
  refine ⟨h1, ?_⟩
  rcases h2 with h2 | ⟨g, cap, cur, hv, hg, r⟩
  · exact .inl h2
  · exact .inr ⟨g, cap, cur, hv, Nat.le_trans hB hg, r⟩
theorem flat_get {α : Type} {f : α → List Value} {k : Nat} (hf : ∀ y, (f y).length = k) : ∀ (xs : List α) (i j : Nat) (x : α) (u : Value), xs[i]? = some x → (f x)[j]? = some u → (xs.flatMap f)[i * k + j]? = some u
  | [], i, j, x, u, h, _ => by simp at h
  | y :: ys, 0, j, x, u, h, hu => by
    simp at h; subst h
    have hj : j < (f y).length := (List.getElem?_eq_some_iff.1 hu).1
    rw [List.flatMap_cons, List.getElem?_append_left (by simpa using hj)]; simpa using hu
  | y :: ys, i + 1, j, x, u, h, hu => by
    have ih := flat_get hf ys i j x u (by simpa using h) hu
    rw [List.flatMap_cons, List.getElem?_append_right (by rw [hf, Nat.add_mul]; omega), hf, Nat.add_mul]
    rwa [show i * k + 1 * k + j - k = i * k + j by omega]
theorem Own.row {α : Type} {f : α → List Value} {k : Nat} {e : TypeId} {B : Nat} {w : World} {v : Value} {xs : List α} {R : Cod α} (h : Own f k e B w v xs) (hf : ∀ y, (f y).length = k) (hR : ∀ x ∈ xs, R w (f x) x) :
    ∃ A c, v = .slice A xs.length c ∧ xs.length ≤ c ∧ c ≤ maxLen ∧ Row R k w A xs := by
  rcases h.2 with ⟨rfl, h0⟩ | ⟨g, cap, cur, rfl, _, _, hn, hm, _⟩
  · obtain rfl : xs = [] := List.eq_nil_of_length_eq_zero h0
    exact ⟨none, 0, rfl, by simp, by simp, Row.nil _ _ _ _⟩
  · refine ⟨some ⟨g, 0, none⟩, cap, rfl, hn, hm, fun _ => ⟨g, 0, rfl, fun i x hx => ⟨f x, hR x (List.mem_of_getElem? hx), hf x, fun j u hu => ?_⟩⟩⟩
    have := World.ownsRow.cells h (g := g) rfl (i * k + j) u (flat_get hf xs i j x u hx hu)
    rwa [Go.WideShapes.add_plain, ← Nat.add_assoc] at this

def AtB (w : World) (b : Nat) (cs : List Value) : Prop := ∀ i u, cs[i]? = some u → w.cell? ⟨b, i, none⟩ = some u
theorem AtB.ext {w w' : World} {b : Nat} {cs : List Value} (h : AtB w b cs) (he : Ext w w') : AtB w' b cs := fun i u hu => he _ _ (h i u hu)
theorem AtB.new (w : World) (cs : List Value) (e : TypeId) : AtB (w.alloc (.cells cs.toArray e)) w.heap.size cs := fun i u hu => by
  rw [World.cell?_alloc_at _ _ _ _ rfl]; simpa using hu
theorem Ext.alloc (w : World) (o : Obj) : Ext w (w.alloc o) := Ext.below ((Below.refl _ _).alloc (Nat.le_refl _) _)
theorem Own.at_ {α : Type} {f : α → List Value} {k : Nat} {e : TypeId} {B : Nat} {w : World} {A : Option Addr} {n c : Nat} {xs : List α} (h : Own f k e B w (.slice A n c) xs) (hp : 0 < xs.length) :
    ∃ g, A = some ⟨g, 0, none⟩ ∧ n = xs.length ∧ B ≤ g ∧ g < w.heap.size ∧ ∀ o, w.frozen? ⟨g, o, none⟩ = false := by
  rcases h.2 with ⟨_, h0⟩ | ⟨g, cap, cur, hv, hb, hh, _⟩
  · omega
  · injection hv with h1 h2 h3
    exact ⟨g, h1, h2, hb, (Array.getElem?_eq_some_iff.1 hh).1, fun o => by simp [World.frozen?, hh]⟩
theorem flat_set {α : Type} {f : α → List Value} {k : Nat} (hf : ∀ y, (f y).length = k) : ∀ (xs : List α) (i j : Nat) (x' : α) (u : Value) (hi : i < xs.length), j < k → f x' = (f xs[i]).set j u → (xs.set i x').flatMap f = (xs.flatMap f).set (i * k + j) u
  | [], i, j, x', u, hi, _, _ => by simp at hi
  | y :: ys, 0, j, x', u, _, hj, h => by
    simp only [List.getElem_cons_zero] at h
    rw [List.set_cons_zero, List.flatMap_cons, List.flatMap_cons, h, Nat.zero_mul, Nat.zero_add, List.set_append_left _ _ (by rw [hf]; exact hj)]
  | y :: ys, i + 1, j, x', u, hi, hj, h => by
    simp only [List.getElem_cons_succ] at h
    have ih := flat_set hf ys i j x' u (by simpa using hi) hj h
    rw [List.set_cons_succ, List.flatMap_cons, List.flatMap_cons, ih, List.set_append_right _ _ (by rw [hf, Nat.add_mul]; omega), hf]
    congr 2
    rw [Nat.add_mul]; omega
theorem Own.store {α : Type} {f : α → List Value} {k : Nat} {e : TypeId} {B : Nat} {w : World} {g n c : Nat} {xs : List α} (h : Own f k e B w (.slice (some ⟨g, 0, none⟩) n c) xs) (hf : ∀ y, (f y).length = k)
    {i j : Nat} (hi : i < xs.length) (hj : j < k) {x' : α} {u : Value} (hx : f x' = (f xs[i]).set j u) : Own f k e B (w.setCell ⟨g, i * k + j, none⟩ u) (.slice (some ⟨g, 0, none⟩) n c) (xs.set i x') := by
  unfold Own at h ⊢
  rw [flat_set hf xs i j x' u hi hj hx, List.length_set]
  refine ⟨by rw [List.length_set]; exact h.1, ?_⟩
  rcases h.2 with ⟨h0, _⟩ | ⟨g', cap, cur, hv, hb, hh, hn, hm, hcs, ht⟩
  · injection h0 with h0; cases h0
  · injection hv with h1 h2 h3
    injection h1 with h1
    injection h1 with h1
    subst h1
    refine .inr ⟨g, cap, cur.setIfInBounds (i * k + j) u, by rw [h2, h3], hb, by simp [World.setCell, Array.getElem?_modify, hh], hn, hm, by simpa using hcs, ?_⟩
    rw [Array.toList_setIfInBounds, List.take_set, ht]
section
variable {P : Program} {α : Type} {f : α → List Value} {k : Nat}
end
end Go.Proofs.YtfjoaeghnfkdlaaGreatDoor
namespace Go.Proofs.YtfjoaeghnfkdlaaGreatDoor
set_option maxRecDepth 100000
open Go.RowKit

end Go.Proofs.YtfjoaeghnfkdlaaGreatDoor
