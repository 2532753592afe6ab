/- The document's book of jobs: a step, an end, who is late. No condition. -/
import Derived.Test.YtfjoaeghnfkdlaaA16
import Derived.Test.YtfjoaeghnfkdlaaA11
import Derived.Test.YtfjoaeghnfkdlaaA14
import Derived.Test.YtfjoaeghnfkdlaaA7
set_option linter.unusedSimpArgs false
set_option linter.unusedVariables false
set_option maxHeartbeats 1000000
namespace Go.Proofs.Ytfjoaeghnfkdlaa
set_option maxRecDepth 100000
set_option maxRecDepth 100000
open Go.RowKit
abbrev rbA (B : Bk) : Nat × Chunk := (5, .row 74 8 (B.all.map eJob))
abbrev rbY (l : List Task) (js : List Job) (os : List Due) : Heap :=
  [(5, .row 74 8 (js.map eJob)), (0, .blk 84 [.lst 7 (l.map eTask), .own 5, .own 6]), (6, .row 41 2 (os.map eDue))]
set_option maxHeartbeats 4000000 in
theorem rstepJ_fn (l l' : List Task) (B : Bk) (n : Nat) (h : GoodB l' n B) (hn : n ≤ 100000) (i t : Int) : FnH Try.prog 63 [.ptr 0 0, .int .i64 i, .int .i64 t] (rbH l B.all B.overs)
    (fun r h' => r = .bool (hasN B.act i) ∧ h' = rbH l (stepBk B i t).all (stepBk B i t).overs) := by
  refine FnH.drop' (fnhb Try.func63 (entered_of (by kernel_rfl)) rfl rfl ?_)
  have halen := h.alen
  have c1 := rinT_fn t
  have c2 := ractive_fn l B.all B.overs (by omega) i
  rw [actI_good h i] at c2
  cases hh : hasN B.act i
  case false =>
    have e2 : stepBk B i t = B := by rw [stepBk, if_neg (by rw [hh]; exact Bool.false_ne_true)]
    rw [e2]
    rw [hh, if_neg (by decide)] at c2
    repeat' (first | refine sA ?_ | ((first | apply kM | apply kN); (iterate 3 (· exact rfl)); (· first | exact ya)) | refine sG ?_ | (refine sK ?_ ?_ <;> intro hc <;> (try simp only [KL, sL, reduceCtorEq] at hc) <;> (try (have hT : True := hc; clear hT hc)) <;> (try (exfalso; omega))))
    refine zcall (fun i => ρr i) (c2) rfl rfl leh rfl rfl rfl rfl rfl rfl (fun r h' hR => ?_)
    obtain ⟨rfl, rfl⟩ := hR
    refine ⟨rfl, rfl, ?_⟩
    repeat' (first | refine sA ?_ | ((first | apply kM | apply kN); (iterate 3 (· exact rfl)); (· first | exact ya)) | refine sG ?_ | (refine sK ?_ ?_ <;> intro hc <;> (try simp only [KL, sL, reduceCtorEq] at hc) <;> (try (have hT : True := hc; clear hT hc)) <;> (try (exfalso; omega))))
    all_goals first | (exfalso; omega) | exact retq rfl ⟨rbH l B.all B.overs, leh, rfl, rfl⟩
  obtain ⟨p1, p2, p3, p4⟩ := h.pos hh
  have hst := h.st _ p2
  have e2 : stepBk B i t = { B with all := B.all.set (posB B i) (stepJb t (B.all.getD (posB B i) default)) } := by rw [stepBk, if_pos hh]; rfl
  rw [e2]
  rw [hh, if_pos rfl] at c2
  simp only
  generalize posB B i = p at *
  repeat' (first | refine sA ?_ | ((first | apply kM | apply kN); (iterate 3 (· exact rfl)); (· first | exact ya)) | refine sG ?_ | (refine sK ?_ ?_ <;> intro hc <;> (try simp only [KL, sL, reduceCtorEq] at hc) <;> (try (have hT : True := hc; clear hT hc)) <;> (try (exfalso; omega))))
  refine zcall (fun i => ρr i) (c2) rfl rfl leh rfl rfl rfl rfl rfl rfl (fun r h' hR => ?_)
  obtain ⟨rfl, rfl⟩ := hR
  refine ⟨rfl, rfl, ?_⟩
  refine ole (s' := [(0, .ptr 0 0), (2, .int .i64 t), (10, .int .i64 p)]) (h' := rbY l B.all B.overs) les leh ?_
  by_cases hz : (B.all.getD p default).steps = 0
  · have hs1 : (B.all.set p { B.all.getD p default with start := inT t }).getD p default = { B.all.getD p default with start := inT t } := by rw [getD_set p p2, if_pos rfl]
    have hln : (B.all.set p { B.all.getD p default with start := inT t }).length = B.all.length := List.length_set
    have e3 : ((B.all.set p { B.all.getD p default with start := inT t }).set p { (B.all.set p { B.all.getD p default with start := inT t }).getD p default with steps := (B.all.getD p default).steps + 1 }) = B.all.set p (stepJb t (B.all.getD p default)) := by rw [List.set_set, hs1, stepJb, if_pos hz]
    repeat' (first | refine sB ?_ | ((first | apply kM | apply kN); (iterate 3 (· exact rfl)); (· first | (show Y _ ⟨_, .indexAddr _ _ _, _, _, _, _⟩ _ _ _; first | exact q_ioE (p) rfl rfl rfl rfl rfl rfl (by omega) (by omega)) | exact ya | exact q_c (c1) rfl)) | refine sG ?_ | (refine sK ?_ ?_ <;> intro hc <;> (try simp only [KL, sL, reduceCtorEq] at hc) <;> (try (have hT : True := hc; clear hT hc)) <;> (try (exfalso; omega))))
    all_goals first | (exfalso; omega) | skip
    refine wle (s' := [(0, .ptr 0 0), (2, .int .i64 t), (7, .int .i64 p)]) (h' := rbY l B.all B.overs) les leh ?_
    repeat' (first | (show W _ _ _ _ _ _; first | refine wdrawS rfl (by kernel_rfl) (by kernel_rfl) (by kernel_rfl) ?_ | apply kA | refine kB rfl ?_ | refine kC rfl rfl ?_ | refine kD rfl rfl ?_ | apply kE | apply kF | apply kG | apply kH | refine kI (by kernel_rfl) (by kernel_rfl) ?_) | (show O _ _ _ _ _ _ _; first | (show O _ _ _ _ (⟨_, .store _ _ _, _, _, _, _⟩ :: _) _ _; refine kJ rfl rfl rfl rfl rfl rfl rfl rfl rfl rfl rfl ?_) | apply kK) | apply kL | ((first | apply kM | apply kN); (iterate 3 (· exact rfl)); (· first | (show Y _ ⟨_, .indexAddr _ _ _, _, _, _, _⟩ _ _ _; first | exact q_ioE (p) rfl rfl rfl rfl rfl rfl (by omega) (by omega)) | (show Y _ ⟨_, .load _ _, _, _, _, _⟩ _ _ _; first | exact q_pE' hs1) | (show Y _ ⟨_, .call ⟨.value _, _, _⟩, _, _, _, _⟩ _ _ _; first | exact q_c (c1) rfl) | exact ya)) | (show F _ _ _ _ _ _ _ _ _ _ _; first | refine fnil ?_ | (apply f_ld; (· exact rfl); (· exact rfl); (· first | exact q_pE' hs1 | exact yp)) | refine f_se (x' := { B.all.getD p default with start := inT t }) rfl rfl rfl rfl rfl rfl rfl rfl rfl (by (first | rfl | omega | (simp only [List.length_set]; omega) | simp only [List.length_set])) (by (first | rfl | omega | (simp only [List.length_set]; omega) | simp only [List.length_set])) ?_ | (apply f_k; (· exact rfl); (· intro y' hy'; first | (show Y _ ⟨_, .indexAddr _ _ _, _, _, _, _⟩ _ _ _; first | exact q_ioE (p) rfl rfl rfl rfl rfl rfl (by omega) (by omega)) | (show Y _ ⟨_, .load _ _, _, _, _, _⟩ _ _ _; first | exact q_pE' hs1) | (show Y _ ⟨_, .call ⟨.value _, _, _⟩, _, _, _, _⟩ _ _ _; first | exact q_c (c1) rfl) | exact ya))) | refine kO rfl rfl rfl rfl rfl ?_ | refine kP rfl rfl rfl ?_ | ((first | refine kQ rfl rfl ?_ ?_ | refine kR rfl rfl rfl rfl rfl ?_ ?_ | refine kS rfl rfl rfl ?_ ?_) <;> intro hc <;> (try simp only [KL, cond_true, cond_false, beq_iff_eq, bne_iff_ne, ne_eq, reduceCtorEq] at hc) <;> (try (have hT : True := hc; clear hT hc)) <;> (try (exfalso; omega))) | apply kT | apply kU | apply kV | apply kW | refine kX rfl ?_ | apply kY | apply kZ)
    (refine ao_se (x' := { (B.all.set p { B.all.getD p default with start := inT t }).getD p default with steps := (B.all.getD p default).steps + 1 }) rfl rfl rfl rfl rfl rfl rfl rfl rfl ?_ rfl rfl rfl ?_; (· (first | omega | ((try simp only [List.length_set, List.length_cons, List.length_nil, List.length_append, List.length_map]) <;> omega))))
    repeat' (first | refine sA ?_ | ((first | apply kM | apply kN); (iterate 3 (· exact rfl)); (· first | exact ya)) | refine sG ?_ | (refine sK ?_ ?_ <;> intro hc <;> (try simp only [KL, sL, reduceCtorEq] at hc) <;> (try (have hT : True := hc; clear hT hc)) <;> (try (exfalso; omega))))
    rw [e3]
    exact retq rfl ⟨rbH l (B.all.set p (stepJb t (B.all.getD p default))) B.overs, leh, rfl, rfl⟩
  · have e3 : B.all.set p { B.all.getD p default with steps := (B.all.getD p default).steps + 1 } = B.all.set p (stepJb t (B.all.getD p default)) := by rw [stepJb, if_neg hz]
    repeat' (first | refine sA ?_ | ((first | apply kM | apply kN); (iterate 3 (· exact rfl)); (· first | (show Y _ ⟨_, .indexAddr _ _ _, _, _, _, _⟩ _ _ _; first | exact q_ioE (p) rfl rfl rfl rfl rfl rfl (by omega) (by omega)) | exact ya)) | refine sG ?_ | (refine sK ?_ ?_ <;> intro hc <;> (try simp only [KL, sL, reduceCtorEq] at hc) <;> (try (have hT : True := hc; clear hT hc)) <;> (try (exfalso; omega))))
    all_goals first | (exfalso; omega) | skip
    (refine ao_se (x' := { B.all.getD p default with steps := (B.all.getD p default).steps + 1 }) rfl rfl rfl rfl rfl rfl rfl rfl rfl ?_ rfl rfl rfl ?_; (· (first | omega | ((try simp only [List.length_set, List.length_cons, List.length_nil, List.length_append, List.length_map]) <;> omega))))
    repeat' (first | refine sA ?_ | ((first | apply kM | apply kN); (iterate 3 (· exact rfl)); (· first | exact ya)) | refine sG ?_ | (refine sK ?_ ?_ <;> intro hc <;> (try simp only [KL, sL, reduceCtorEq] at hc) <;> (try (have hT : True := hc; clear hT hc)) <;> (try (exfalso; omega))))
    rw [e3]
    exact retq rfl ⟨rbH l (B.all.set p (stepJb t (B.all.getD p default))) B.overs, leh, rfl, rfl⟩
set_option maxHeartbeats 4000000 in
theorem rendJ_fn (l l' : List Task) (B : Bk) (n : Nat) (h : GoodB l' n B) (hn : n ≤ 100000) (i t : Int) : FnH Try.prog 65 [.ptr 0 0, .int .i64 i, .int .i64 t] (rbH l B.all B.overs)
    (fun r h' => r = .tup [.agg (eJob (if hasN B.act i then endJb t (jobAt B i) else default)), .bool (hasN B.act i)] ∧ h' = rbH l (endBk B i t).all (endBk B i t).overs) := by
  refine FnH.drop' (fnhb Try.func65 (entered_of (by kernel_rfl)) rfl rfl ?_)
  have halen := h.alen
  have c1 := rinT_fn t
  have hi := inT_le t
  have c2 := ractive_fn l B.all B.overs (by omega) i
  rw [actI_good h i] at c2
  cases hh : hasN B.act i
  case false =>
    have e2 : endBk B i t = B := by rw [endBk, if_neg (by rw [hh]; exact Bool.false_ne_true)]
    rw [e2]
    rw [hh, if_neg (by decide)] at c2
    repeat' (first | refine sA ?_ | (show O _ _ _ _ _ _ _; first | refine ao_alloc (id := 12) rfl rfl rfl rfl rfl rfl rfl ?_) | ((first | apply kM | apply kN); (iterate 3 (· exact rfl)); (· first | exact ya)) | refine sG ?_ | (refine sK ?_ ?_ <;> intro hc <;> (try simp only [KL, sL, reduceCtorEq] at hc) <;> (try (have hT : True := hc; clear hT hc)) <;> (try (exfalso; omega))))
    refine zcall (fun i => ρr i) (c2) rfl rfl leh rfl rfl rfl rfl rfl rfl (fun r h' hR => ?_)
    obtain ⟨rfl, rfl⟩ := hR
    refine ⟨rfl, rfl, ?_⟩
    repeat' (first | refine sA ?_ | ((first | apply kM | apply kN); (iterate 3 (· exact rfl)); (· first | exact ya)) | refine sG ?_ | (refine sK ?_ ?_ <;> intro hc <;> (try simp only [KL, sL, reduceCtorEq] at hc) <;> (try (have hT : True := hc; clear hT hc)) <;> (try (exfalso; omega))))
    all_goals first | (exfalso; omega) | exact retq rfl ⟨rbH l B.all B.overs, leh, rfl, rfl⟩
  obtain ⟨p1, p2, p3, p4⟩ := h.pos hh
  have e2 : endBk B i t = { setJ B i (endJb t (jobAt B i)) with act := dropN B.act i, now := delM B.now i } := by rw [endBk, if_pos hh]
  rw [e2]
  rw [hh, if_pos rfl] at c2
  simp only [setJ, jobAt, if_pos]
  generalize posB B i = p at *
  have hs1 : (B.all.set p (endJb t (B.all.getD p default))).getD p default = endJb t (B.all.getD p default) := by rw [getD_set p p2, if_pos rfl]
  have hln : (B.all.set p (endJb t (B.all.getD p default))).length = B.all.length := List.length_set
  repeat' (first | refine sA ?_ | (show O _ _ _ _ _ _ _; first | refine ao_alloc (id := 12) rfl rfl rfl rfl rfl rfl rfl ?_) | ((first | apply kM | apply kN); (iterate 3 (· exact rfl)); (· first | exact ya)) | refine sG ?_ | (refine sK ?_ ?_ <;> intro hc <;> (try simp only [KL, sL, reduceCtorEq] at hc) <;> (try (have hT : True := hc; clear hT hc)) <;> (try (exfalso; omega))))
  refine zcall (fun i => ρr i) (c2) rfl rfl leh rfl rfl rfl rfl rfl rfl (fun r h' hR => ?_)
  obtain ⟨rfl, rfl⟩ := hR
  refine ⟨rfl, rfl, ?_⟩
  refine ole (s' := [(0, .ptr 0 0), (2, .int .i64 t), (6, .ptr 12 0), (11, .int .i64 p)]) (h' := (5, .row 74 8 (B.all.map eJob)) :: (12, .blk 74 (eJob default)) :: rbY l B.all B.overs) les leh ?_
  repeat' (first | refine sB ?_ | ((first | apply kM | apply kN); (iterate 3 (· exact rfl)); (· first | (show Y _ ⟨_, .indexAddr _ _ _, _, _, _, _⟩ _ _ _; first | exact q_ioE (p) rfl rfl rfl rfl rfl rfl (by omega) (by omega)) | exact ya | exact q_c (c1) rfl)) | refine sG ?_ | (refine sK ?_ ?_ <;> intro hc <;> (try simp only [KL, sL, reduceCtorEq] at hc) <;> (try (have hT : True := hc; clear hT hc)) <;> (try (exfalso; omega))))
  all_goals first | (exfalso; omega) | skip
  refine wle (h' := (5, .row 74 8 (B.all.map eJob)) :: (12, .blk 74 (eJob default)) :: rbY l B.all B.overs) (LeS.refl _) leh ?_
  repeat' (first | (show W _ _ _ _ _ _; first | refine wdrawS rfl (by kernel_rfl) (by kernel_rfl) (by kernel_rfl) ?_ | apply kA | refine kB rfl ?_ | refine kC rfl rfl ?_ | refine kD rfl rfl ?_ | apply kE | apply kF | apply kG | apply kH | refine kI (by kernel_rfl) (by kernel_rfl) ?_) | (show O _ _ _ _ _ _ _; first | (show O _ _ _ _ (⟨_, .store _ _ _, _, _, _, _⟩ :: _) _ _; refine kJ rfl rfl rfl rfl rfl rfl rfl rfl rfl rfl rfl ?_) | apply kK) | apply kL | ((first | apply kM | apply kN); (iterate 3 (· exact rfl)); (· first | (show Y _ ⟨_, .indexAddr _ _ _, _, _, _, _⟩ _ _ _; first | exact q_ioE (p) rfl rfl rfl rfl rfl rfl (by omega) (by omega)) | (show Y _ ⟨_, .load _ _, _, _, _, _⟩ _ _ _; first | exact q_pE' hs1) | (show Y _ ⟨_, .call ⟨.value _, _, _⟩, _, _, _, _⟩ _ _ _; first | exact q_c (c1) rfl) | exact ya)) | (show F _ _ _ _ _ _ _ _ _ _ _; first | refine fnil ?_ | (apply f_ld; (· exact rfl); (· exact rfl); (· first | exact q_pE' hs1 | exact yp)) | refine f_se (x' := endJb t (B.all.getD p default)) rfl rfl rfl rfl rfl rfl rfl rfl rfl (by (first | rfl | omega | (simp only [List.length_set]; omega) | simp only [List.length_set])) (by (first | rfl | omega | (simp only [List.length_set]; omega) | simp only [List.length_set])) ?_ | (apply f_k; (· exact rfl); (· intro y' hy'; first | (show Y _ ⟨_, .indexAddr _ _ _, _, _, _, _⟩ _ _ _; first | exact q_ioE (p) rfl rfl rfl rfl rfl rfl (by omega) (by omega)) | (show Y _ ⟨_, .load _ _, _, _, _, _⟩ _ _ _; first | exact q_pE' hs1) | (show Y _ ⟨_, .call ⟨.value _, _, _⟩, _, _, _, _⟩ _ _ _; first | exact q_c (c1) rfl) | exact ya))) | refine kO rfl rfl rfl rfl rfl ?_ | refine kP rfl rfl rfl ?_ | ((first | refine kQ rfl rfl ?_ ?_ | refine kR rfl rfl rfl rfl rfl ?_ ?_ | refine kS rfl rfl rfl ?_ ?_) <;> intro hc <;> (try simp only [KL, cond_true, cond_false, beq_iff_eq, bne_iff_ne, ne_eq, reduceCtorEq] at hc) <;> (try (have hT : True := hc; clear hT hc)) <;> (try (exfalso; omega))) | apply kT | apply kU | apply kV | apply kW | refine kX rfl ?_ | apply kY | apply kZ)
  all_goals exact retq rfl ⟨rbH l (B.all.set p (endJb t (B.all.getD p default))) B.overs, leh, rfl, rfl⟩
def lateS (t : Int) (p : List Int × Bk) (i : Int) : List Int × Bk := if lateQ t (jobAt p.2 i) then (p.1 ++ [i], setJ p.2 i (missJb (jobAt p.2 i))) else p
def lateT (B : Bk) (t : Int) (k : Nat) : List Int × Bk := (bitsTo B.act k).foldl (lateS t) ([], B)
structure LateI (l : List Task) (n : Nat) (B : Bk) (k : Nat) (p : List Int × Bk) : Prop where
  good : GoodB l n p.2
  act : p.2.act = B.act
  len : p.1.length ≤ k
  overs : p.2.overs = B.overs
end Go.Proofs.Ytfjoaeghnfkdlaa
namespace Go.Proofs.Ytfjoaeghnfkdlaa
set_option maxRecDepth 100000
open Go.RowKit
def plainB (t : Task) : Bool := decide ((t.kind = 1 ∨ t.kind = 2 ∧ t.offset = 0) ∧ (0 ≤ t.prio ∧ t.prio ≤ 255) ∧ (1 ≤ t.period ∧ t.period ≤ 1048576) ∧ (0 ≤ t.offset ∧ t.offset ≤ 1048576) ∧ (1 ≤ t.deadline ∧ t.deadline ≤ t.period) ∧ (1 ≤ t.own ∧ t.own ≤ 64))
end Go.Proofs.Ytfjoaeghnfkdlaa
namespace Go.Proofs.Ytfjoaeghnfkdlaa
set_option maxRecDepth 100000
open Go.RowKit
def ceilZ (a b : Int) : Int := if a < 1 ∨ b < 1 then 0 else (a - 1) / b + 1
def nextZ (t : Task) (frm : Int) : Int :=
  if plainB t = true ∧ t.kind = 1 ∧ frm ≤ 1099511627776 then (let at_ := if frm ≤ t.offset then t.offset else t.offset + ceilZ (frm - t.offset) t.period * t.period; if at_ > 1099511627776 then -1 else at_) else -1
end Go.Proofs.Ytfjoaeghnfkdlaa
namespace Go.Proofs.Ytfjoaeghnfkdlaa
set_option maxRecDepth 100000
open Go.RowKit
def okF (period : Int) (lt : List Int) (x : Int) : Bool := decide (0 ≤ x ∧ 1 ≤ period) && (match lt.getLast? with | none => true | some l => decide (l ≤ x ∧ period ≤ x - l))
def stepF (period : Int) (st : List Int × List Int) (x : Int) : List Int × List Int := if okF period st.1 x then (st.1 ++ [x], st.2) else (st.1, st.2 ++ [x])
def filtF (period : Int) (asks : List Int) : List Int × List Int := asks.foldl (stepF period) ([], [])
def apartL (period : Int) : List Int → Prop
  | [] => True
  | [x] => 0 ≤ x
  | x :: y :: r => 0 ≤ x ∧ x ≤ y ∧ period ≤ y - x ∧ apartL period (y :: r)
def lastF (lt : List Int) : Int := (lt.getLast?).getD 0
def passB (period last : Int) (op : Bool) (x : Int) : Bool := decide (0 ≤ x ∧ 1 ≤ period) && (!op || decide (last ≤ x ∧ period ≤ x - last))
end Go.Proofs.Ytfjoaeghnfkdlaa
namespace Go.Proofs.Ytfjoaeghnfkdlaa
set_option maxRecDepth 100000
open Go.RowKit
end Go.Proofs.Ytfjoaeghnfkdlaa
namespace Go.Proofs.Ytfjoaeghnfkdlaa
set_option maxRecDepth 100000
set_option maxRecDepth 100000
open Go.RowKit
def ltcDue (c : Due → Due → Int) (x y : Due) : Bool := decide (c x y < 0)
theorem swr_Due (fc : FuncId) (pp xx zz yy ss : List Due) (a b n : Int) (ha : a = pp.length) (hb : b = pp.length + xx.length + zz.length) (hn : n = xx.length) (hXY : yy.length = xx.length) (hl : pp.length + xx.length + zz.length + yy.length + ss.length ≤ 1000000000000) :
    FnH Try.prog 136 [.own 4, .int .i64 a, .int .i64 b, .int .i64 n, .fn (.func fc) [] []] [(4, .row 41 2 ((pp ++ xx ++ zz ++ yy ++ ss).map eDue))]
    (fun r h' => r = .tup [] ∧ h' = [(4, .row 41 2 ((pp ++ yy ++ zz ++ xx ++ ss).map eDue))]) := by
  refine fnhb Try.func136 (entered_of (by kernel_rfl)) rfl rfl ?_
  subst ha hb hn
  repeat' (first | refine sA ?_ | ((first | apply kM | apply kN); (iterate 3 (· exact rfl)); (· first | exact ya)) | refine sG ?_ | (refine sK ?_ ?_ <;> intro hc <;> (try simp only [KL, sL, reduceCtorEq] at hc) <;> (try (have hT : True := hc; clear hT hc)) <;> (try (exfalso; omega))))
  refine wloop (fun k : Nat => ([(0, .own 4), (1, .int .i64 pp.length), (2, .int .i64 (pp.length + xx.length + zz.length)), (3, .int .i64 xx.length), (10, .int .i64 k)], [(4, .row 41 2 ((swM pp xx zz yy ss k).map eDue))])) (fun k => k ≤ xx.length) (fun k => xx.length - k) 0 (Nat.zero_le _) les (by rw [swM_0]; exact leh) (fun k hk => ?_)
  have hlen := swM_len (P := pp) (Z := zz) (S := ss) (k := k) hXY
  repeat' (first | (show W _ _ _ _ _ _; first | refine wdrawS rfl (by kernel_rfl) (by kernel_rfl) (by kernel_rfl) ?_ | apply kA | refine kB rfl ?_ | refine kC rfl rfl ?_ | refine kD rfl rfl ?_ | apply kE | apply kF | apply kG | apply kH | refine kI (by kernel_rfl) (by kernel_rfl) ?_) | (show O _ _ _ _ _ _ _; first | (show O _ _ _ _ (⟨_, .store _ _ _, _, _, _, _⟩ :: _) _ _; refine kJ rfl rfl rfl rfl rfl rfl rfl rfl rfl rfl rfl ?_) | apply kK) | apply kL | ((first | apply kM | apply kN); (iterate 3 (· exact rfl)); (· first | (show Y _ ⟨_, .indexAddr _ _ _, _, _, _, _⟩ _ _ _; first | exact q_ioE (pp.length + k) rfl rfl rfl rfl rfl rfl (by omega) (by omega) | exact q_ioE (pp.length + xx.length + zz.length + k) rfl rfl rfl rfl rfl rfl (by omega) (by omega)) | exact ya)) | (show F _ _ _ _ _ _ _ _ _ _ _; first | refine fnil ?_ | (apply f_ld; (· exact rfl); (· exact rfl); (· first | exact yp)) | refine f_se (x' := (swM pp xx zz yy ss k).getD (pp.length + xx.length + zz.length + k) default) rfl rfl rfl rfl rfl rfl rfl rfl rfl (by (first | rfl | omega | (simp only [List.length_set]; omega) | simp only [List.length_set])) (by (first | rfl | omega | (simp only [List.length_set]; omega) | simp only [List.length_set])) ?_ | refine f_se (x' := (swM pp xx zz yy ss k).getD (pp.length + k) default) rfl rfl rfl rfl rfl rfl rfl rfl rfl (by (first | rfl | omega | (simp only [List.length_set]; omega) | simp only [List.length_set])) (by (first | rfl | omega | (simp only [List.length_set]; omega) | simp only [List.length_set])) ?_ | (apply f_k; (· exact rfl); (· intro y' hy'; first | (show Y _ ⟨_, .indexAddr _ _ _, _, _, _, _⟩ _ _ _; first | exact q_ioE (pp.length + k) rfl rfl rfl rfl rfl rfl (by omega) (by omega) | exact q_ioE (pp.length + xx.length + zz.length + k) rfl rfl rfl rfl rfl rfl (by omega) (by omega)) | exact ya))) | refine kO rfl rfl rfl rfl rfl ?_ | refine kP rfl rfl rfl ?_ | ((first | refine kQ rfl rfl ?_ ?_ | refine kR rfl rfl rfl rfl rfl ?_ ?_ | refine kS rfl rfl rfl ?_ ?_) <;> intro hc <;> (try simp only [KL, cond_true, cond_false, beq_iff_eq, bne_iff_ne, ne_eq, reduceCtorEq] at hc) <;> (try (have hT : True := hc; clear hT hc)) <;> (try (exfalso; omega))) | apply kT | apply kU | apply kV | apply kW | refine kX rfl ?_ | apply kY | apply kZ)
  · rw [swM_step hXY (by omega) rfl rfl]
    exact ⟨k + 1, by omega, by omega, les, leh⟩
  · obtain rfl : k = xx.length := by omega
    rw [swM_n rfl hXY]
    exact retn rfl ⟨rfl, rfl⟩
theorem rot_Due (fc : FuncId) (pp xx yy ss : List Due) (a m b : Int) (ha : a = pp.length) (hm : m = pp.length + xx.length) (hb : b = pp.length + xx.length + yy.length) (h1 : 0 < xx.length) (h2 : 0 < yy.length) (hl : pp.length + xx.length + yy.length + ss.length ≤ 1000000000000) :
    FnH Try.prog 122 [.own 4, .int .i64 a, .int .i64 m, .int .i64 b, .fn (.func fc) [] []] [(4, .row 41 2 ((pp ++ xx ++ yy ++ ss).map eDue))]
    (fun r h' => r = .tup [] ∧ h' = [(4, .row 41 2 ((pp ++ yy ++ xx ++ ss).map eDue))]) := by
  refine fnhb Try.func122 (entered_of (by kernel_rfl)) rfl rfl ?_
  subst ha hm hb
  repeat' (first | refine sA ?_ | ((first | apply kM | apply kN); (iterate 3 (· exact rfl)); (· first | exact ya)) | refine sG ?_ | (refine sK ?_ ?_ <;> intro hc <;> (try simp only [KL, sL, reduceCtorEq] at hc) <;> (try (have hT : True := hc; clear hT hc)) <;> (try (exfalso; omega))))
  refine wloop (fun x : List Due × List Due × List Due × List Due => ([(0, .own 4), (2, .int .i64 (pp.length + xx.length)), (4, .fn (.func fc) [] []), (10, .int .i64 x.2.1.length), (11, .int .i64 x.2.2.1.length)], [(4, .row 41 2 ((x.1 ++ x.2.1 ++ x.2.2.1 ++ x.2.2.2).map eDue))]))
    (fun x => 0 < x.2.1.length ∧ 0 < x.2.2.1.length ∧ x.1.length + x.2.1.length = pp.length + xx.length ∧ x.1 ++ x.2.2.1 ++ x.2.1 ++ x.2.2.2 = pp ++ yy ++ xx ++ ss) (fun x => x.2.1.length + x.2.2.1.length) (pp, xx, yy, ss) ⟨h1, h2, rfl, rfl⟩ les leh (fun x hx => ?_)
  obtain ⟨p, q, r, t⟩ := x
  obtain ⟨k1, k2, k3, k4⟩ := hx
  simp only at k1 k2 k3 k4 ⊢
  have k5 : p.length + r.length + q.length + t.length = pp.length + yy.length + xx.length + ss.length := by have := congrArg List.length k4; simp only [List.length_append] at this; omega
  rcases Nat.lt_trichotomy q.length r.length with hc | hc | hc
  · obtain ⟨r1, r2, rfl, hr⟩ : ∃ r1 r2, r = r1 ++ r2 ∧ r2.length = q.length := ⟨r.take (r.length - q.length), r.drop (r.length - q.length), by rw [tdl], by rw [List.length_drop]; omega⟩
    rw [List.length_append] at hc k5
    rw [show p ++ q ++ (r1 ++ r2) ++ t = p ++ q ++ r1 ++ r2 ++ t by simp]
    rw [List.length_append]
    repeat' (first | refine sA ?_ | ((first | apply kM | apply kN); (iterate 3 (· exact rfl)); (· first | exact ya)) | refine sG ?_ | (refine sK ?_ ?_ <;> intro hc <;> (try simp only [KL, sL, reduceCtorEq] at hc) <;> (try (have hT : True := hc; clear hT hc)) <;> (try (exfalso; omega))))
    refine zcall (fun i => i) (swr_Due fc  p q r1 r2 t _ _ _ (by omega) (by omega) (by omega) hr (by omega)) rfl rfl leh rfl rfl rfl rfl rfl rfl (fun r h' hR => ?_)
    obtain ⟨rfl, rfl⟩ := hR
    refine ⟨rfl, rfl, ?_⟩
    repeat' (first | refine sA ?_ | ((first | apply kM | apply kN); (iterate 3 (· exact rfl)); (· first | exact ya)) | refine sG ?_ | (refine sK ?_ ?_ <;> intro hc <;> (try simp only [KL, sL, reduceCtorEq] at hc) <;> (try (have hT : True := hc; clear hT hc)) <;> (try (exfalso; omega))))
    rw [show p ++ r2 ++ r1 ++ q ++ t = p ++ r2 ++ r1 ++ (q ++ t) by simp]
    exact ⟨(p, r2, r1, q ++ t), ⟨by simp only; omega, by simp only; omega, by simp only; omega, by rw [← k4]; simp⟩, by simp only [List.length_append]; omega, les, leh⟩
  · repeat' (first | refine sA ?_ | ((first | apply kM | apply kN); (iterate 3 (· exact rfl)); (· first | exact ya)) | refine sG ?_ | (refine sK ?_ ?_ <;> intro hc <;> (try simp only [KL, sL, reduceCtorEq] at hc) <;> (try (have hT : True := hc; clear hT hc)) <;> (try (exfalso; omega))))
    rw [show p ++ q ++ r ++ t = p ++ q ++ [] ++ r ++ t by simp]
    refine zcall (fun i => i) (swr_Due fc  p q [] r t _ _ _ (by omega) (by simp only [List.length_nil]; omega) (by omega) (by omega) (by simp only [List.length_nil]; omega)) rfl rfl leh rfl rfl rfl rfl rfl rfl (fun r h' hR => ?_)
    obtain ⟨rfl, rfl⟩ := hR
    refine ⟨rfl, rfl, ?_⟩
    repeat' (first | refine sA ?_ | ((first | apply kM | apply kN); (iterate 3 (· exact rfl)); (· first | exact ya)) | refine sG ?_ | (refine sK ?_ ?_ <;> intro hc <;> (try simp only [KL, sL, reduceCtorEq] at hc) <;> (try (have hT : True := hc; clear hT hc)) <;> (try (exfalso; omega))))
    rw [show p ++ r ++ [] ++ q ++ t = p ++ r ++ q ++ t by simp, k4]
    exact retn rfl ⟨rfl, rfl⟩
  · obtain ⟨q1, q2, rfl, hr⟩ : ∃ q1 q2, q = q1 ++ q2 ∧ q1.length = r.length := ⟨q.take r.length, q.drop r.length, by rw [tdl], by rw [List.length_take]; omega⟩
    rw [List.length_append] at hc k5 k3
    rw [show p ++ (q1 ++ q2) ++ r ++ t = p ++ q1 ++ q2 ++ r ++ t by simp]
    rw [List.length_append]
    repeat' (first | refine sA ?_ | ((first | apply kM | apply kN); (iterate 3 (· exact rfl)); (· first | exact ya)) | refine sG ?_ | (refine sK ?_ ?_ <;> intro hc <;> (try simp only [KL, sL, reduceCtorEq] at hc) <;> (try (have hT : True := hc; clear hT hc)) <;> (try (exfalso; omega))))
    refine zcall (fun i => i) (swr_Due fc  p q1 q2 r t _ _ _ (by omega) (by omega) (by omega) hr.symm (by omega)) rfl rfl leh rfl rfl rfl rfl rfl rfl (fun r h' hR => ?_)
    obtain ⟨rfl, rfl⟩ := hR
    refine ⟨rfl, rfl, ?_⟩
    repeat' (first | refine sA ?_ | ((first | apply kM | apply kN); (iterate 3 (· exact rfl)); (· first | exact ya)) | refine sG ?_ | (refine sK ?_ ?_ <;> intro hc <;> (try simp only [KL, sL, reduceCtorEq] at hc) <;> (try (have hT : True := hc; clear hT hc)) <;> (try (exfalso; omega))))
    exact ⟨(p ++ r, q2, q1, t), ⟨by simp only; omega, by simp only; omega, by simp only [List.length_append]; omega, by rw [← k4]; simp⟩, by simp only [List.length_append]; omega, les, leh⟩
theorem ins_Due (fc : FuncId) (c : Due → Due → Int) (p : Due → Prop) (hs : SWO (ltcDue c)) (hF : ∀ x y, p x → p y → Fn Try.prog fc ([(fun x : Due => AV.agg (eDue x)) x, (fun x : Due => AV.agg (eDue x)) y] ++ []) (.int .i64 (c x y))) (pp xx ss : List Due) (hp : ∀ x ∈ xx, p x) (a b : Int) (ha : a = pp.length) (hb : b = pp.length + xx.length) (hl : pp.length + xx.length + ss.length ≤ 1000000000000) :
    FnH Try.prog 92 [.own 4, .int .i64 a, .int .i64 b, .fn (.func fc) [] []] [(4, .row 41 2 ((pp ++ xx ++ ss).map eDue))]
    (fun r h' => r = .tup [] ∧ ∃ xx', StS (ltcDue c) xx xx' ∧ h' = [(4, .row 41 2 ((pp ++ xx' ++ ss).map eDue))]) := by
  refine fnhb Try.func92 (entered_of (by kernel_rfl)) rfl rfl ?_
  subst ha hb
  repeat' (first | refine sA ?_ | ((first | apply kM | apply kN); (iterate 3 (· exact rfl)); (· first | exact ya)) | refine sG ?_ | (refine sK ?_ ?_ <;> intro hc <;> (try simp only [KL, sL, reduceCtorEq] at hc) <;> (try (have hT : True := hc; clear hT hc)) <;> (try (exfalso; omega))))
  refine wloop (fun x : List Due × List Due × Nat => ([(0, .own 4), (1, .int .i64 pp.length), (2, .int .i64 (pp.length + xx.length)), (3, .fn (.func fc) [] []), (8, .int .i64 (pp.length + x.2.2))], [(4, .row 41 2 ((pp ++ (x.1 ++ x.2.1) ++ ss).map eDue))]))
    (fun x => Rch (ltcDue c) xx (x.1 ++ x.2.1) ∧ Srt (ltcDue c) x.1 ∧ (x.1.length = x.2.2 ∨ (x.2.1 = [] ∧ x.1.length ≤ x.2.2))) (fun x => xx.length + 1 - x.2.2) (xx.take 1, xx.drop 1, 1)
    ⟨by rw [tdl]; exact .refl, .of_len (by rw [List.length_take]; omega), by
      rcases Nat.eq_zero_or_pos xx.length with h | h
      · exact .inr ⟨List.drop_of_length_le (by omega), by rw [List.length_take]; omega⟩
      · exact .inl (by simp only [List.length_take]; omega)⟩ les (by dsimp only; rw [tdl]; exact leh) (fun x hx => ?_)
  obtain ⟨dd, ee, i⟩ := x
  obtain ⟨k1, k2, k3⟩ := hx
  simp only at k1 k2 k3 ⊢
  have k4 : dd.length + ee.length = xx.length := by have := k1.len; rwa [List.length_append] at this
  rcases Nat.lt_or_ge i xx.length with hi | hi
  · have k5 : dd.length = i := by
      rcases k3 with k3 | ⟨rfl, k3⟩
      · exact k3
      · simp only [List.length_nil] at k4; omega
    subst k5
    clear k3
    match ee, k1, k4 with
    | [], k1, k4 => simp only [List.length_nil] at k4; omega
    | x :: ee, k1, k4 =>
    have hpx : p x := hp x (k1.mem.1 (List.mem_append_right _ List.mem_cons_self))
    have hpd : ∀ y ∈ dd, p y := fun y hy => hp y (k1.mem.1 (List.mem_append_left _ hy))
    rw [List.length_cons] at k4
    repeat' (first | refine sA ?_ | ((first | apply kM | apply kN); (iterate 3 (· exact rfl)); (· first | exact ya)) | refine sG ?_ | (refine sK ?_ ?_ <;> intro hc <;> (try simp only [KL, sL, reduceCtorEq] at hc) <;> (try (have hT : True := hc; clear hT hc)) <;> (try (exfalso; omega))))
    refine wloop (fun z : List Due × List Due => ([(0, .own 4), (1, .int .i64 pp.length), (2, .int .i64 (pp.length + xx.length)), (3, .fn (.func fc) [] []), (8, .int .i64 (pp.length + dd.length)), (9, .int .i64 (pp.length + z.1.length))], [(4, .row 41 2 ((pp ++ (z.1 ++ x :: z.2 ++ ee) ++ ss).map eDue))]))
      (fun z => z.1 ++ z.2 = dd ∧ ∀ y ∈ z.2, ltcDue c x y = true) (fun z => z.1.length) (dd, []) ⟨List.append_nil _, fun y hy => by cases hy⟩ les (by dsimp only; rw [show dd ++ x :: [] ++ ee = dd ++ x :: ee by simp]; exact leh) (fun z hz => ?_)
    obtain ⟨d1, d2⟩ := z
    obtain ⟨m1, m2⟩ := hz
    simp only at m1 m2 ⊢
    subst m1
    have m3 : Rch (ltcDue c) xx (d1 ++ x :: d2 ++ ee) := by
      have := (Rch.left x d2 m2).ctx d1 ee
      refine k1.trans ?_
      simpa using this
    rcases List.eq_nil_or_concat d1 with rfl | ⟨d1, y, rfl⟩
    · repeat' (first | refine sA ?_ | ((first | apply kM | apply kN); (iterate 3 (· exact rfl)); (· first | exact ya)) | refine sG ?_ | (refine sK ?_ ?_ <;> intro hc <;> (try simp only [KL, sL, reduceCtorEq] at hc) <;> (try (have hT : True := hc; clear hT hc)) <;> (try (exfalso; omega))))
      all_goals first | (exfalso; simp only [List.length_nil] at *; omega) | skip
      rw [show ([] ++ x :: d2 ++ ee) = (x :: d2) ++ ee by simp]
      refine ⟨(x :: d2, ee, d2.length + 1), ⟨by simpa using m3, List.pairwise_cons.2 ⟨fun y hy => hs.asym (m2 y hy), k2⟩, .inl rfl⟩, ?_, les, leh⟩
      simp only [List.nil_append] at *; omega
    · rw [List.concat_eq_append] at *
      have hpy : p y := hpd y (by simp)
      obtain ⟨M, hM⟩ : ∃ M, M = pp ++ (d1 ++ [y] ++ x :: d2 ++ ee) ++ ss := ⟨_, rfl⟩
      obtain ⟨k0, hk0⟩ : ∃ k0, k0 = pp.length + d1.length := ⟨_, rfl⟩
      obtain ⟨k1', hk1⟩ : ∃ k1, k1 = k0 + 1 := ⟨_, rfl⟩
      obtain ⟨q1, q2, q3, q4⟩ := adj (M := M) (p := pp ++ d1) (u := y) (v := x) (r := d2 ++ ee ++ ss) (k := k0) (by rw [hM]; simp) (by simp [hk0]) hk1
      have hlM : M.length = pp.length + xx.length + ss.length := by
        have := m3.len
        rw [hM]; simp only [List.length_append, List.length_cons, List.length_nil] at this ⊢; omega
      rw [← hM]
      have hc1 := hF x y hpx hpy
      simp only [List.length_append, List.length_cons, List.length_nil] at *
      repeat' (first | (show W _ _ _ _ _ _; first | refine wdrawS rfl (by kernel_rfl) (by kernel_rfl) (by kernel_rfl) ?_ | apply kA | refine kB rfl ?_ | refine kC rfl rfl ?_ | refine kD rfl rfl ?_ | apply kE | apply kF | apply kG | apply kH | refine kI (by kernel_rfl) (by kernel_rfl) ?_) | (show O _ _ _ _ _ _ _; first | (show O _ _ _ _ (⟨_, .store _ _ _, _, _, _, _⟩ :: _) _ _; refine kJ rfl rfl rfl rfl rfl rfl rfl rfl rfl rfl rfl ?_) | apply kK) | apply kL | ((first | apply kM | apply kN); (iterate 3 (· exact rfl)); (· first | (show Y _ ⟨_, .indexAddr _ _ _, _, _, _, _⟩ _ _ _; first | exact q_ioE (k1') rfl rfl rfl rfl rfl rfl (by omega) (by omega) | exact q_ioE (k0) rfl rfl rfl rfl rfl rfl (by omega) (by omega)) | (show Y _ ⟨_, .load _ _, _, _, _, _⟩ _ _ _; first | exact q_pE' q1 | exact q_pE' q2) | (show Y _ ⟨_, .call ⟨.value _, _, _⟩, _, _, _, _⟩ _ _ _; first | exact q_c (hc1) rfl) | exact ya)) | (show F _ _ _ _ _ _ _ _ _ _ _; first | refine fnil ?_ | (apply f_ld; (· exact rfl); (· exact rfl); (· first | exact q_pE' q1 | exact q_pE' q2 | exact yp)) | refine f_se (x' := y) rfl rfl rfl rfl rfl rfl rfl rfl rfl (by (first | rfl | omega | (simp only [List.length_set]; omega) | simp only [List.length_set])) (by (first | rfl | omega | (simp only [List.length_set]; omega) | simp only [List.length_set])) ?_ | refine f_se (x' := x) rfl rfl rfl rfl rfl rfl rfl rfl rfl (by (first | rfl | omega | (simp only [List.length_set]; omega) | simp only [List.length_set])) (by (first | rfl | omega | (simp only [List.length_set]; omega) | simp only [List.length_set])) ?_ | (apply f_k; (· exact rfl); (· intro y' hy'; first | (show Y _ ⟨_, .indexAddr _ _ _, _, _, _, _⟩ _ _ _; first | exact q_ioE (k1') rfl rfl rfl rfl rfl rfl (by omega) (by omega) | exact q_ioE (k0) rfl rfl rfl rfl rfl rfl (by omega) (by omega)) | (show Y _ ⟨_, .load _ _, _, _, _, _⟩ _ _ _; first | exact q_pE' q1 | exact q_pE' q2) | (show Y _ ⟨_, .call ⟨.value _, _, _⟩, _, _, _, _⟩ _ _ _; first | exact q_c (hc1) rfl) | exact ya))) | refine kO rfl rfl rfl rfl rfl ?_ | refine kP rfl rfl rfl ?_ | ((first | refine kQ rfl rfl ?_ ?_ | refine kR rfl rfl rfl rfl rfl ?_ ?_ | refine kS rfl rfl rfl ?_ ?_) <;> intro hc <;> (try simp only [KL, cond_true, cond_false, beq_iff_eq, bne_iff_ne, ne_eq, reduceCtorEq] at hc) <;> (try (have hT : True := hc; clear hT hc)) <;> (try (exfalso; omega))) | apply kT | apply kU | apply kV | apply kW | refine kX rfl ?_ | apply kY | apply kZ)
      all_goals first | (exfalso; omega) | skip
      · rw [q3]
        refine ⟨(d1, y :: d2), ⟨by simp, fun z hz => ?_⟩, by simp only; omega, les, ?_⟩
        · rcases List.mem_cons.1 hz with rfl | hz
          · exact decide_eq_true (by assumption)
          · exact m2 z hz
        · rw [show pp ++ (d1 ++ x :: (y :: d2) ++ ee) ++ ss = pp ++ d1 ++ x :: y :: (d2 ++ ee ++ ss) by simp]
          exact leh
      · rw [hM]
        refine ⟨(d1 ++ [y] ++ x :: d2, ee, d1.length + 1 + d2.length + 1), ⟨m3, ?_, .inl (by simp only [List.length_append, List.length_cons, List.length_nil]; omega)⟩, by simp only; omega, les, leh⟩
        have n1 : ltcDue c x y = false := decide_eq_false (by omega)
        rw [Srt.app] at k2 ⊢
        refine ⟨k2.1, List.pairwise_cons.2 ⟨fun z hz => hs.asym (m2 z hz), k2.2.1⟩, fun u hu v hv => ?_⟩
        rcases List.mem_cons.1 hv with rfl | hv
        · rcases List.mem_append.1 hu with hu | hu
          · exact hs.nt _ _ _ n1 ((Srt.app.1 k2.1).2.2 u hu y List.mem_cons_self)
          · rw [List.mem_singleton.1 hu]; exact n1
        · exact k2.2.2 u hu v hv
  · have k5 : ee = [] := by
      rcases k3 with k3 | k3
      · exact List.eq_nil_of_length_eq_zero (by omega)
      · exact k3.1
    subst k5
    rw [List.append_nil] at k1 ⊢
    repeat' (first | refine sA ?_ | ((first | apply kM | apply kN); (iterate 3 (· exact rfl)); (· first | exact ya)) | refine sG ?_ | (refine sK ?_ ?_ <;> intro hc <;> (try simp only [KL, sL, reduceCtorEq] at hc) <;> (try (have hT : True := hc; clear hT hc)) <;> (try (exfalso; omega))))
    exact retn rfl ⟨rfl, dd, ⟨k1, k2⟩, rfl⟩
theorem sm1_Due (fc : FuncId) (c : Due → Due → Int) (p : Due → Prop) (hs : SWO (ltcDue c)) (hF : ∀ x y, p x → p y → Fn Try.prog fc ([(fun x : Due => AV.agg (eDue x)) x, (fun x : Due => AV.agg (eDue x)) y] ++ []) (.int .i64 (c x y))) (pp yy ss : List Due) (x : Due) (hpx : p x) (hp : ∀ x ∈ yy, p x) (hy : Srt (ltcDue c) yy) (a m b : Int) (ha : a = pp.length) (hm : m = pp.length + 1) (hb : b = pp.length + 1 + yy.length) (hl : pp.length + yy.length + ss.length ≤ 1000000000) :
    FnH Try.prog 111 [.own 4, .int .i64 a, .int .i64 m, .int .i64 b, .fn (.func fc) [] []] [(4, .row 41 2 ((pp ++ [x] ++ yy ++ ss).map eDue))]
    (fun r h' => r = .tup [] ∧ ∃ xx', StS (ltcDue c) ([x] ++ yy) xx' ∧ h' = [(4, .row 41 2 ((pp ++ xx' ++ ss).map eDue))]) := by
  refine fnhb Try.func111 (entered_of (by kernel_rfl)) rfl rfl ?_
  subst ha hm hb
  obtain ⟨M, hM⟩ : ∃ M, M = pp ++ [x] ++ yy ++ ss := ⟨_, rfl⟩
  have hlM : M.length = pp.length + 1 + yy.length + ss.length := by rw [hM]; simp; omega
  obtain ⟨kx, hkx⟩ : ∃ k, k = pp.length := ⟨_, rfl⟩
  have qx : M.getD kx default = x := by rw [hM, seg1 (k := 0) (by simp) (by omega)]; rfl
  rw [← hM]
  repeat' (first | refine sA ?_ | ((first | apply kM | apply kN); (iterate 3 (· exact rfl)); (· first | exact ya)) | refine sG ?_ | (refine sK ?_ ?_ <;> intro hc <;> (try simp only [KL, sL, reduceCtorEq] at hc) <;> (try (have hT : True := hc; clear hT hc)) <;> (try (exfalso; omega))))
  all_goals first | (exfalso; omega) | skip
  refine wloop (fun z : Nat × Nat => ([(0, .own 4), (1, .int .i64 pp.length), (2, .int .i64 (pp.length + 1)), (3, .int .i64 (pp.length + 1 + yy.length)), (4, .fn (.func fc) [] []), (10, .int .i64 (pp.length + 1 + z.1)), (11, .int .i64 (pp.length + 1 + z.2))], [(4, .row 41 2 (M.map eDue))]))
    (fun z => z.1 ≤ z.2 ∧ z.2 ≤ yy.length ∧ (∀ k, k < z.1 → k < yy.length → ltcDue c (yy.getD k default) x = true) ∧ (∀ k, z.2 ≤ k → k < yy.length → ltcDue c (yy.getD k default) x = false)) (fun z => z.2 - z.1) (0, yy.length)
    ⟨Nat.zero_le _, Nat.le_refl _, fun k h _ => absurd h (Nat.not_lt_zero _), fun k h h' => absurd h' (Nat.not_lt.2 h)⟩ les leh (fun z hz => ?_)
  obtain ⟨i, j⟩ := z
  obtain ⟨k1, k2, k3, k4⟩ := hz
  simp only at k1 k2 k3 k4 ⊢
  rcases Nat.lt_or_eq_of_le k1 with hij | hij
  · obtain ⟨q, hq⟩ : ∃ q, q = (i + j) / 2 := ⟨_, rfl⟩
    obtain ⟨kq, hkq⟩ : ∃ k, k = pp.length + 1 + q := ⟨_, rfl⟩
    have hqj : q < j := by omega
    have qq : M.getD kq default = yy.getD q default := by rw [hM]; exact seg2 (by omega) (by simp only [List.length_cons, List.length_nil]; omega)
    have hc1 := hF (yy.getD q default) x (hp _ (getD_mem (by omega))) hpx
    repeat' (first | refine sA ?_ | ((first | apply kM | apply kN); (iterate 3 (· exact rfl)); (· first | (show Y _ ⟨_, .indexAddr _ _ _, _, _, _, _⟩ _ _ _; first | exact q_ioE (kq) rfl rfl rfl rfl rfl rfl (by omega) (by omega) | exact q_ioE (kx) rfl rfl rfl rfl rfl rfl (by omega) (by omega)) | (show Y _ ⟨_, .load _ _, _, _, _, _⟩ _ _ _; first | exact q_pE' qq | exact q_pE' qx) | (show Y _ ⟨_, .binOp .shr _ _ _ _, _, _, _, _⟩ _ _ _; first | exact q_half kq rfl rfl (Or.inl rfl) (by omega) (by omega) | exact q_half kq rfl rfl (Or.inr rfl) (by omega) (by omega)) | exact ya | exact q_c (hc1) rfl)) | refine sG ?_ | (refine sK ?_ ?_ <;> intro hc <;> (try simp only [KL, sL, reduceCtorEq] at hc) <;> (try (have hT : True := hc; clear hT hc)) <;> (try (exfalso; omega))))
    all_goals first | (exfalso; omega) | skip
    · have n1 : ltcDue c (yy.getD q default) x = true := decide_eq_true (by assumption)
      exact ⟨(q + 1, j), ⟨by simp only; omega, k2, fun k h h' => mono1 hs hy (by simp only at h; omega) (by omega) n1, k4⟩, by simp only; omega, les, leh⟩
    · have n1 : ltcDue c (yy.getD q default) x = false := decide_eq_false (by omega)
      exact ⟨(i, q), ⟨by simp only; omega, by simp only; omega, k3, fun k h h' => mono1' hs hy h h' n1⟩, by simp only; omega, les, leh⟩
  · subst hij
    have hst := sm_one1 hs hy k3 k4
    repeat' (first | refine sA ?_ | ((first | apply kM | apply kN); (iterate 3 (· exact rfl)); (· first | exact ya)) | refine sG ?_ | (refine sK ?_ ?_ <;> intro hc <;> (try simp only [KL, sL, reduceCtorEq] at hc) <;> (try (have hT : True := hc; clear hT hc)) <;> (try (exfalso; omega))))
    all_goals first | (exfalso; omega) | skip
    refine wloop (fun z : List Due × List Due => ([(0, .own 4), (4, .fn (.func fc) [] []), (10, .int .i64 (pp.length + 1 + i)), (13, .int .i64 (pp.length + z.1.length))], [(4, .row 41 2 ((pp ++ z.1 ++ x :: z.2 ++ yy.drop i ++ ss).map eDue))]))
      (fun z => z.1 ++ z.2 = yy.take i) (fun z => z.2.length) ([], yy.take i) rfl les (by dsimp only; rw [hM, show pp ++ [] ++ x :: yy.take i ++ yy.drop i ++ ss = pp ++ [x] ++ (yy.take i ++ yy.drop i) ++ ss by simp, tdl]; exact leh) (fun z hz => ?_)
    obtain ⟨d1, d2⟩ := z
    simp only at hz ⊢
    have hlt : d1.length + d2.length = i := by have := congrArg List.length hz; rw [List.length_append, List.length_take] at this; omega
    match d2, hz, hlt with
    | [], hz, hlt =>
      rw [List.append_nil] at hz
      rw [List.length_nil] at hlt
      subst hz
      repeat' (first | refine sA ?_ | ((first | apply kM | apply kN); (iterate 3 (· exact rfl)); (· first | exact ya)) | refine sG ?_ | (refine sK ?_ ?_ <;> intro hc <;> (try simp only [KL, sL, reduceCtorEq] at hc) <;> (try (have hT : True := hc; clear hT hc)) <;> (try (exfalso; omega))))
      all_goals first | (exfalso; omega) | skip
      refine retq rfl ⟨rfl, _, hst, ?_⟩
      rw [show pp ++ (yy.take i ++ x :: yy.drop i) ++ ss = pp ++ yy.take i ++ [x] ++ yy.drop i ++ ss by simp]
    | y :: d2, hz, hlt =>
      rw [List.length_cons] at hlt
      obtain ⟨M, hM⟩ : ∃ M, M = pp ++ d1 ++ x :: (y :: d2) ++ yy.drop i ++ ss := ⟨_, rfl⟩
      obtain ⟨k0, hk0⟩ : ∃ k0, k0 = pp.length + d1.length := ⟨_, rfl⟩
      obtain ⟨k1', hk1⟩ : ∃ k1, k1 = k0 + 1 := ⟨_, rfl⟩
      obtain ⟨q1, q2, q3, q4⟩ := adj (M := M) (p := pp ++ d1) (u := x) (v := y) (r := d2 ++ yy.drop i ++ ss) (k := k0) (by rw [hM]; simp) (by simp [hk0]) hk1
      have hlM : k1' < M.length := by
        rw [hM]; simp only [List.length_append, List.length_cons]; omega
      rw [← hM]
      repeat' (first | (show W _ _ _ _ _ _; first | refine wdrawS rfl (by kernel_rfl) (by kernel_rfl) (by kernel_rfl) ?_ | apply kA | refine kB rfl ?_ | refine kC rfl rfl ?_ | refine kD rfl rfl ?_ | apply kE | apply kF | apply kG | apply kH | refine kI (by kernel_rfl) (by kernel_rfl) ?_) | (show O _ _ _ _ _ _ _; first | (show O _ _ _ _ (⟨_, .store _ _ _, _, _, _, _⟩ :: _) _ _; refine kJ rfl rfl rfl rfl rfl rfl rfl rfl rfl rfl rfl ?_) | apply kK) | apply kL | ((first | apply kM | apply kN); (iterate 3 (· exact rfl)); (· first | (show Y _ ⟨_, .indexAddr _ _ _, _, _, _, _⟩ _ _ _; first | exact q_ioE (k1') rfl rfl rfl rfl rfl rfl (by omega) (by omega) | exact q_ioE (k0) rfl rfl rfl rfl rfl rfl (by omega) (by omega)) | (show Y _ ⟨_, .load _ _, _, _, _, _⟩ _ _ _; first | exact q_pE' q1 | exact q_pE' q2) | exact ya)) | (show F _ _ _ _ _ _ _ _ _ _ _; first | refine fnil ?_ | (apply f_ld; (· exact rfl); (· exact rfl); (· first | exact q_pE' q1 | exact q_pE' q2 | exact yp)) | refine f_se (x' := y) rfl rfl rfl rfl rfl rfl rfl rfl rfl (by (first | rfl | omega | (simp only [List.length_set]; omega) | simp only [List.length_set])) (by (first | rfl | omega | (simp only [List.length_set]; omega) | simp only [List.length_set])) ?_ | refine f_se (x' := x) rfl rfl rfl rfl rfl rfl rfl rfl rfl (by (first | rfl | omega | (simp only [List.length_set]; omega) | simp only [List.length_set])) (by (first | rfl | omega | (simp only [List.length_set]; omega) | simp only [List.length_set])) ?_ | (apply f_k; (· exact rfl); (· intro y' hy'; first | (show Y _ ⟨_, .indexAddr _ _ _, _, _, _, _⟩ _ _ _; first | exact q_ioE (k1') rfl rfl rfl rfl rfl rfl (by omega) (by omega) | exact q_ioE (k0) rfl rfl rfl rfl rfl rfl (by omega) (by omega)) | (show Y _ ⟨_, .load _ _, _, _, _, _⟩ _ _ _; first | exact q_pE' q1 | exact q_pE' q2) | exact ya))) | refine kO rfl rfl rfl rfl rfl ?_ | refine kP rfl rfl rfl ?_ | ((first | refine kQ rfl rfl ?_ ?_ | refine kR rfl rfl rfl rfl rfl ?_ ?_ | refine kS rfl rfl rfl ?_ ?_) <;> intro hc <;> (try simp only [KL, cond_true, cond_false, beq_iff_eq, bne_iff_ne, ne_eq, reduceCtorEq] at hc) <;> (try (have hT : True := hc; clear hT hc)) <;> (try (exfalso; omega))) | apply kT | apply kU | apply kV | apply kW | refine kX rfl ?_ | apply kY | apply kZ)
      all_goals first | (exfalso; omega) | skip
      rw [q4]
      exact ⟨(d1 ++ [y], d2), by rw [← hz]; simp, by simp only [List.length_cons]; omega, les, by dsimp only; rw [show pp ++ (d1 ++ [y]) ++ x :: d2 ++ yy.drop i ++ ss = pp ++ d1 ++ y :: x :: (d2 ++ yy.drop i ++ ss) by simp]; exact leh⟩
theorem sm2_Due (fc : FuncId) (c : Due → Due → Int) (p : Due → Prop) (hs : SWO (ltcDue c)) (hF : ∀ x y, p x → p y → Fn Try.prog fc ([(fun x : Due => AV.agg (eDue x)) x, (fun x : Due => AV.agg (eDue x)) y] ++ []) (.int .i64 (c x y))) (pp xx ss : List Due) (y : Due) (hpy : p y) (hp : ∀ x ∈ xx, p x) (hx : Srt (ltcDue c) xx) (hn : xx.length ≠ 1) (a m b : Int) (ha : a = pp.length) (hm : m = pp.length + xx.length) (hb : b = pp.length + xx.length + 1) (hl : pp.length + xx.length + ss.length ≤ 1000000000) :
    FnH Try.prog 111 [.own 4, .int .i64 a, .int .i64 m, .int .i64 b, .fn (.func fc) [] []] [(4, .row 41 2 ((pp ++ xx ++ [y] ++ ss).map eDue))]
    (fun r h' => r = .tup [] ∧ ∃ xx', StS (ltcDue c) (xx ++ [y]) xx' ∧ h' = [(4, .row 41 2 ((pp ++ xx' ++ ss).map eDue))]) := by
  refine fnhb Try.func111 (entered_of (by kernel_rfl)) rfl rfl ?_
  subst ha hm hb
  obtain ⟨M, hM⟩ : ∃ M, M = pp ++ xx ++ [y] ++ ss := ⟨_, rfl⟩
  have hlM : M.length = pp.length + xx.length + 1 + ss.length := by rw [hM]; simp; omega
  obtain ⟨ky, hky⟩ : ∃ k, k = pp.length + xx.length := ⟨_, rfl⟩
  have qy : M.getD ky default = y := by rw [hM, seg2 (k := 0) (by simp) (by omega)]; rfl
  rw [← hM]
  repeat' (first | refine sA ?_ | ((first | apply kM | apply kN); (iterate 3 (· exact rfl)); (· first | exact ya)) | refine sG ?_ | (refine sK ?_ ?_ <;> intro hc <;> (try simp only [KL, sL, reduceCtorEq] at hc) <;> (try (have hT : True := hc; clear hT hc)) <;> (try (exfalso; omega))))
  all_goals first | (exfalso; omega) | skip
  refine wloop (fun z : Nat × Nat => ([(0, .own 4), (1, .int .i64 pp.length), (2, .int .i64 (pp.length + xx.length)), (3, .int .i64 (pp.length + xx.length + 1)), (4, .fn (.func fc) [] []), (14, .int .i64 (pp.length + z.1)), (15, .int .i64 (pp.length + z.2))], [(4, .row 41 2 (M.map eDue))]))
    (fun z => z.1 ≤ z.2 ∧ z.2 ≤ xx.length ∧ (∀ k, k < z.1 → k < xx.length → ltcDue c y (xx.getD k default) = false) ∧ (∀ k, z.2 ≤ k → k < xx.length → ltcDue c y (xx.getD k default) = true)) (fun z => z.2 - z.1) (0, xx.length)
    ⟨Nat.zero_le _, Nat.le_refl _, fun k h _ => absurd h (Nat.not_lt_zero _), fun k h h' => absurd h' (Nat.not_lt.2 h)⟩ les leh (fun z hz => ?_)
  obtain ⟨i, j⟩ := z
  obtain ⟨k1, k2, k3, k4⟩ := hz
  simp only at k1 k2 k3 k4 ⊢
  rcases Nat.lt_or_eq_of_le k1 with hij | hij
  · obtain ⟨q, hq⟩ : ∃ q, q = (2 * pp.length + i + j) / 2 - pp.length := ⟨_, rfl⟩
    obtain ⟨kq, hkq⟩ : ∃ k, k = pp.length + q := ⟨_, rfl⟩
    have hqj : q < j := by omega
    have qq : M.getD kq default = xx.getD q default := by rw [hM]; exact seg1 (by omega) (by omega)
    have hc1 := hF y (xx.getD q default) hpy (hp _ (getD_mem (by omega)))
    repeat' (first | refine sA ?_ | ((first | apply kM | apply kN); (iterate 3 (· exact rfl)); (· first | (show Y _ ⟨_, .indexAddr _ _ _, _, _, _, _⟩ _ _ _; first | exact q_ioE (kq) rfl rfl rfl rfl rfl rfl (by omega) (by omega) | exact q_ioE (ky) rfl rfl rfl rfl rfl rfl (by omega) (by omega)) | (show Y _ ⟨_, .load _ _, _, _, _, _⟩ _ _ _; first | exact q_pE' qq | exact q_pE' qy) | (show Y _ ⟨_, .binOp .shr _ _ _ _, _, _, _, _⟩ _ _ _; first | exact q_half kq rfl rfl (Or.inl rfl) (by omega) (by omega) | exact q_half kq rfl rfl (Or.inr rfl) (by omega) (by omega)) | exact ya | exact q_c (hc1) rfl)) | refine sG ?_ | (refine sK ?_ ?_ <;> intro hc <;> (try simp only [KL, sL, reduceCtorEq] at hc) <;> (try (have hT : True := hc; clear hT hc)) <;> (try (exfalso; omega))))
    all_goals first | (exfalso; omega) | skip
    · have n1 : ltcDue c y (xx.getD q default) = false := decide_eq_false (by omega)
      exact ⟨(q + 1, j), ⟨by simp only; omega, k2, fun k h h' => mono2 hs hx (by simp only at h; omega) (by omega) n1, k4⟩, by simp only; omega, les, leh⟩
    · have n1 : ltcDue c y (xx.getD q default) = true := decide_eq_true (by omega)
      exact ⟨(i, q), ⟨by simp only; omega, by simp only; omega, k3, fun k h h' => mono2' hs hx h h' n1⟩, by simp only; omega, les, leh⟩
  · subst hij
    have hst := sm_one2 hs hx k3 k4
    repeat' (first | refine sA ?_ | ((first | apply kM | apply kN); (iterate 3 (· exact rfl)); (· first | exact ya)) | refine sG ?_ | (refine sK ?_ ?_ <;> intro hc <;> (try simp only [KL, sL, reduceCtorEq] at hc) <;> (try (have hT : True := hc; clear hT hc)) <;> (try (exfalso; omega))))
    all_goals first | (exfalso; omega) | skip
    refine wloop (fun z : List Due × List Due => ([(0, .own 4), (4, .fn (.func fc) [] []), (14, .int .i64 (pp.length + i)), (17, .int .i64 (pp.length + i + z.1.length))], [(4, .row 41 2 ((pp ++ xx.take i ++ z.1 ++ y :: z.2 ++ ss).map eDue))]))
      (fun z => z.1 ++ z.2 = xx.drop i) (fun z => z.1.length) (xx.drop i, []) (List.append_nil _) les (by dsimp only; rw [hM, show pp ++ xx.take i ++ xx.drop i ++ y :: [] ++ ss = pp ++ (xx.take i ++ xx.drop i) ++ [y] ++ ss by simp, tdl]; exact leh) (fun z hz => ?_)
    obtain ⟨d1, d2⟩ := z
    simp only at hz ⊢
    have hlt : d1.length + d2.length = xx.length - i := by have := congrArg List.length hz; rwa [List.length_append, List.length_drop] at this
    rcases List.eq_nil_or_concat d1 with rfl | ⟨d1, x, rfl⟩
    · rw [List.nil_append] at hz
      rw [List.length_nil] at hlt ⊢
      subst hz
      repeat' (first | refine sA ?_ | ((first | apply kM | apply kN); (iterate 3 (· exact rfl)); (· first | exact ya)) | refine sG ?_ | (refine sK ?_ ?_ <;> intro hc <;> (try simp only [KL, sL, reduceCtorEq] at hc) <;> (try (have hT : True := hc; clear hT hc)) <;> (try (exfalso; omega))))
      all_goals first | (exfalso; omega) | skip
      refine retq rfl ⟨rfl, _, hst, ?_⟩
      rw [show pp ++ (xx.take i ++ y :: xx.drop i) ++ ss = pp ++ xx.take i ++ [] ++ y :: xx.drop i ++ ss by simp]
    · rw [List.concat_eq_append] at *
      rw [List.length_append, List.length_cons, List.length_nil] at hlt
      rw [List.length_append, List.length_cons, List.length_nil]
      obtain ⟨M, hM⟩ : ∃ M, M = pp ++ xx.take i ++ (d1 ++ [x]) ++ y :: d2 ++ ss := ⟨_, rfl⟩
      obtain ⟨k0, hk0⟩ : ∃ k0, k0 = pp.length + i + d1.length := ⟨_, rfl⟩
      obtain ⟨k1', hk1⟩ : ∃ k1, k1 = k0 + 1 := ⟨_, rfl⟩
      obtain ⟨q1, q2, q3, q4⟩ := adj (M := M) (p := pp ++ xx.take i ++ d1) (u := x) (v := y) (r := d2 ++ ss) (k := k0) (by rw [hM]; simp) (by simp only [List.length_append, List.length_take]; omega) hk1
      have hlM : k1' < M.length := by
        rw [hM]; simp only [List.length_append, List.length_cons, List.length_nil, List.length_take]; omega
      rw [← hM]
      repeat' (first | (show W _ _ _ _ _ _; first | refine wdrawS rfl (by kernel_rfl) (by kernel_rfl) (by kernel_rfl) ?_ | apply kA | refine kB rfl ?_ | refine kC rfl rfl ?_ | refine kD rfl rfl ?_ | apply kE | apply kF | apply kG | apply kH | refine kI (by kernel_rfl) (by kernel_rfl) ?_) | (show O _ _ _ _ _ _ _; first | (show O _ _ _ _ (⟨_, .store _ _ _, _, _, _, _⟩ :: _) _ _; refine kJ rfl rfl rfl rfl rfl rfl rfl rfl rfl rfl rfl ?_) | apply kK) | apply kL | ((first | apply kM | apply kN); (iterate 3 (· exact rfl)); (· first | (show Y _ ⟨_, .indexAddr _ _ _, _, _, _, _⟩ _ _ _; first | exact q_ioE (k1') rfl rfl rfl rfl rfl rfl (by omega) (by omega) | exact q_ioE (k0) rfl rfl rfl rfl rfl rfl (by omega) (by omega)) | (show Y _ ⟨_, .load _ _, _, _, _, _⟩ _ _ _; first | exact q_pE' q1 | exact q_pE' q2) | exact ya)) | (show F _ _ _ _ _ _ _ _ _ _ _; first | refine fnil ?_ | (apply f_ld; (· exact rfl); (· exact rfl); (· first | exact q_pE' q1 | exact q_pE' q2 | exact yp)) | refine f_se (x' := x) rfl rfl rfl rfl rfl rfl rfl rfl rfl (by (first | rfl | omega | (simp only [List.length_set]; omega) | simp only [List.length_set])) (by (first | rfl | omega | (simp only [List.length_set]; omega) | simp only [List.length_set])) ?_ | refine f_se (x' := y) rfl rfl rfl rfl rfl rfl rfl rfl rfl (by (first | rfl | omega | (simp only [List.length_set]; omega) | simp only [List.length_set])) (by (first | rfl | omega | (simp only [List.length_set]; omega) | simp only [List.length_set])) ?_ | (apply f_k; (· exact rfl); (· intro y' hy'; first | (show Y _ ⟨_, .indexAddr _ _ _, _, _, _, _⟩ _ _ _; first | exact q_ioE (k1') rfl rfl rfl rfl rfl rfl (by omega) (by omega) | exact q_ioE (k0) rfl rfl rfl rfl rfl rfl (by omega) (by omega)) | (show Y _ ⟨_, .load _ _, _, _, _, _⟩ _ _ _; first | exact q_pE' q1 | exact q_pE' q2) | exact ya))) | refine kO rfl rfl rfl rfl rfl ?_ | refine kP rfl rfl rfl ?_ | ((first | refine kQ rfl rfl ?_ ?_ | refine kR rfl rfl rfl rfl rfl ?_ ?_ | refine kS rfl rfl rfl ?_ ?_) <;> intro hc <;> (try simp only [KL, cond_true, cond_false, beq_iff_eq, bne_iff_ne, ne_eq, reduceCtorEq] at hc) <;> (try (have hT : True := hc; clear hT hc)) <;> (try (exfalso; omega))) | apply kT | apply kU | apply kV | apply kW | refine kX rfl ?_ | apply kY | apply kZ)
      all_goals first | (exfalso; omega) | skip
      rw [q3]
      exact ⟨(d1, x :: d2), by rw [← hz]; simp, by simp only [List.length_append, List.length_cons, List.length_nil]; omega, les, by dsimp only; rw [show pp ++ xx.take i ++ d1 ++ y :: (x :: d2) ++ ss = pp ++ xx.take i ++ d1 ++ y :: x :: (d2 ++ ss) by simp]; exact leh⟩
end Go.Proofs.Ytfjoaeghnfkdlaa
