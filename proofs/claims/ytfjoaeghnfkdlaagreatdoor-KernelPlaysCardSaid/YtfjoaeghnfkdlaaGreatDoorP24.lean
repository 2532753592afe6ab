/- The document's kernel: a tick's beginning. No condition. -/
import Derived.Test.YtfjoaeghnfkdlaaGreatDoorP23
set_option linter.unusedSimpArgs false
set_option linter.unusedVariables false
set_option maxHeartbeats 1000000
namespace Go.Proofs.YtfjoaeghnfkdlaaGreatDoor
set_option maxRecDepth 100000
set_option maxRecDepth 100000
open Go.RowKit
theorem lateT_mem (B : Bk) (t : Int) : ∀ k, k ≤ 64 → ∀ i ∈ (lateT B t k).1, hasN B.act i = true
  | 0, _, i, hi => by cases hi
  | k + 1, hk, i, hi => by
    have ih := lateT_mem B t k (by omega)
    rw [lateT_next _ _ _ (by omega)] at hi
    split at hi
    · rename_i hh
      unfold lateS at hi
      split at hi
      · rcases List.mem_append.1 hi with hi | hi
        · exact ih i hi
        · rw [List.mem_singleton] at hi; subst hi; exact hh
      · exact ih i hi
    · exact ih i hi
theorem late_mem (B : Bk) (t : Int) : ∀ i ∈ (lateBk B t (setL B.act) (setL B.act).length).1, hasN B.act i = true := by
  rw [← lateT_all]; exact lateT_mem B t 64 (Nat.le_refl _)
/-! Asks, by the document. -/
def rpQ (l : List Task) (LL : List (List Int)) (now i : Int) : Bool := decide (0 ≤ i ∧ i < l.length) && decide ((l.getD i.toNat default).kind = 2) && match (LL.getD i.toNat []).getLast? with
  | none => true
  | some v => decide ((l.getD i.toNat default).period ≤ now - v)
def letB (l : List Task) (B : Bk) (now i : Int) : Event := letE l ⟨B, [], [], now, true⟩ i
structure Rk where
  B : Bk
  LL : List (List Int)
  es : List Event
def rTask (l : List Task) (now : Int) (p : Bk × List Event) (i : Nat) : Bk × List Event := if atB (l.getD i default) now then (relBk l p.1 i now, p.2 ++ [letB l p.1 now i]) else p
def rAsk (l : List Task) (now : Int) (p : Rk) (i : Int) : Rk :=
  if rpQ l p.LL now i then ⟨relBk l p.B i now, p.LL.set i.toNat (p.LL.getD i.toNat [] ++ [now]), p.es ++ [letB l p.B now i]⟩ else ⟨p.B, p.LL, p.es ++ [⟨now, 2, i, 0, 0⟩]⟩
def rLate (B : Bk) (now : Int) : Bk × List Event :=
  let L := lateBk B now (setL B.act) (setL B.act).length
  (L.2, L.1.map (lateE L.2 now))
def rBegin (l : List Task) (B : Bk) (LL : List (List Int)) (now : Int) (asks : List Int) : Rk :=
  let p := (List.range l.length).foldl (rTask l now) (rLate B now)
  asks.foldl (rAsk l now) ⟨p.1, LL, p.2⟩
structure RI (l : List Task) (n : Nat) (now : Int) (B : Bk) (LL : List (List Int)) : Prop where
  good : GoodB l n B
  len : LL.length = l.length
  rows : ∀ r ∈ LL, r.length ≤ n ∧ ∀ v ∈ r, 0 ≤ v ∧ v ≤ now
theorem RI.mono {l : List Task} {n : Nat} {now : Int} {B : Bk} {LL : List (List Int)} (h : RI l n now B LL) : RI l (n + 1) now B LL := ⟨h.good.mono, h.len, fun r hr => ⟨Nat.le_succ_of_le (h.rows r hr).1, (h.rows r hr).2⟩⟩
theorem RI.ask {l : List Task} {n : Nat} {now : Int} (h0 : 0 ≤ now) {p : Rk} (h : RI l n now p.B p.LL) (i : Int) : RI l (n + 1) now (rAsk l now p i).B (rAsk l now p i).LL := by
  unfold rAsk
  split
  · refine ⟨h.good.rel _ _, (by simp only [List.length_set]; exact h.len), fun r hr => ?_⟩
    rcases List.mem_or_eq_of_mem_set hr with hr | rfl
    · exact ⟨Nat.le_succ_of_le (h.rows r hr).1, (h.rows r hr).2⟩
    · by_cases hi : i.toNat < p.LL.length
      · have hm : p.LL.getD i.toNat [] ∈ p.LL := by
          rw [List.getD_eq_getElem?_getD, List.getElem?_eq_getElem hi, Option.getD_some]; exact List.getElem_mem hi
        refine ⟨(by rw [List.length_append]; have := (h.rows _ hm).1; simp only [List.length_cons, List.length_nil]; omega), fun v hv => ?_⟩
        rcases List.mem_append.1 hv with hv | hv
        · exact (h.rows _ hm).2 v hv
        · rw [List.mem_singleton] at hv; subst hv; exact ⟨h0, Int.le_refl _⟩
      · rw [List.getD_eq_getElem?_getD, List.getElem?_eq_none (by omega), Option.getD_none]
        refine ⟨(by simp), fun v hv => ?_⟩
        simp only [List.nil_append, List.mem_singleton] at hv; subst hv; exact ⟨h0, Int.le_refl _⟩
  · exact h.mono
theorem RI.asks {l : List Task} {now : Int} (h0 : 0 ≤ now) : ∀ (D : List Int) {n : Nat} {p : Rk}, RI l n now p.B p.LL → RI l (n + D.length) now (D.foldl (rAsk l now) p).B (D.foldl (rAsk l now) p).LL
  | [], n, p, h => h
  | i :: r, n, p, h => by
    rw [List.foldl_cons, List.length_cons, show n + (r.length + 1) = n + 1 + r.length by omega]
    exact RI.asks h0 r (h.ask h0 i)
theorem rTask_good {l : List Task} {now : Int} : ∀ (D : List Nat) {n : Nat} {p : Bk × List Event}, GoodB l n p.1 → GoodB l (n + D.length) (D.foldl (rTask l now) p).1 ∧ (D.foldl (rTask l now) p).2.length ≤ p.2.length + D.length
  | [], n, p, h => ⟨h, Nat.le_refl _⟩
  | i :: r, n, p, h => by
    rw [List.foldl_cons, List.length_cons, show n + (r.length + 1) = n + 1 + r.length by omega]
    unfold rTask
    split
    · obtain ⟨h1, h2⟩ := rTask_good (now := now) r (p := (relBk l p.1 i now, p.2 ++ [letB l p.1 now i])) (h.rel _ _)
      refine ⟨h1, Nat.le_trans h2 ?_⟩
      simp only [List.length_append, List.length_cons, List.length_nil]; omega
    · obtain ⟨h1, h2⟩ := rTask_good (now := now) r (p := p) h.mono
      exact ⟨h1, Nat.le_trans h2 (by omega)⟩
theorem rAsk_len {l : List Task} {now : Int} : ∀ (D : List Int) (p : Rk), (D.foldl (rAsk l now) p).es.length = p.es.length + D.length
  | [], p => rfl
  | d :: r, p => by
    rw [List.foldl_cons, rAsk_len r]
    unfold rAsk
    split <;> (simp only [List.length_append, List.length_cons, List.length_nil]; omega)
theorem getD_row {L : List (List Int)} {j : Nat} (h : j < L.length) : L[j]? = some (L.getD j []) := by rw [List.getD_eq_getElem?_getD, List.getElem?_eq_getElem h, Option.getD_some]
def foG (LL : List (List Int)) (i : Nat) (z : Int) : Fo := ⟨LL.length + 2, ((foN LL).app (i + 1) (LL.getD i []) z).rows, .arr ((List.range' 1 LL.length).set i (LL.length + 1))⟩
theorem foG_shows {LL : List (List Int)} {i : Nat} (hi : i < LL.length) (z : Int) : (foG LL i z).Shows (LL.set i (LL.getD i [] ++ [z])) ((List.range' 1 LL.length).set i (LL.length + 1)) := by
  refine ⟨rfl, by simp, ?_, fun j q r hq hr => ?_⟩
  · rw [List.Nodup, List.pairwise_iff_getElem]
    intro a b ha hb hab he
    rw [List.length_set, List.length_range'] at ha hb
    rw [List.getElem_set, List.getElem_set, List.getElem_range', List.getElem_range'] at he
    split at he <;> split at he <;> omega
  · have hjl : j < LL.length := by
      have := (List.getElem?_eq_some_iff.1 hq).1
      rwa [List.length_set, List.length_range'] at this
    rw [List.getElem?_set, List.length_range', foN_at hjl] at hq
    rw [List.getElem?_set] at hr
    by_cases h1 : i = j
    · subst h1
      rw [if_pos rfl, if_pos hi] at hq hr
      cases hq; cases hr
      exact List.mem_append_right _ (List.mem_singleton.2 rfl)
    · rw [if_neg h1] at hq hr
      cases hq
      exact List.mem_append_left _ (List.mem_filter.2 ⟨foN_row hr, by simp; omega⟩)
abbrev rkE (l : List Task) (B : Bk) (F : Fo) (now : Int) (opn : Bool) (id : Nat) (es : List Event) : Heap := evO id es :: rkX l B F now opn
abbrev rkT (l : List Task) (B : Bk) (F : Fo) (now : Int) (opn : Bool) (t : Heap) : Heap :=
  (0, .blk 50 [.lst 7 (l.map eTask), .ptr 1 0, .part 8 0, .int .i64 now, .bool opn]) :: (1, .blk 53 [.lst 7 (l.map eTask), .own 5, .own 6]) ::
   (5, .row 71 8 (B.all.map eJob)) :: (6, .row 60 2 (B.overs.map eDue)) :: foA 8 F :: t
def rbgH (l : List Task) (B : Bk) (F : Fo) (now : Int) (y : Nat × List Event) (f : Bool) : Heap := rkT l B F now true [evO y.1 y.2]
def rfoH (l : List Task) (B : Bk) (now : Int) (es : List Event) (y : Fo) (f : Bool) : Heap := evO 21 es :: rkX l B y now true
def rblH (l : List Task) (F : Fo) (now : Int) (y : Bk) (f : Bool) : Heap := evO 21 [] :: rkX l y F now true
set_option maxHeartbeats 16000000 in
theorem rbegin_fn (l : List Task) (LL : List (List Int)) (B : Bk) (now : Int) (opn : Bool) (n : Nat) (hl : l.length ≤ 8) (h : RI l n now B LL) (hnow : 0 ≤ now ∧ now ≤ 1000000) (asks : List Int) (hn : n + asks.length ≤ 90000) :
    FnH Tryz.prog 18 [.ptr 0 0, .lst 1 (asks.map eI)] (rkX l B (foN LL) now opn)
    (fun r h' => r = .lst 5 ((if opn then [] else (rBegin l B LL now asks).es).map eEvent) ∧ h' = if opn then rkX l B (foN LL) now opn else rkX l (rBegin l B LL now asks).B (foN (rBegin l B LL now asks).LL) now true) := by
  refine FnH.drop' (fnhb Tryz.func18 (entered_of (by kernel_rfl)) rfl rfl ?_)
  cases opn
  case true =>
    repeat' (first | refine sA ?_ | ((first | apply kM | apply kN); (iterate 3 (· exact rfl)); (· first | exact ya)) | refine sG ?_ | (refine sK ?_ ?_ <;> intro hc <;> (try simp only [KL, sL, reduceCtorEq] at hc) <;> (try (have hT : True := hc; clear hT hc)) <;> (try (exfalso; omega))))
    refine retT (fun _ => turn_nil 5 (t := 4) rfl) ?_
    exact retq rfl ⟨rkX l B (foN LL) now true, leh, rfl, rfl⟩
  have c1 := rlateJ_fn l l B n h.good (by omega) now
  have eO : rBegin l B LL now asks = asks.foldl (rAsk l now) ⟨((List.range l.length).foldl (rTask l now) (rLate B now)).1, LL, ((List.range l.length).foldl (rTask l now) (rLate B now)).2⟩ := rfl
  have hlm := late_mem B now
  have hgl := h.good.late now (setL B.act) (setL B.act).length
  have hsl := setL_len B.act
  have eL : rLate B now = ((lateBk B now (setL B.act) (setL B.act).length).2, (lateBk B now (setL B.act) (setL B.act).length).1.map (lateE (lateBk B now (setL B.act) (setL B.act).length).2 now)) := rfl
  rw [if_neg (by decide), if_neg (by decide), eO]
  generalize hks : (lateBk B now (setL B.act) (setL B.act).length).1 = ks at *
  generalize hB1 : (lateBk B now (setL B.act) (setL B.act).length).2 = B1 at *
  obtain ⟨g1, g2, g3⟩ := hgl
  have hkl : ks.length ≤ 64 := by omega
  have hactE : ∀ k, k < ks.length → hasN B1.act (ks.getD k default) = true := fun k hk => by rw [g2]; exact hlm _ (getD_mem hk)
  repeat' (first | refine sB ?_ | ((first | apply kM | apply kN); (iterate 3 (· exact rfl)); (· first | exact ya)) | refine sG ?_ | (refine sK ?_ ?_ <;> intro hc <;> (try simp only [KL, sL, reduceCtorEq] at hc) <;> (try (have hT : True := hc; clear hT hc)) <;> (try (exfalso; omega))))
  refine wle (s' := [(0, .ptr 0 0), (1, .lst 1 (asks.map eI)), (5, .nils)]) (h' := rkX l B (foN LL) now true) les leh ?_
  refine wturn (turn_own eEvent (t := 5) rfl 21 68 5 (by omega) rfl) ?_
  refine wle (s' := [(0, .ptr 0 0), (1, .lst 1 (asks.map eI)), (5, .own 21)]) (h' := rblH l (foN LL) now B false) les (show LeH _ (evO 21 [] :: rkX l B (foN LL) now true) from leh) ?_
  refine wdrawQ (rblH l (foN LL) now) (fun _ => True) (fun _ => True) [8] [] 0 99 (nwR 8 [5, 6]) B (LeH.refl _) (by kernel_rfl) (by kernel_rfl) (by kernel_rfl) trivial trivial rfl rfl rfl rfl ?_
  refine qw_new (v := .ptr 0 0) rfl rfl (by kernel_rfl) (fun y hy => tn_ok ya) ?_
  repeat' (first | refine sA ?_ | ((first | apply kM | apply kN); (iterate 3 (· exact rfl)); (· first | exact ya)) | (show QW _ _ _ _ _ _ _ _ _ _ _ _ _ _ _; first | refine qw_nil ?_ | (apply qw_any; (· exact rfl); (· exact rfl); (· exact rfl); (· intro y' f' hy'; first | exact ya); (· first | exact rfl | kernel_rfl))) | refine sG ?_ | (refine sK ?_ ?_ <;> intro hc <;> (try simp only [KL, sL, reduceCtorEq] at hc) <;> (try (have hT : True := hc; clear hT hc)) <;> (try (exfalso; omega))))
  refine qw_tu (x' := B1) rfl rfl rfl trivial trivial (fun f hf => tl_call ρ1 c1 rfl (show LeH (evO 21 [] :: rkX l B (foN LL) now true) _ from leh) rfl rfl rfl rfl rfl rfl rfl rfl (show LeH _ (evO 21 [] :: rkX l B1 (foN LL) now true) from leh)) (by kernel_rfl) ?_
  repeat' (first | refine sA ?_ | ((first | apply kM | apply kN); (iterate 3 (· exact rfl)); (· first | exact ya)) | (show QW _ _ _ _ _ _ _ _ _ _ _ _ _ _ _; first | refine qw_nil ?_ | (apply qw_any; (· exact rfl); (· exact rfl); (· exact rfl); (· intro y' f' hy'; first | exact ya); (· first | exact rfl | kernel_rfl))) | refine sG ?_ | (refine sK ?_ ?_ <;> intro hc <;> (try simp only [KL, sL, reduceCtorEq] at hc) <;> (try (have hT : True := hc; clear hT hc)) <;> (try (exfalso; omega))))
  refine wloop (fun k : Nat => ([(0, .ptr 0 0), (1, .lst 1 (asks.map eI)), (5, .own 21), (29, .lst 1 (ks.map eI)), (30, .int .i64 ks.length), (31, .int .i64 k)], rkE l B1 (foN LL) now true 21 ((ks.take k).map (lateE B1 now)))) (fun k => k ≤ ks.length) (fun k => ks.length - k) 0 (Nat.zero_le _) les (show LeH _ (rkE l B1 (foN LL) now true 21 []) from leh) (fun k hk => ?_)
  rcases Nat.lt_or_eq_of_le hk with hkk | hkk
  · have hnx := map_next (lateE B1 now) ks hkk
    have hel : ((ks.take k).map (lateE B1 now)).length ≤ 64 := by rw [List.length_map, List.length_take]; omega
    have hha := hactE k hkk
    obtain ⟨p1, p2, p3, p4⟩ := g1.pos hha
    have c2 := ractive_fn l B1.all B1.overs (by have := g1.alen; omega) (ks.getD k default)
    rw [actI_good g1, hha, if_pos rfl] at c2
    have hev : lateE B1 now (ks.getD k default) = ⟨now, 4, ks.getD k default, (B1.all.getD (posB B1 (ks.getD k default)) default).no, 0⟩ := by rw [lateE, hha, if_pos rfl]; rfl
    rw [hev] at hnx
    generalize posB B1 (ks.getD k default) = p at *
    generalize (ks.take k).map (lateE B1 now) = es at hnx hel ⊢
    repeat' (first | refine sB ?_ | ((first | apply kM | apply kN); (iterate 3 (· exact rfl)); (· first | exact ya)) | refine sG ?_ | (refine sK ?_ ?_ <;> intro hc <;> (try simp only [KL, sL, reduceCtorEq] at hc) <;> (try (have hT : True := hc; clear hT hc)) <;> (try (exfalso; omega))))
    all_goals first | (exfalso; omega) | skip
    refine wturn (turn_ren (t := 5) (id := 21) (id2 := 20) rfl rfl rfl rfl rfl) ?_
    refine wle (s' := [(0, .ptr 0 0), (1, .lst 1 (asks.map eI)), (5, .own 20), (7, .int .i64 (ks.getD k default)), (29, .lst 1 (ks.map eI)), (30, .int .i64 ks.length), (31, .int .i64 k)]) (h' := rbgH l B1 (foN LL) now (20, es) false) les (show LeH _ (rkT l B1 (foN LL) now true [evO 20 es]) from leh) ?_
    refine wdrawQ (rbgH l B1 (foN LL) now) (fun _ => True) (fun _ => True) [18, 24] [] 0 99 (nwR 24 [21]) (20, es) (LeH.refl _) (by kernel_rfl) (by kernel_rfl) (by kernel_rfl) trivial trivial rfl rfl rfl rfl ?_
    refine qw_new (v := .own 20) rfl rfl (by kernel_rfl) (fun y hy => tn_ok ya) ?_
    repeat' (first | refine sA ?_ | ((first | apply kM | apply kN); (iterate 3 (· exact rfl)); (· first | exact ya)) | (show QW _ _ _ _ _ _ _ _ _ _ _ _ _ _ _; first | refine qw_nil ?_ | (apply qw_any; (· exact rfl); (· exact rfl); (· exact rfl); (· intro y' f' hy'; first | exact ya); (· first | exact rfl | kernel_rfl))) | refine sG ?_ | (refine sK ?_ ?_ <;> intro hc <;> (try simp only [KL, sL, reduceCtorEq] at hc) <;> (try (have hT : True := hc; clear hT hc)) <;> (try (exfalso; omega))))
    refine qw_tu (x' := (20, es)) rfl rfl rfl trivial trivial (fun f hf => tl_call ρ3 c2 rfl (show LeH (rkT l B1 (foN LL) now true [evO 20 es]) _ from leh) rfl rfl rfl rfl rfl rfl rfl rfl (show LeH _ (rkT l B1 (foN LL) now true [evO 20 es]) from leh)) (by kernel_rfl) ?_
    repeat' (first | refine sA ?_ | ((first | apply kM | apply kN); (iterate 3 (· exact rfl)); (· first | (show Y _ ⟨_, .indexAddr _ _ _, _, _, _, _⟩ _ _ _; first | exact q_ioE (p) rfl rfl rfl rfl rfl rfl (by omega) (by omega)) | exact ya)) | (show QW _ _ _ _ _ _ _ _ _ _ _ _ _ _ _; first | refine qw_nil ?_ | (apply qw_any; (· exact rfl); (· exact rfl); (· exact rfl); (· intro y' f' hy'; first | (show Y _ ⟨_, .indexAddr _ _ _, _, _, _, _⟩ _ _ _; first | exact q_ioE (p) rfl rfl rfl rfl rfl rfl (by omega) (by omega)) | exact ya); (· first | exact rfl | kernel_rfl))) | refine sG ?_ | (refine sK ?_ ?_ <;> intro hc <;> (try simp only [KL, sL, reduceCtorEq] at hc) <;> (try (have hT : True := hc; clear hT hc)) <;> (try (exfalso; omega))))
    refine qw_tu (x' := (21, es ++ [⟨now, 4, ks.getD k default, (B1.all.getD p default).no, 0⟩])) rfl rfl rfl trivial trivial (fun f hf => by
      show TuL _ _ _ _ (rkT l B1 (foN LL) now true [evO 20 es]) (rkT l B1 (foN LL) now true [evO 21 (es ++ [⟨now, 4, ks.getD k default, (B1.all.getD p default).no, 0⟩])]) _
      exact tl_ap (id := 20) (id2 := 21) (l := es) (f := eEvent) (sz := 5) (ys := [(⟨now, 4, ks.getD k default, (B1.all.getD p default).no, 0⟩ : Event)]) (by_ := 40) rfl rfl rfl rfl rfl rfl rfl rfl rfl rfl (fun _ _ => rfl) (by simp only [List.length_cons, List.length_nil]; omega) (by simp only [List.length_cons, List.length_nil]; omega) rfl rfl rfl rfl (show LeH _ (rkT l B1 (foN LL) now true [evO 21 (es ++ [⟨now, 4, ks.getD k default, (B1.all.getD p default).no, 0⟩])]) from leh)) (by kernel_rfl) ?_
    refine qw_any rfl rfl rfl (fun y f hy => ya) (by kernel_rfl) ?_
    refine qw_nil ?_
    apply kU
    apply kT
    refine wle (s' := [(0, .ptr 0 0), (1, .lst 1 (asks.map eI)), (5, .own 21), (29, .lst 1 (ks.map eI)), (30, .int .i64 ks.length), (31, .int .i64 k)]) (h' := rkE l B1 (foN LL) now true 21 (es ++ [⟨now, 4, ks.getD k default, (B1.all.getD p default).no, 0⟩])) les (show LeH (rkT l B1 (foN LL) now true [evO 21 (es ++ [⟨now, 4, ks.getD k default, (B1.all.getD p default).no, 0⟩])]) _ from leh) ?_
    repeat' (first | refine sA ?_ | ((first | apply kM | apply kN); (iterate 3 (· exact rfl)); (· first | exact ya)) | refine sG ?_ | (refine sK ?_ ?_ <;> intro hc <;> (try simp only [KL, sL, reduceCtorEq] at hc) <;> (try (have hT : True := hc; clear hT hc)) <;> (try (exfalso; omega))))
    exact ⟨k + 1, by omega, by omega, les, by simp only [hnx]; exact leh⟩
  subst hkk
  rw [List.take_length]
  rw [eL]
  have hel1 : (ks.map (lateE B1 now)).length ≤ 64 := by rw [List.length_map]; omega
  generalize ks.map (lateE B1 now) = es1 at *
  have eT0 : ∀ k, (List.range (k + 1)).foldl (rTask l now) (B1, es1) = rTask l now ((List.range k).foldl (rTask l now) (B1, es1)) k := fun k => by rw [List.range_succ, List.foldl_append]; rfl
  repeat' (first | refine sB ?_ | ((first | apply kM | apply kN); (iterate 3 (· exact rfl)); (· first | exact ya)) | refine sG ?_ | (refine sK ?_ ?_ <;> intro hc <;> (try simp only [KL, sL, reduceCtorEq] at hc) <;> (try (have hT : True := hc; clear hT hc)) <;> (try (exfalso; omega))))
  all_goals first | (exfalso; omega) | skip
  refine wloop (fun k : Nat => ([(0, .ptr 0 0), (1, .lst 1 (asks.map eI)), (5, .own 21), (64, .lst 7 (l.map eTask)), (65, .int .i64 l.length), (66, .int .i64 k)], rkE l ((List.range k).foldl (rTask l now) (B1, es1)).1 (foN LL) now true 21 ((List.range k).foldl (rTask l now) (B1, es1)).2)) (fun k => k ≤ l.length) (fun k => l.length - k) 0 (Nat.zero_le _) les (show LeH _ (rkE l B1 (foN LL) now true 21 es1) from leh) (fun k hk2 => ?_)
  rcases Nat.lt_or_eq_of_le hk2 with hkk | hkk
  · have hnx := eT0 k
    obtain ⟨hG, hE⟩ := rTask_good (now := now) (List.range k) (p := (B1, es1)) g1
    rw [List.length_range] at hG hE
    simp only at hE
    generalize (List.range k).foldl (rTask l now) (B1, es1) = p at hnx hG hE ⊢
    obtain ⟨B2, es⟩ := p
    simp only at hG hE
    have c3 := at27_fn (l.getD k default) now hnow.1
    cases hat : atB (l.getD k default) now <;> rw [hat] at c3
    · rw [rTask, if_neg (by rw [hat]; decide)] at hnx
      repeat' (first | refine sA ?_ | (show O _ _ _ _ _ _ _; first | refine ao_alloc (id := 13) rfl rfl rfl rfl rfl rfl rfl ?_) | ((first | apply kM | apply kN); (iterate 3 (· exact rfl)); (· first | exact ya | exact q_c (c3) rfl)) | refine sG ?_ | (refine sK ?_ ?_ <;> intro hc <;> (try simp only [KL, sL, reduceCtorEq] at hc) <;> (try (have hT : True := hc; clear hT hc)) <;> (try (exfalso; omega))))
      all_goals first | (exfalso; omega) | skip
      exact ⟨k + 1, by omega, by omega, les, by simp only [hnx]; exact (show LeH _ (rkE l B2 (foN LL) now true 21 es) from leh)⟩
    · rw [rTask, if_pos hat] at hnx
      have c4 := rrel29_fn l (foN LL) ⟨B2, [], [], now, true⟩ _ hG (by omega) k
      repeat' (first | refine sA ?_ | (show O _ _ _ _ _ _ _; first | refine ao_alloc (id := 13) rfl rfl rfl rfl rfl rfl rfl ?_) | ((first | apply kM | apply kN); (iterate 3 (· exact rfl)); (· first | exact ya | exact q_c (c3) rfl)) | refine sG ?_ | (refine sK ?_ ?_ <;> intro hc <;> (try simp only [KL, sL, reduceCtorEq] at hc) <;> (try (have hT : True := hc; clear hT hc)) <;> (try (exfalso; omega))))
      all_goals first | (exfalso; omega) | skip
      refine ole (s' := [(0, .ptr 0 0), (1, .lst 1 (asks.map eI)), (64, .lst 7 (l.map eTask)), (65, .int .i64 l.length), (66, .int .i64 k), (77, .own 21), (78, .ptr 0 0), (79, .int .i64 k)]) (h' := rkE l B2 (foN LL) now true 21 es) les leh ?_
      refine zcall (fun i => ρK i) (c4) rfl rfl leh (by kernel_rfl) (by kernel_rfl) (by kernel_rfl) (by kernel_rfl) rfl rfl (fun r h' hR => ?_)
      obtain ⟨rfl, rfl⟩ := hR
      refine ⟨rfl, rfl, ?_⟩
      refine ole (s' := [(0, .ptr 0 0), (1, .lst 1 (asks.map eI)), (64, .lst 7 (l.map eTask)), (65, .int .i64 l.length), (66, .int .i64 k), (77, .own 21), (80, .agg (eEvent (letB l B2 now k)))]) (h' := rkE l (relBk l B2 k now) (foN LL) now true 21 es) les leh ?_
      repeat' (first | refine sA ?_ | ((first | apply kM | apply kN); (iterate 3 (· exact rfl)); (· first | exact ya)) | refine sG ?_ | (refine sK ?_ ?_ <;> intro hc <;> (try simp only [KL, sL, reduceCtorEq] at hc) <;> (try (have hT : True := hc; clear hT hc)) <;> (try (exfalso; omega))))
      (refine ao_ap (id := 21) (ys := [letB l B2 now k]) (by_ := 40) rfl rfl rfl rfl rfl rfl rfl rfl rfl rfl (fun _ _ => rfl) ?_ ?_ rfl rfl rfl rfl rfl ?_; (· (first | omega | ((try simp only [List.length_cons, List.length_nil, List.length_append, List.length_map]) <;> omega))); (· (first | omega | ((try simp only [List.length_cons, List.length_nil, List.length_append, List.length_map]) <;> omega))))
      repeat' (first | refine sA ?_ | ((first | apply kM | apply kN); (iterate 3 (· exact rfl)); (· first | exact ya)) | refine sG ?_ | (refine sK ?_ ?_ <;> intro hc <;> (try simp only [KL, sL, reduceCtorEq] at hc) <;> (try (have hT : True := hc; clear hT hc)) <;> (try (exfalso; omega))))
      exact ⟨k + 1, by omega, by omega, les, by simp only [hnx]; exact (show LeH _ (rkE l (relBk l B2 k now) (foN LL) now true 21 (es ++ [letB l B2 now k])) from leh)⟩
  subst hkk
  have hT := rTask_good (now := now) (List.range l.length) (p := (B1, es1)) g1
  rw [List.length_range] at hT
  simp only at hT
  generalize (List.range l.length).foldl (rTask l now) (B1, es1) = p2 at hT ⊢
  obtain ⟨B2, es2⟩ := p2
  simp only at hT ⊢
  obtain ⟨hG2, hE2⟩ := hT
  have hR2 : RI l (n + l.length) now B2 LL := ⟨hG2, h.len, fun r hr => ⟨Nat.le_trans (h.rows r hr).1 (by omega), (h.rows r hr).2⟩⟩
  repeat' (first | refine sB ?_ | ((first | apply kM | apply kN); (iterate 3 (· exact rfl)); (· first | exact ya)) | refine sG ?_ | (refine sK ?_ ?_ <;> intro hc <;> (try simp only [KL, sL, reduceCtorEq] at hc) <;> (try (have hT : True := hc; clear hT hc)) <;> (try (exfalso; omega))))
  all_goals first | (exfalso; omega) | skip
  refine wloop (fun k : Nat => ([(0, .ptr 0 0), (5, .own 21), (84, .lst 1 (asks.map eI)), (85, .int .i64 asks.length), (86, .int .i64 k)], rkE l ((asks.take k).foldl (rAsk l now) ⟨B2, LL, es2⟩).B (foN ((asks.take k).foldl (rAsk l now) ⟨B2, LL, es2⟩).LL) now true 21 ((asks.take k).foldl (rAsk l now) ⟨B2, LL, es2⟩).es)) (fun k => k ≤ asks.length) (fun k => asks.length - k) 0 (Nat.zero_le _) les (show LeH _ (rkE l B2 (foN LL) now true 21 es2) from leh) (fun k hk3 => ?_)
  rcases Nat.lt_or_eq_of_le hk3 with hkk | hkk
  · have hnx := fold_next (rAsk l now) ⟨B2, LL, es2⟩ asks hkk
    have hI := RI.asks (l := l) hnow.1 (asks.take k) (p := ⟨B2, LL, es2⟩) hR2
    have hE := rAsk_len (l := l) (now := now) (asks.take k) ⟨B2, LL, es2⟩
    rw [List.length_take, Nat.min_eq_left (by omega)] at hI hE
    generalize (asks.take k).foldl (rAsk l now) ⟨B2, LL, es2⟩ = q at hnx hI hE ⊢
    obtain ⟨B3, L3, es⟩ := q
    simp only at hI hE ⊢
    obtain ⟨i1, i2, i3⟩ := hI
    obtain ⟨i, hi⟩ : ∃ i, i = asks.getD k default := ⟨_, rfl⟩
    rw [← hi] at hnx
    by_cases hir : 0 ≤ i ∧ i < l.length
    case neg =>
      have hq : rpQ l L3 now i = false := by rw [rpQ, decide_eq_false hir]; rfl
      rw [rAsk, if_neg (by rw [hq]; decide)] at hnx
      repeat' (first | refine sB ?_ | ((first | apply kM | apply kN); (iterate 3 (· exact rfl)); (· first | exact ya)) | refine sG ?_ | (refine sK ?_ ?_ <;> intro hc <;> (try simp only [KL, sL, reduceCtorEq] at hc) <;> (try (have hT : True := hc; clear hT hc)) <;> (try (exfalso; omega))))
      all_goals first | (exfalso; omega) | skip
      all_goals
        rw [← hi]
        (refine ao_ap (id := 21) (ys := [(⟨now, 2, i, 0, 0⟩ : Event)]) (by_ := 40) rfl rfl rfl rfl rfl rfl rfl rfl rfl rfl (fun _ _ => rfl) ?_ ?_ rfl rfl rfl rfl rfl ?_; (· (first | omega | ((try simp only [List.length_cons, List.length_nil, List.length_append, List.length_map]) <;> omega))); (· (first | omega | ((try simp only [List.length_cons, List.length_nil, List.length_append, List.length_map]) <;> omega))))
        repeat' (first | refine sA ?_ | ((first | apply kM | apply kN); (iterate 3 (· exact rfl)); (· first | exact ya)) | refine sG ?_ | (refine sK ?_ ?_ <;> intro hc <;> (try simp only [KL, sL, reduceCtorEq] at hc) <;> (try (have hT : True := hc; clear hT hc)) <;> (try (exfalso; omega))))
        exact ⟨k + 1, by omega, by omega, les, by simp only [hnx]; exact (show LeH _ (rkE l B3 (foN L3) now true 21 (es ++ [(⟨now, 2, i, 0, 0⟩ : Event)])) from leh)⟩
    by_cases hkd : (l.getD i.toNat default).kind = 2
    case neg =>
      have hq : rpQ l L3 now i = false := by rw [rpQ, decide_eq_true hir, decide_eq_false hkd]; rfl
      rw [rAsk, if_neg (by rw [hq]; decide)] at hnx
      rw [hi] at hir hkd
      repeat' (first | refine sB ?_ | ((first | apply kM | apply kN); (iterate 3 (· exact rfl)); (· first | exact ya)) | refine sG ?_ | (refine sK ?_ ?_ <;> intro hc <;> (try simp only [KL, sL, reduceCtorEq] at hc) <;> (try (have hT : True := hc; clear hT hc)) <;> (try (exfalso; omega))))
      all_goals first | (exfalso; omega) | skip
      all_goals
        rw [← hi]
        (refine ao_ap (id := 21) (ys := [(⟨now, 2, i, 0, 0⟩ : Event)]) (by_ := 40) rfl rfl rfl rfl rfl rfl rfl rfl rfl rfl (fun _ _ => rfl) ?_ ?_ rfl rfl rfl rfl rfl ?_; (· (first | omega | ((try simp only [List.length_cons, List.length_nil, List.length_append, List.length_map]) <;> omega))); (· (first | omega | ((try simp only [List.length_cons, List.length_nil, List.length_append, List.length_map]) <;> omega))))
        repeat' (first | refine sA ?_ | ((first | apply kM | apply kN); (iterate 3 (· exact rfl)); (· first | exact ya)) | refine sG ?_ | (refine sK ?_ ?_ <;> intro hc <;> (try simp only [KL, sL, reduceCtorEq] at hc) <;> (try (have hT : True := hc; clear hT hc)) <;> (try (exfalso; omega))))
        exact ⟨k + 1, by omega, by omega, les, by simp only [hnx]; exact (show LeH _ (rkE l B3 (foN L3) now true 21 (es ++ [(⟨now, 2, i, 0, 0⟩ : Event)])) from leh)⟩
    subst hi
    obtain ⟨r, hr⟩ : ∃ r, r = L3.getD (asks.getD k default).toNat [] := ⟨_, rfl⟩
    have hil : (asks.getD k default).toNat < L3.length := by omega
    have hrow : L3[(asks.getD k default).toNat]? = some r := by rw [hr]; exact getD_row hil
    have hrm := i3 r (List.mem_of_getElem? hrow)
    have hrq : rpQ l L3 now (asks.getD k default) = match r.getLast? with | none => true | some v => decide ((l.getD (asks.getD k default).toNat default).period ≤ now - v) := by
      rw [rpQ, decide_eq_true hir, decide_eq_true hkd, ← hr]; rfl
    cases hq : rpQ l L3 now (asks.getD k default)
    case false =>
      rw [rAsk, if_neg (by rw [hq]; decide)] at hnx
      rcases List.eq_nil_or_concat r with hnil | ⟨r0, v, hcat⟩
      · rw [hq, hnil] at hrq; cases hrq
      · have hlast : r[r0.length]? = some v := by rw [hcat]; simp
        have hlen : r.length = r0.length + 1 := by rw [hcat]; simp
        rw [hq, hcat, List.concat_eq_append, List.getLast?_concat] at hrq
        simp only at hrq
        have hrq := of_decide_eq_false hrq.symm
        have hv := hrm.2 v (by rw [hcat]; simp)
        repeat' (first | refine sB ?_ | ((first | apply kM | apply kN); (iterate 3 (· exact rfl)); (· first | exact ya | exact Y.mk (ok_idxF (asks.getD k default).toNat rfl rfl rfl rfl rfl rfl rfl (by omega) (by rw [List.length_range']; omega)) | exact Y.mk (ok_ldF ((asks.getD k default).toNat + 1) rfl rfl rfl rfl (foN_at (by omega)) rfl Nat.zero_lt_one) | exact Y.mk (ok_lenR r rfl rfl rfl rfl (foN_row hrow)))) | refine sG ?_ | (refine sK ?_ ?_ <;> intro hc <;> (try simp only [KL, sL, reduceCtorEq] at hc) <;> (try (have hT : True := hc; clear hT hc)) <;> (try (exfalso; omega))))
        all_goals first | (exfalso; omega) | skip
        refine kI (by kernel_rfl) (by kernel_rfl) ?_
        repeat' (first | refine sB ?_ | ((first | apply kM | apply kN); (iterate 3 (· exact rfl)); (· first | exact ya | exact Y.mk (ok_idxF (asks.getD k default).toNat rfl rfl rfl rfl rfl rfl rfl (by omega) (by rw [List.length_range']; omega)) | exact Y.mk (ok_ldF ((asks.getD k default).toNat + 1) rfl rfl rfl rfl (foN_at (by omega)) rfl Nat.zero_lt_one) | exact Y.mk (ok_lenR r rfl rfl rfl rfl (foN_row hrow)) | exact Y.mk (ok_idxR r r0.length rfl rfl rfl rfl rfl (foN_row hrow) rfl (by omega) (by omega)) | exact Y.mk (ok_ldR r v rfl rfl rfl (foN_row hrow) hlast rfl Nat.zero_lt_one))) | refine sG ?_ | (refine sK ?_ ?_ <;> intro hc <;> (try simp only [KL, sL, reduceCtorEq] at hc) <;> (try (have hT : True := hc; clear hT hc)) <;> (try (exfalso; omega))))
        all_goals first | (exfalso; omega) | skip
        refine kI (by kernel_rfl) (by kernel_rfl) ?_
        repeat' (first | refine sB ?_ | ((first | apply kM | apply kN); (iterate 3 (· exact rfl)); (· first | exact ya | exact Y.mk (ok_idxF (asks.getD k default).toNat rfl rfl rfl rfl rfl rfl rfl (by omega) (by rw [List.length_range']; omega)) | exact Y.mk (ok_ldF ((asks.getD k default).toNat + 1) rfl rfl rfl rfl (foN_at (by omega)) rfl Nat.zero_lt_one) | exact Y.mk (ok_lenR r rfl rfl rfl rfl (foN_row hrow)) | exact Y.mk (ok_idxR r r0.length rfl rfl rfl rfl rfl (foN_row hrow) rfl (by omega) (by omega)) | exact Y.mk (ok_ldR r v rfl rfl rfl (foN_row hrow) hlast rfl Nat.zero_lt_one))) | refine sG ?_ | (refine sK ?_ ?_ <;> intro hc <;> (try simp only [KL, sL, reduceCtorEq] at hc) <;> (try (have hT : True := hc; clear hT hc)) <;> (try (exfalso; omega))))
        all_goals first | (exfalso; omega) | skip
        (refine ao_ap (id := 21) (ys := [(⟨now, 2, (asks.getD k default), 0, 0⟩ : Event)]) (by_ := 40) rfl rfl rfl rfl rfl rfl rfl rfl rfl rfl (fun _ _ => rfl) ?_ ?_ rfl rfl rfl rfl rfl ?_; (· (first | omega | ((try simp only [List.length_cons, List.length_nil, List.length_append, List.length_map]) <;> omega))); (· (first | omega | ((try simp only [List.length_cons, List.length_nil, List.length_append, List.length_map]) <;> omega))))
        repeat' (first | refine sA ?_ | ((first | apply kM | apply kN); (iterate 3 (· exact rfl)); (· first | exact ya)) | refine sG ?_ | (refine sK ?_ ?_ <;> intro hc <;> (try simp only [KL, sL, reduceCtorEq] at hc) <;> (try (have hT : True := hc; clear hT hc)) <;> (try (exfalso; omega))))
        exact ⟨k + 1, by omega, by omega, les, by simp only [hnx]; exact (show LeH _ (rkE l B3 (foN L3) now true 21 (es ++ [(⟨now, 2, (asks.getD k default), 0, 0⟩ : Event)])) from leh)⟩
    case true =>
      rw [rAsk, if_pos hq] at hnx
      simp only at hnx
      rw [← hr] at hnx
      have c5 := rrel29_fn l (foN (L3.set (asks.getD k default).toNat (r ++ [now]))) ⟨B3, [], [], now, true⟩ _ i1 (by omega) (asks.getD k default)
      rcases List.eq_nil_or_concat r with hnil | ⟨r0, v, hcat⟩
      · have hlen0 : r.length = 0 := by rw [hnil]; rfl
        repeat' (first | refine sB ?_ | ((first | apply kM | apply kN); (iterate 3 (· exact rfl)); (· first | exact ya | exact Y.mk (ok_idxF (asks.getD k default).toNat rfl rfl rfl rfl rfl rfl rfl (by omega) (by rw [List.length_range']; omega)) | exact Y.mk (ok_ldF ((asks.getD k default).toNat + 1) rfl rfl rfl rfl (foN_at (by omega)) rfl Nat.zero_lt_one) | exact Y.mk (ok_lenR r rfl rfl rfl rfl (foN_row hrow)))) | refine sG ?_ | (refine sK ?_ ?_ <;> intro hc <;> (try simp only [KL, sL, reduceCtorEq] at hc) <;> (try (have hT : True := hc; clear hT hc)) <;> (try (exfalso; omega))))
        all_goals first | (exfalso; omega) | skip
        refine wle (s' := [(0, .ptr 0 0), (5, .own 21), (11, .int .i64 (asks.getD k default)), (84, .lst 1 (asks.map eI)), (85, .int .i64 asks.length), (86, .int .i64 k)]) (h' := rfoH l B3 now es (foN L3) false) les (show LeH _ (evO 21 es :: rkX l B3 (foN L3) now true) from leh) ?_
        refine wdrawQ (rfoH l B3 now es) (fun y => ∃ a, y.cont = .arr a ∧ a.length = L3.length) (fun _ => True) [17, 19] [11] 0 99 (fun _ => []) (foN L3) (LeH.refl _) (by kernel_rfl) (by kernel_rfl) (by kernel_rfl) ⟨_, rfl, List.length_range'⟩ trivial rfl rfl rfl rfl ?_
        refine qw_new (v := .ptr 0 0) rfl rfl (by kernel_rfl) (fun y hy => tn_ok ya) ?_
        repeat' (first | refine sA ?_ | ((first | apply kM | apply kN); (iterate 3 (· exact rfl)); (· first | exact ya)) | (show QW _ _ _ _ _ _ _ _ _ _ _ _ _ _ _; first | refine qw_nil ?_ | (apply qw_any; (· exact rfl); (· exact rfl); (· exact rfl); (· intro y' f' hy'; first | exact ya); (· first | exact rfl | kernel_rfl))) | refine sG ?_ | (refine sK ?_ ?_ <;> intro hc <;> (try simp only [KL, sL, reduceCtorEq] at hc) <;> (try (have hT : True := hc; clear hT hc)) <;> (try (exfalso; omega))))
        refine qw_any (v := .pptr 8 0 (asks.getD k default).toNat) rfl rfl rfl (fun y f hy => Y.mk (by obtain ⟨a, h1, h2⟩ := hy; exact ok_idxF (asks.getD k default).toNat rfl rfl rfl rfl rfl h1 rfl (by omega) (by omega))) (by kernel_rfl) ?_
        refine qw_ld (v := .part 8 ((asks.getD k default).toNat + 1)) rfl rfl rfl rfl (fun f hf => Y.mk (ok_ldF (F := foN L3) ((asks.getD k default).toNat + 1) rfl rfl rfl rfl (foN_at (by omega)) rfl Nat.zero_lt_one)) (by kernel_rfl) ?_
        repeat' (first | refine sA ?_ | ((first | apply kM | apply kN); (iterate 3 (· exact rfl)); (· first | exact ya)) | (show QW _ _ _ _ _ _ _ _ _ _ _ _ _ _ _; first | refine qw_nil ?_ | (apply qw_any; (· exact rfl); (· exact rfl); (· exact rfl); (· intro y' f' hy'; first | exact ya); (· first | exact rfl | kernel_rfl))) | refine sG ?_ | (refine sK ?_ ?_ <;> intro hc <;> (try simp only [KL, sL, reduceCtorEq] at hc) <;> (try (have hT : True := hc; clear hT hc)) <;> (try (exfalso; omega))))
        refine qw_tu (x' := (foN L3).app ((asks.getD k default).toNat + 1) r now) rfl rfl rfl ⟨_, rfl, List.length_range'⟩ trivial (fun f hf => tl_apF (N := 8) (F := foN L3) (by_ := 8) r now rfl rfl rfl (foN_row hrow) rfl rfl rfl rfl rfl rfl (by omega) (by omega) rfl (show LeH _ (evO 21 es :: rkX l B3 ((foN L3).app ((asks.getD k default).toNat + 1) r now) now true) from leh)) (by kernel_rfl) ?_
        refine qw_any (v := .pptr 8 0 (asks.getD k default).toNat) rfl rfl rfl (fun y f hy => Y.mk (by obtain ⟨a, h1, h2⟩ := hy; exact ok_idxF (asks.getD k default).toNat rfl rfl rfl rfl rfl h1 rfl (by omega) (by omega))) (by kernel_rfl) ?_
        refine qw_tu (x' := foG L3 (asks.getD k default).toNat now) rfl rfl rfl ⟨_, rfl, by rw [List.length_set, List.length_range']⟩ trivial (fun f hf => ((tu_st (sto_F (F := (foN L3).app ((asks.getD k default).toNat + 1) r now) (j := (asks.getD k default).toNat) rfl rfl rfl rfl (by rw [List.length_range']; omega) rfl rfl) rfl).post (show LeH _ (evO 21 es :: rkX l B3 (foG L3 (asks.getD k default).toNat now) now true) from by rw [foG, ← hr]; exact leh)).toL) (by kernel_rfl) ?_
        refine qw_nil ?_
        apply kT
        refine wturn (turn_norm (N := 8) (L3.set (asks.getD k default).toNat (L3.getD (asks.getD k default).toNat [] ++ [now])) ((List.range' 1 L3.length).set (asks.getD k default).toNat (L3.length + 1)) rfl (foG_shows hil now) rfl rfl) ?_
        rw [← hr]
        refine wle (s' := [(0, .ptr 0 0), (5, .own 21), (11, .int .i64 (asks.getD k default)), (84, .lst 1 (asks.map eI)), (85, .int .i64 asks.length), (86, .int .i64 k)]) (h' := rkE l B3 (foN (L3.set (asks.getD k default).toNat (r ++ [now]))) now true 21 es) les leh ?_
        repeat' (first | refine sA ?_ | ((first | apply kM | apply kN); (iterate 3 (· exact rfl)); (· first | exact ya)) | refine sG ?_ | (refine sK ?_ ?_ <;> intro hc <;> (try simp only [KL, sL, reduceCtorEq] at hc) <;> (try (have hT : True := hc; clear hT hc)) <;> (try (exfalso; omega))))
        refine zcall (fun i => ρK i) (c5) rfl rfl leh (by kernel_rfl) (by kernel_rfl) (by kernel_rfl) (by kernel_rfl) rfl rfl (fun r h' hR => ?_)
        obtain ⟨rfl, rfl⟩ := hR
        refine ⟨rfl, rfl, ?_⟩
        refine ole (s' := [(0, .ptr 0 0), (84, .lst 1 (asks.map eI)), (85, .int .i64 asks.length), (86, .int .i64 k), (177, .own 21), (180, .agg (eEvent (letB l B3 now (asks.getD k default))))]) (h' := rkE l (relBk l B3 (asks.getD k default) now) (foN (L3.set (asks.getD k default).toNat (r ++ [now]))) now true 21 es) les leh ?_
        repeat' (first | refine sA ?_ | ((first | apply kM | apply kN); (iterate 3 (· exact rfl)); (· first | exact ya)) | refine sG ?_ | (refine sK ?_ ?_ <;> intro hc <;> (try simp only [KL, sL, reduceCtorEq] at hc) <;> (try (have hT : True := hc; clear hT hc)) <;> (try (exfalso; omega))))
        (refine ao_ap (id := 21) (ys := [letB l B3 now (asks.getD k default)]) (by_ := 40) rfl rfl rfl rfl rfl rfl rfl rfl rfl rfl (fun _ _ => rfl) ?_ ?_ rfl rfl rfl rfl rfl ?_; (· (first | omega | ((try simp only [List.length_cons, List.length_nil, List.length_append, List.length_map]) <;> omega))); (· (first | omega | ((try simp only [List.length_cons, List.length_nil, List.length_append, List.length_map]) <;> omega))))
        repeat' (first | refine sA ?_ | ((first | apply kM | apply kN); (iterate 3 (· exact rfl)); (· first | exact ya)) | refine sG ?_ | (refine sK ?_ ?_ <;> intro hc <;> (try simp only [KL, sL, reduceCtorEq] at hc) <;> (try (have hT : True := hc; clear hT hc)) <;> (try (exfalso; omega))))
        exact ⟨k + 1, by omega, by omega, les, by simp only [hnx]; exact (show LeH _ (rkE l (relBk l B3 (asks.getD k default) now) (foN (L3.set (asks.getD k default).toNat (r ++ [now]))) now true 21 (es ++ [letB l B3 now (asks.getD k default)])) from leh)⟩
      · have hlast : r[r0.length]? = some v := by rw [hcat]; simp
        have hlen : r.length = r0.length + 1 := by rw [hcat]; simp
        rw [hq, hcat, List.concat_eq_append, List.getLast?_concat] at hrq
        simp only at hrq
        have hrq := of_decide_eq_true hrq.symm
        have hv := hrm.2 v (by rw [hcat]; simp)
        repeat' (first | refine sB ?_ | ((first | apply kM | apply kN); (iterate 3 (· exact rfl)); (· first | exact ya | exact Y.mk (ok_idxF (asks.getD k default).toNat rfl rfl rfl rfl rfl rfl rfl (by omega) (by rw [List.length_range']; omega)) | exact Y.mk (ok_ldF ((asks.getD k default).toNat + 1) rfl rfl rfl rfl (foN_at (by omega)) rfl Nat.zero_lt_one) | exact Y.mk (ok_lenR r rfl rfl rfl rfl (foN_row hrow)))) | refine sG ?_ | (refine sK ?_ ?_ <;> intro hc <;> (try simp only [KL, sL, reduceCtorEq] at hc) <;> (try (have hT : True := hc; clear hT hc)) <;> (try (exfalso; omega))))
        all_goals first | (exfalso; omega) | skip
        refine kI (by kernel_rfl) (by kernel_rfl) ?_
        repeat' (first | refine sB ?_ | ((first | apply kM | apply kN); (iterate 3 (· exact rfl)); (· first | exact ya | exact Y.mk (ok_idxF (asks.getD k default).toNat rfl rfl rfl rfl rfl rfl rfl (by omega) (by rw [List.length_range']; omega)) | exact Y.mk (ok_ldF ((asks.getD k default).toNat + 1) rfl rfl rfl rfl (foN_at (by omega)) rfl Nat.zero_lt_one) | exact Y.mk (ok_lenR r rfl rfl rfl rfl (foN_row hrow)) | exact Y.mk (ok_idxR r r0.length rfl rfl rfl rfl rfl (foN_row hrow) rfl (by omega) (by omega)) | exact Y.mk (ok_ldR r v rfl rfl rfl (foN_row hrow) hlast rfl Nat.zero_lt_one))) | refine sG ?_ | (refine sK ?_ ?_ <;> intro hc <;> (try simp only [KL, sL, reduceCtorEq] at hc) <;> (try (have hT : True := hc; clear hT hc)) <;> (try (exfalso; omega))))
        all_goals first | (exfalso; omega) | skip
        refine kI (by kernel_rfl) (by kernel_rfl) ?_
        repeat' (first | refine sB ?_ | ((first | apply kM | apply kN); (iterate 3 (· exact rfl)); (· first | exact ya | exact Y.mk (ok_idxF (asks.getD k default).toNat rfl rfl rfl rfl rfl rfl rfl (by omega) (by rw [List.length_range']; omega)) | exact Y.mk (ok_ldF ((asks.getD k default).toNat + 1) rfl rfl rfl rfl (foN_at (by omega)) rfl Nat.zero_lt_one) | exact Y.mk (ok_lenR r rfl rfl rfl rfl (foN_row hrow)) | exact Y.mk (ok_idxR r r0.length rfl rfl rfl rfl rfl (foN_row hrow) rfl (by omega) (by omega)) | exact Y.mk (ok_ldR r v rfl rfl rfl (foN_row hrow) hlast rfl Nat.zero_lt_one))) | refine sG ?_ | (refine sK ?_ ?_ <;> intro hc <;> (try simp only [KL, sL, reduceCtorEq] at hc) <;> (try (have hT : True := hc; clear hT hc)) <;> (try (exfalso; omega))))
        all_goals first | (exfalso; omega) | skip
        refine wle (s' := [(0, .ptr 0 0), (5, .own 21), (11, .int .i64 (asks.getD k default)), (84, .lst 1 (asks.map eI)), (85, .int .i64 asks.length), (86, .int .i64 k)]) (h' := rfoH l B3 now es (foN L3) false) les (show LeH _ (evO 21 es :: rkX l B3 (foN L3) now true) from leh) ?_
        refine wdrawQ (rfoH l B3 now es) (fun y => ∃ a, y.cont = .arr a ∧ a.length = L3.length) (fun _ => True) [17, 19] [11] 0 99 (fun _ => []) (foN L3) (LeH.refl _) (by kernel_rfl) (by kernel_rfl) (by kernel_rfl) ⟨_, rfl, List.length_range'⟩ trivial rfl rfl rfl rfl ?_
        refine qw_new (v := .ptr 0 0) rfl rfl (by kernel_rfl) (fun y hy => tn_ok ya) ?_
        repeat' (first | refine sA ?_ | ((first | apply kM | apply kN); (iterate 3 (· exact rfl)); (· first | exact ya)) | (show QW _ _ _ _ _ _ _ _ _ _ _ _ _ _ _; first | refine qw_nil ?_ | (apply qw_any; (· exact rfl); (· exact rfl); (· exact rfl); (· intro y' f' hy'; first | exact ya); (· first | exact rfl | kernel_rfl))) | refine sG ?_ | (refine sK ?_ ?_ <;> intro hc <;> (try simp only [KL, sL, reduceCtorEq] at hc) <;> (try (have hT : True := hc; clear hT hc)) <;> (try (exfalso; omega))))
        refine qw_any (v := .pptr 8 0 (asks.getD k default).toNat) rfl rfl rfl (fun y f hy => Y.mk (by obtain ⟨a, h1, h2⟩ := hy; exact ok_idxF (asks.getD k default).toNat rfl rfl rfl rfl rfl h1 rfl (by omega) (by omega))) (by kernel_rfl) ?_
        refine qw_ld (v := .part 8 ((asks.getD k default).toNat + 1)) rfl rfl rfl rfl (fun f hf => Y.mk (ok_ldF (F := foN L3) ((asks.getD k default).toNat + 1) rfl rfl rfl rfl (foN_at (by omega)) rfl Nat.zero_lt_one)) (by kernel_rfl) ?_
        repeat' (first | refine sA ?_ | ((first | apply kM | apply kN); (iterate 3 (· exact rfl)); (· first | exact ya)) | (show QW _ _ _ _ _ _ _ _ _ _ _ _ _ _ _; first | refine qw_nil ?_ | (apply qw_any; (· exact rfl); (· exact rfl); (· exact rfl); (· intro y' f' hy'; first | exact ya); (· first | exact rfl | kernel_rfl))) | refine sG ?_ | (refine sK ?_ ?_ <;> intro hc <;> (try simp only [KL, sL, reduceCtorEq] at hc) <;> (try (have hT : True := hc; clear hT hc)) <;> (try (exfalso; omega))))
        refine qw_tu (x' := (foN L3).app ((asks.getD k default).toNat + 1) r now) rfl rfl rfl ⟨_, rfl, List.length_range'⟩ trivial (fun f hf => tl_apF (N := 8) (F := foN L3) (by_ := 8) r now rfl rfl rfl (foN_row hrow) rfl rfl rfl rfl rfl rfl (by omega) (by omega) rfl (show LeH _ (evO 21 es :: rkX l B3 ((foN L3).app ((asks.getD k default).toNat + 1) r now) now true) from leh)) (by kernel_rfl) ?_
        refine qw_any (v := .pptr 8 0 (asks.getD k default).toNat) rfl rfl rfl (fun y f hy => Y.mk (by obtain ⟨a, h1, h2⟩ := hy; exact ok_idxF (asks.getD k default).toNat rfl rfl rfl rfl rfl h1 rfl (by omega) (by omega))) (by kernel_rfl) ?_
        refine qw_tu (x' := foG L3 (asks.getD k default).toNat now) rfl rfl rfl ⟨_, rfl, by rw [List.length_set, List.length_range']⟩ trivial (fun f hf => ((tu_st (sto_F (F := (foN L3).app ((asks.getD k default).toNat + 1) r now) (j := (asks.getD k default).toNat) rfl rfl rfl rfl (by rw [List.length_range']; omega) rfl rfl) rfl).post (show LeH _ (evO 21 es :: rkX l B3 (foG L3 (asks.getD k default).toNat now) now true) from by rw [foG, ← hr]; exact leh)).toL) (by kernel_rfl) ?_
        refine qw_nil ?_
        apply kT
        refine wturn (turn_norm (N := 8) (L3.set (asks.getD k default).toNat (L3.getD (asks.getD k default).toNat [] ++ [now])) ((List.range' 1 L3.length).set (asks.getD k default).toNat (L3.length + 1)) rfl (foG_shows hil now) rfl rfl) ?_
        rw [← hr]
        refine wle (s' := [(0, .ptr 0 0), (5, .own 21), (11, .int .i64 (asks.getD k default)), (84, .lst 1 (asks.map eI)), (85, .int .i64 asks.length), (86, .int .i64 k)]) (h' := rkE l B3 (foN (L3.set (asks.getD k default).toNat (r ++ [now]))) now true 21 es) les leh ?_
        repeat' (first | refine sA ?_ | ((first | apply kM | apply kN); (iterate 3 (· exact rfl)); (· first | exact ya)) | refine sG ?_ | (refine sK ?_ ?_ <;> intro hc <;> (try simp only [KL, sL, reduceCtorEq] at hc) <;> (try (have hT : True := hc; clear hT hc)) <;> (try (exfalso; omega))))
        refine zcall (fun i => ρK i) (c5) rfl rfl leh (by kernel_rfl) (by kernel_rfl) (by kernel_rfl) (by kernel_rfl) rfl rfl (fun r h' hR => ?_)
        obtain ⟨rfl, rfl⟩ := hR
        refine ⟨rfl, rfl, ?_⟩
        refine ole (s' := [(0, .ptr 0 0), (84, .lst 1 (asks.map eI)), (85, .int .i64 asks.length), (86, .int .i64 k), (177, .own 21), (180, .agg (eEvent (letB l B3 now (asks.getD k default))))]) (h' := rkE l (relBk l B3 (asks.getD k default) now) (foN (L3.set (asks.getD k default).toNat (r ++ [now]))) now true 21 es) les leh ?_
        repeat' (first | refine sA ?_ | ((first | apply kM | apply kN); (iterate 3 (· exact rfl)); (· first | exact ya)) | refine sG ?_ | (refine sK ?_ ?_ <;> intro hc <;> (try simp only [KL, sL, reduceCtorEq] at hc) <;> (try (have hT : True := hc; clear hT hc)) <;> (try (exfalso; omega))))
        (refine ao_ap (id := 21) (ys := [letB l B3 now (asks.getD k default)]) (by_ := 40) rfl rfl rfl rfl rfl rfl rfl rfl rfl rfl (fun _ _ => rfl) ?_ ?_ rfl rfl rfl rfl rfl ?_; (· (first | omega | ((try simp only [List.length_cons, List.length_nil, List.length_append, List.length_map]) <;> omega))); (· (first | omega | ((try simp only [List.length_cons, List.length_nil, List.length_append, List.length_map]) <;> omega))))
        repeat' (first | refine sA ?_ | ((first | apply kM | apply kN); (iterate 3 (· exact rfl)); (· first | exact ya)) | refine sG ?_ | (refine sK ?_ ?_ <;> intro hc <;> (try simp only [KL, sL, reduceCtorEq] at hc) <;> (try (have hT : True := hc; clear hT hc)) <;> (try (exfalso; omega))))
        exact ⟨k + 1, by omega, by omega, les, by simp only [hnx]; exact (show LeH _ (rkE l (relBk l B3 (asks.getD k default) now) (foN (L3.set (asks.getD k default).toNat (r ++ [now]))) now true 21 (es ++ [letB l B3 now (asks.getD k default)])) from leh)⟩
  · subst hkk
    rw [List.take_length]
    repeat' (first | refine sA ?_ | ((first | apply kM | apply kN); (iterate 3 (· exact rfl)); (· first | exact ya)) | refine sG ?_ | (refine sK ?_ ?_ <;> intro hc <;> (try simp only [KL, sL, reduceCtorEq] at hc) <;> (try (have hT : True := hc; clear hT hc)) <;> (try (exfalso; omega))))
    all_goals first | (exfalso; omega) | skip
    refine retT (fun _ => turn_freeze (t := 4) rfl rfl rfl) ?_
    exact retq rfl ⟨rkX l (asks.foldl (rAsk l now) ⟨B2, LL, es2⟩).B (foN (asks.foldl (rAsk l now) ⟨B2, LL, es2⟩).LL) now true, leh, rfl, rfl⟩
end Go.Proofs.YtfjoaeghnfkdlaaGreatDoor
namespace Go.Proofs.YtfjoaeghnfkdlaaGreatDoor
set_option maxRecDepth 100000
set_option maxRecDepth 100000
open Go.RowKit
def rHad (l : List Task) (B : Bk) : Int := if 0 ≤ rpickTo l B l.length then (jobAt B (rpickTo l B l.length)).steps else 0
def rEnded (l : List Task) (dm : List (List Int)) (B : Bk) : Bool := decide (0 ≤ rpickTo l B l.length) && decide (stepsK dm (rpickTo l B l.length) (jobAt B (rpickTo l B l.length)).no ≤ rHad l B + 1)
def rTick (l : List Task) (asks : List Due) (dm : List (List Int)) (p : Rk) (t : Nat) : Rk :=
  let b := rBegin l p.B p.LL t (asksAt asks t)
  ⟨rendB l b.B t (rEnded l dm b.B), b.LL, p.es ++ b.es ++ rendE l b.B t (rHad l b.B) (rEnded l dm b.B)⟩
def rRun (l : List Task) (asks : List Due) (dm : List (List Int)) (n : Nat) : Rk := (List.range n).foldl (rTick l asks dm) ⟨newB, List.replicate l.length [], []⟩
theorem rRun_next (l : List Task) (asks : List Due) (dm : List (List Int)) (n : Nat) : rRun l asks dm (n + 1) = rTick l asks dm (rRun l asks dm n) n := by
  rw [rRun, List.range_succ, List.foldl_append]; rfl
theorem rpick_has {l : List Task} {B : Bk} : ∀ k, 0 ≤ rpickTo l B k → hasN B.act (rpickTo l B k) = true ∧ rpickTo l B k < k
  | 0, h => by simp [rpickTo] at h
  | k + 1, h => by
    rw [rpick_next] at h ⊢
    split
    · rename_i hc
      rw [Bool.and_eq_true] at hc
      exact ⟨hc.1, by omega⟩
    · rename_i hc
      rw [if_neg hc] at h
      obtain ⟨h1, h2⟩ := rpick_has k h
      exact ⟨h1, by omega⟩
theorem JR.tasks {l : List Task} {now : Int} (hn : 0 ≤ now ∧ now ≤ 1000000) : ∀ (D : List Nat) {p : Bk × List Event}, JR p.1 → JR (D.foldl (rTask l now) p).1
  | [], p, h => h
  | i :: r, p, h => by
    rw [List.foldl_cons]
    refine JR.tasks hn r ?_
    unfold rTask; split
    · exact h.rel _ _ _ hn
    · exact h
theorem JR.asks {l : List Task} {now : Int} (hn : 0 ≤ now ∧ now ≤ 1000000) : ∀ (D : List Int) {p : Rk}, JR p.B → JR (D.foldl (rAsk l now) p).B
  | [], p, h => h
  | i :: r, p, h => by
    rw [List.foldl_cons]
    refine JR.asks hn r ?_
    unfold rAsk; split
    · exact h.rel _ _ _ hn
    · exact h
structure RunR (l : List Task) (asks : List Due) (t : Nat) (p : Rk) : Prop where
  ri : RI l (10 * t + askN asks t) t p.B p.LL
  jr : JR p.B
  len : p.es.length ≤ 80 * t + askN asks t
theorem RI.begin_ {l : List Task} {n : Nat} {now : Int} {B : Bk} {LL : List (List Int)} (h : RI l n now B LL) (hn : 0 ≤ now ∧ now ≤ 1000000) (hj : JR B) (asks : List Int) : RI l (n + l.length + asks.length) now (rBegin l B LL now asks).B (rBegin l B LL now asks).LL ∧ JR (rBegin l B LL now asks).B ∧ (rBegin l B LL now asks).es.length ≤ 64 + l.length + asks.length := by
  have hg := h.good.late now (setL B.act) (setL B.act).length
  have hT := rTask_good (l := l) (now := now) (List.range l.length) (p := rLate B now) hg.1
  rw [List.length_range] at hT
  have h1 : RI l (n + l.length) now ((List.range l.length).foldl (rTask l now) (rLate B now)).1 LL := ⟨hT.1, h.len, fun r hr => ⟨Nat.le_trans (h.rows r hr).1 (by omega), (h.rows r hr).2⟩⟩
  have hlen : (rLate B now).2.length ≤ 64 := by
    show (List.map _ _).length ≤ 64
    rw [List.length_map]
    exact Nat.le_trans hg.2.2 (setL_len _)
  refine ⟨RI.asks hn.1 asks (p := ⟨_, LL, _⟩) h1, JR.asks hn asks (p := ⟨_, LL, _⟩) (JR.tasks hn _ (hj.late _ _ _)), ?_⟩
  show (asks.foldl (rAsk l now) _).es.length ≤ _
  rw [rAsk_len]
  have := hT.2
  simp only; omega
theorem RI.next {l : List Task} {n : Nat} {t : Int} {B : Bk} {LL : List (List Int)} (h : RI l n t B LL) {B' : Bk} {m : Nat} (hg : GoodB l m B') (hm : n ≤ m) : RI l m (t + 1) B' LL :=
  ⟨hg, h.len, fun r hr => ⟨Nat.le_trans (h.rows r hr).1 hm, fun v hv => ⟨((h.rows r hr).2 v hv).1, by have := ((h.rows r hr).2 v hv).2; omega⟩⟩⟩
theorem rendB_good {l : List Task} {n : Nat} {B : Bk} (h : GoodB l n B) (hj : JR B) (now : Int) (e : Bool) : GoodB l (n + 2) (rendB l B now e) ∧ JR (rendB l B now e) := by
  unfold rendB
  split
  · unfold stepB; split
    · exact ⟨(h.step _ _).fin _ _, (hj.step _ _).fin _ _⟩
    · exact ⟨(h.step _ _).mono, hj.step _ _⟩
  · exact ⟨h.mono.mono, hj⟩
theorem rend_len {l : List Task} {B : Bk} {now a : Int} {e : Bool} : (rendE l B now a e).length ≤ 2 := by
  unfold rendE; split
  · split <;> simp
  · simp
theorem GoodB.up {l : List Task} {n m : Nat} {B : Bk} (h : GoodB l n B) (hm : n ≤ m) : GoodB l m B := by
  obtain ⟨d, rfl⟩ := Nat.exists_eq_add_of_le hm
  clear hm
  induction d with
  | zero => exact h
  | succ d ih => exact ih.mono
theorem rRun_inv {l : List Task} (hl : l.length ≤ 8) (asks : List Due) (dm : List (List Int)) : ∀ t : Nat, t ≤ 100000 → RunR l asks t (rRun l asks dm t)
  | 0, _ => ⟨⟨(good_new (by omega)).up (Nat.zero_le _), List.length_replicate, fun r hr => (by rw [List.eq_of_mem_replicate hr]; exact ⟨Nat.zero_le _, fun v hv => (by cases hv)⟩)⟩, fun j hj => (by cases hj), Nat.zero_le _⟩
  | t + 1, ht => by
    have ih := rRun_inv hl asks dm t (by omega)
    rw [rRun_next]
    obtain ⟨h1, h2, h3⟩ := ih.ri.begin_ ⟨by omega, by omega⟩ ih.jr (asksAt asks t)
    have hn := askN_next t (by omega) asks
    obtain ⟨g1, g2⟩ := rendB_good h1.good h2 t (rEnded l dm (rBegin l (rRun l asks dm t).B (rRun l asks dm t).LL t (asksAt asks t)).B)
    refine ⟨?_, g2, ?_⟩
    · have := h1.next g1 (by omega)
      have e : ((t + 1 : Nat) : Int) = (t : Int) + 1 := by push_cast; rfl
      rw [e, hn]
      exact ⟨this.good.up (by omega), this.len, fun r hr => ⟨Nat.le_trans (this.rows r hr).1 (by omega), (this.rows r hr).2⟩⟩
    · have h4 := ih.len
      have h5 := rend_len (l := l) (B := (rBegin l (rRun l asks dm t).B (rRun l asks dm t).LL t (asksAt asks t)).B) (now := t) (a := rHad l (rBegin l (rRun l asks dm t).B (rRun l asks dm t).LL t (asksAt asks t)).B) (e := rEnded l dm (rBegin l (rRun l asks dm t).B (rRun l asks dm t).LL t (asksAt asks t)).B)
      unfold rTick
      simp only [List.length_append]
      push_cast
      omega
end Go.Proofs.YtfjoaeghnfkdlaaGreatDoor
