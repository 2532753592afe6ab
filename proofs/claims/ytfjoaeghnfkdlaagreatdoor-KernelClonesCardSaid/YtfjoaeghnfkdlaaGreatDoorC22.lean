/- A row of the call's own is frozen where a slot or a block's cell names it. No condition. -/
import Derived.Test.YtfjoaeghnfkdlaaGreatDoorC7
import Derived.Test.YtfjoaeghnfkdlaaGreatDoorC8
import Derived.Test.YtfjoaeghnfkdlaaGreatDoorC18
import Derived.Test.YtfjoaeghnfkdlaaGreatDoorC19
import Derived.Test.YtfjoaeghnfkdlaaGreatDoorC20
import Derived.Test.YtfjoaeghnfkdlaaGreatDoorC21
set_option linter.unusedSimpArgs false
set_option linter.unusedVariables false
set_option maxHeartbeats 1000000
namespace Go.Proofs.YtfjoaeghnfkdlaaGreatDoor
set_option maxRecDepth 100000
set_option maxRecDepth 100000
open Go.RowKit
section
variable {n : Md} {s : Slots} {h : Heap}
theorem frz_core {E : Env} {σ : Sig} {ι : Nat → Value} {w : World} {id sz : Nat} {e : TypeId} {xs : List (List AV)} (hr : Rel E σ ι h w) (hg : hget h id = some (.row e sz xs)) (h10 : 10 ≤ id ∧ id < 100) : ∃ σ', Sig.le σ σ' ∧ Rel E σ' ι (hdel id h) w ∧ VR σ' ι (.lst sz xs) (ι id) := by
  obtain ⟨hsz0, hsz, vs, hown, hL⟩ := hr.ch id _ hg
  rcases hown.2 with ⟨h1, h2⟩ | ⟨g, cap, cur, h1, _, h2, h3, h4, h5, h6⟩
  · have hnil : xs = [] := List.eq_nil_of_length_eq_zero h2
    subst hnil
    refine ⟨σ, Sig.le.refl σ, hr.le fun i c hc => ?_, ?_⟩
    · rw [hget_hdel] at hc
      split at hc
      · cases hc
      · exact hc
    · rw [h1]; exact .base _ _ (.empty _ _ _ (by simp))
  · obtain ⟨h7, h8⟩ := hr.letGo hg (g := g) (by rw [h1]; rfl) h10 (xs.length * sz)
    refine ⟨_, h7, h8, ?_⟩
    rw [h1]
    have hfl := flatten_length hsz
    refine .base _ _ (.lst _ _ _ 0 _ (fun j => (vs[j]?).getD undef) h3 h4 hsz (fun j c hc => ?_) fun j c hc => ?_)
    · obtain ⟨u, hu, _⟩ := hL.get hc
      have hj : j < xs.length * sz := by rw [← hfl]; exact (List.getElem?_eq_some_iff.1 hc).1
      unfold sigRow
      rw [if_pos ⟨rfl, rfl, by simpa using hj⟩]
      rw [hu]
      rw [← h6, List.getElem?_take] at hu
      rw [if_pos hj] at hu
      simp only [World.cell?, h2, Option.isSome_none, Bool.false_eq_true, if_false, Nat.zero_add, Option.getD_some]
      rw [← Array.getElem?_toList]; exact hu
    · obtain ⟨u, hu, hR⟩ := hL.get hc
      rw [hu]; exact hR.mono h7
theorem turn_frzJ {b id sz : Nat} {ty e : TypeId} {cs : List AV} {xs : List (List AV)} (j : Nat) (hg : hget h b = some (.blk ty cs)) (hj : cs[j]? = some (.own id)) (hi : hget h id = some (.row e sz xs)) (h10 : locQ id = true) : Turns n s h s ((b, .blk ty (cs.set j (.lst sz xs))) :: hdel id h) := by
  intro E σ ι a w hr ht
  have hbi : b ≠ id := fun e => by rw [e, hi] at hg; cases hg
  obtain ⟨σ', q1, r1, q3⟩ := frz_core hr hi (locQ_spec h10)
  have hgb : hget (hdel id h) b = some (.blk ty cs) := by rw [hget_hdel, if_neg (by first | exact hbi | exact fun e => hbi e.symm)]; exact hg
  obtain ⟨g, cur, e1, e2, e3⟩ := r1.ch b _ hgb
  have hsame : YtfjoaeghnfkdlaaGreatDoor.upd ι b (ι b) = ι := by funext i; unfold YtfjoaeghnfkdlaaGreatDoor.upd; split <;> simp_all
  have hnew := r1.turn (id := b) (u := ι b) (h' := (b, .blk ty (cs.set j (.lst sz xs))) :: hdel id h) (c' := .blk ty (cs.set j (.lst sz xs))) (w' := w)
    (fun i c hi hc => by rw [hget_cons, if_neg (fun e => hi e.symm)] at hc; exact ⟨hc, .inl rfl⟩) (by rw [hget_cons, if_pos rfl])
    (by rw [hsame]; exact ⟨g, cur, e1, e2, by rw [List.length_set]; exact e3.1, fun k x y hx hy => by
      rw [List.getElem?_set] at hx
      by_cases hjk : j = k
      · subst hjk
        have h5 := e3.2 j (.own id) y hj hy
        have hjl := (List.getElem?_eq_some_iff.1 hj).1
        rw [if_pos rfl, if_pos hjl] at hx
        cases hx
        rw [h5.own_inv]; exact q3
      · rw [if_neg hjk] at hx
        exact e3.2 k x y hx hy⟩)
    rfl rfl rfl (Nat.le_refl _) (fun _ _ _ => rfl) (fun g hv => .inl ⟨_, hgb, hv⟩) (.inr rfl)
  rw [hsame] at hnew
  exact ⟨σ', ι, hnew, ⟨ht.size, ht.defers, fun u => (ht.at_ u).mono q1⟩⟩
end
end Go.Proofs.YtfjoaeghnfkdlaaGreatDoor
namespace Go.Proofs.YtfjoaeghnfkdlaaGreatDoor
set_option maxRecDepth 100000
open Go.RowKit
def fstN (q : Nat → Bool) (n : Nat) : Option Nat := (List.range n).find? q
theorem fstN_some {q : Nat → Bool} {n k : Nat} (hk : k < n) (hq : q k = true) (hno : ∀ j, j < k → q j = false) : fstN q n = some k := by
  rw [fstN, List.find?_range_eq_some]; exact ⟨hq, List.mem_range.2 hk, fun j hj => by simp [hno j hj]⟩
theorem fstN_none {q : Nat → Bool} {n : Nat} (hno : ∀ j, j < n → q j = false) : fstN q n = none := by
  rw [fstN, List.find?_range_eq_none]; exact fun j hj => by simp [hno j hj]
theorem no_next {q : Nat → Bool} {k : Nat} (hno : ∀ j, j < k → q j = false) (h : q k = false) : ∀ j, j < k + 1 → q j = false := fun j hj => by
  rcases Nat.lt_succ_iff_lt_or_eq.1 hj with h' | rfl
  · exact hno j h'
  · exact h
def idxV (o : Option Nat) : Int := match o with | some k => (k : Int) | none => -1
theorem any_fst {α : Type} [Inhabited α] (q : α → Bool) (xs : List α) : decide (0 ≤ idxV (fstN (fun i => q (xs.getD i default)) xs.length)) = xs.any q := by
  cases h : fstN (fun i => q (xs.getD i default)) xs.length with
  | some k =>
    rw [fstN, List.find?_range_eq_some] at h
    have hk := List.mem_range.1 h.2.1
    have h1 : q xs[k] = true := by simpa [hk] using h.1
    rw [List.any_eq_true.2 ⟨xs[k], List.getElem_mem hk, h1⟩]
    simp [idxV]
  | none =>
    rw [fstN, List.find?_range_eq_none] at h
    have : xs.any q = false := by
      rw [List.any_eq_false]
      intro x hx
      obtain ⟨j, hj⟩ := List.getElem?_of_mem hx
      have hjl : j < xs.length := (List.getElem?_eq_some_iff.1 hj).1
      have := h j hjl
      simpa [hjl, (List.getElem?_eq_some_iff.1 hj).2] using this
    rw [this]; rfl
end Go.Proofs.YtfjoaeghnfkdlaaGreatDoor
namespace Go.Proofs.YtfjoaeghnfkdlaaGreatDoor
set_option maxRecDepth 100000
set_option maxRecDepth 100000
open Go.RowKit
theorem idxTask_fn (xs : List Task) (F : FuncId) (cap : List AV) (q : Task → Bool) (hF : ∀ x, Fn Tryz.prog F ([.agg (eTask x)] ++ cap) (.bool (q x))) (hn : xs.length ≤ 1000000) :
    Fn Tryz.prog 69 [.lst 7 (xs.map eTask), .fn (.func F) [] cap] (.int .i64 (idxV (fstN (fun i => q (xs.getD i default)) xs.length))) := by
  refine fnb Tryz.func69 (entered_of (by kernel_rfl)) rfl rfl rfl ?_
  repeat' (first | refine sA ?_ | ((first | apply kM | apply kN); (iterate 3 (· exact rfl)); (· first | exact ya)) | refine sG ?_ | (refine sK ?_ ?_ <;> intro hc <;> (try simp only [KL, sL, reduceCtorEq] at hc) <;> (try (have hT : True := hc; clear hT hc)) <;> (try (exfalso; omega))))
  refine wloop (fun k : Nat => ([(0, .lst 7 (xs.map eTask)), (1, .fn (.func F) [] cap), (7, .int .i64 xs.length), (8, .int .i64 k)], [])) (fun k => k ≤ xs.length ∧ ∀ j, j < k → q (xs.getD j default) = false) (fun k => xs.length - k) 0 ⟨Nat.zero_le _, fun j hj => absurd hj (by omega)⟩ les leh (fun k hk => ?_)
  obtain ⟨hk, hno⟩ := hk
  by_cases hlt : k < xs.length
  · repeat' (first | refine sA ?_ | ((first | apply kM | apply kN); (iterate 3 (· exact rfl)); (· first | exact ya | exact q_c (hF (xs.getD k default)) rfl)) | refine sG ?_ | (refine sK ?_ ?_ <;> intro hc <;> (try simp only [KL, sL, reduceCtorEq] at hc) <;> (try (have hT : True := hc; clear hT hc)) <;> (try (exfalso; omega))))
    all_goals first | (exfalso; omega) | skip
    · rw [fstN_some (q := fun i => q (xs.getD i default)) hlt hc hno]; exact retq rfl rfl
    · exact ⟨k + 1, ⟨by omega, no_next (q := fun i => q (xs.getD i default)) hno hc⟩, by omega, les, leh⟩
  · obtain rfl : k = xs.length := by omega
    rw [fstN_none (q := fun i => q (xs.getD i default)) hno]
    repeat' (first | refine sA ?_ | ((first | apply kM | apply kN); (iterate 3 (· exact rfl)); (· first | exact ya)) | refine sG ?_ | (refine sK ?_ ?_ <;> intro hc <;> (try simp only [KL, sL, reduceCtorEq] at hc) <;> (try (have hT : True := hc; clear hT hc)) <;> (try (exfalso; omega))))
    all_goals first | (exfalso; omega) | exact retq rfl rfl
theorem conTask_fn (xs : List Task) (F : FuncId) (cap : List AV) (q : Task → Bool) (hF : ∀ x, Fn Tryz.prog F ([.agg (eTask x)] ++ cap) (.bool (q x))) (hn : xs.length ≤ 1000000) :
    Fn Tryz.prog 32 [.lst 7 (xs.map eTask), .fn (.func F) [] cap] (.bool (xs.any q)) := by
  rw [← any_fst]
  refine fnb Tryz.func32 (entered_of (by kernel_rfl)) rfl rfl rfl ?_
  repeat' (first | refine sA ?_ | ((first | apply kM | apply kN); (iterate 3 (· exact rfl)); (· first | exact ya | exact q_c (idxTask_fn xs F cap q hF hn) rfl)) | refine sG ?_ | (refine sK ?_ ?_ <;> intro hc <;> (try simp only [KL, sL, reduceCtorEq] at hc) <;> (try (have hT : True := hc; clear hT hc)) <;> (try (exfalso; omega))))
  exact retq rfl rfl
theorem new29c_fn (t : Task) : Fn Tryz.prog 33 ([.agg (eTask t)] ++ []) (.bool (!plainB t)) := by
  refine fnb Tryz.func33 (entered_of (by kernel_rfl)) rfl rfl rfl ?_
  repeat' (first | refine sA ?_ | ((first | apply kM | apply kN); (iterate 3 (· exact rfl)); (· first | exact ya | exact q_c (plain_fn t) rfl)) | refine sG ?_ | (refine sK ?_ ?_ <;> intro hc <;> (try simp only [KL, sL, reduceCtorEq] at hc) <;> (try (have hT : True := hc; clear hT hc)) <;> (try (exfalso; omega))))
  exact retq rfl rfl
def okK (l : List Task) : Bool := decide (1 ≤ l.length ∧ l.length ≤ 8) && l.all plainB
theorem map_nextK {α β : Type} [Inhabited α] (f : α → β) (l : List α) {k : Nat} (h : k < l.length) : (l.take (k + 1)).map f = (l.take k).map f ++ [f (l.getD k default)] := by
  have e : l.getD k default = l[k] := by simp [h]
  rw [List.take_succ_eq_append_getElem h, List.map_append, e]; rfl
def firstS (l : List Task) (k : Nat) : List Due := ((List.range k).filter fun i => decide (0 ≤ nextZ (l.getD i default) 0)).map fun i => ⟨nextZ (l.getD i default) 0, i⟩
def newK (l : List Task) : Kn := ⟨newB, firstS l l.length, [], 0, false⟩
theorem firstS_len (l : List Task) (k : Nat) : (firstS l k).length ≤ k := by
  unfold firstS; rw [List.length_map]
  exact Nat.le_trans (List.length_filter_le _ _) (by simp)
theorem firstS_yes {l : List Task} {k : Nat} (h : 0 ≤ nextZ (l.getD k default) 0) : firstS l (k + 1) = firstS l k ++ [⟨nextZ (l.getD k default) 0, k⟩] := by
  unfold firstS; rw [List.range_succ, List.filter_append, List.map_append, List.filter_cons, if_pos (decide_eq_true h)]; rfl
theorem firstS_no {l : List Task} {k : Nat} (h : ¬ 0 ≤ nextZ (l.getD k default) 0) : firstS l (k + 1) = firstS l k := by
  unfold firstS; rw [List.range_succ, List.filter_append, List.map_append, List.filter_cons, if_neg (by simpa using h)]; simp
abbrev dmy (i : Nat) : Nat × Chunk := (i, .row 3 1 (([] : List Int).map eI))
abbrev dmys : Heap := [dmy 100, dmy 101, dmy 102, dmy 103, dmy 104, dmy 105, dmy 106, dmy 107, dmy 108]
abbrev knY (l : List Task) (room : Int) (B : Bk) (S : List Due) (last : List (Int × Int)) (now : Int) (opn : Bool) : Heap :=
  [(100, .blk 87 [.lst 7 (l.map eTask), .lst 1 ((l.map Task.prio).map eI), .ptr 101 0, .ptr 104 0, .own 108, .int .i64 now, .bool opn]),
   (101, .blk 127 [.lst 7 (l.map eTask), .own 105, .own 102, .own 103, .int .u64 B.act, .own 106]), (105, .row 71 8 (B.all.map eJob)), (102, mI B.now), (103, mI B.cnt), (106, .row 60 2 (B.overs.map eDue)),
   (104, .blk 129 [.int .i64 room, .own 107]), (107, agC S), (108, mI last)]
abbrev knO (l : List Task) (room : Int) (K : Kn) : Heap := knY l room K.B K.S K.last K.now K.opn
abbrev nwX (l : List Task) (c : AV) (ps : List Int) (S : List Due) : Heap :=
  [(100, .blk 87 [.lst 7 (l.map eTask), c, .ptr 101 0, .ptr 104 0, .own 108, .int .i64 0, .bool false]), (10, .row 3 1 (ps.map eI)),
   (101, .blk 127 [.lst 7 (l.map eTask), .own 105, .own 102, .own 103, .int .u64 0, .own 106]), (105, .row 71 8 (([] : List Job).map eJob)), (102, mI []), (103, mI []), (106, .row 60 2 (([] : List Due).map eDue)),
   (104, .blk 129 [.int .i64 l.length, .own 107]), (107, agC S), (108, mI [])]
abbrev nwH (l : List Task) (ps : List Int) (S : List Due) : Heap := nwX l (.own 10) ps S
abbrev tkB (t : Task) : Nat × Chunk := (12, .blk 77 (eTask t))
def ρN (i : Nat) : Nat := [0, 1, 2, 3, 4, 101, 102, 103].getD i (i + 200)
def ρM (i : Nat) : Nat := [0, 1, 2, 3, 4, 104].getD i (i + 200)
def ρP (i : Nat) : Nat := [104, 201, 202, 203, 204, 107].getD i (i + 200)
set_option maxHeartbeats 8000000 in
theorem new29_fn (l : List Task) (h : okK l = true) : FnH Tryz.prog 8 [.lst 7 (l.map eTask)] dmys (fun r h' => r = .tup [.ptr 100 0, .int .i64 0] ∧ h' = knO l l.length (newK l)) := by
  rw [okK, Bool.and_eq_true, decide_eq_true_eq] at h
  obtain ⟨⟨h1, h2⟩, h3⟩ := h
  have c1 := conTask_fn l 33 [] _ new29c_fn (by omega)
  rw [show (l.any fun t => !plainB t) = !l.all plainB by rw [List.all_eq_not_any_not]; simp, h3] at c1
  have c2 := clV_Task l (by omega)
  have c3 := new28_fn l (by omega)
  rw [show hd64 l = l from by unfold hd64; rw [List.take_of_length_le]; omega] at c3
  have c4 := new05_fn l.length
  rw [show max 0 (min (l.length : Int) 4096) = l.length by omega] at c4
  refine FnH.drop' (fnhb Tryz.func8 (entered_of (by kernel_rfl)) rfl rfl ?_)
  refine wle (s' := [(0, .lst 7 (l.map eTask))]) (h' := []) les (LeH.nil _) ?_
  repeat' (first | refine sA ?_ | ((first | apply kM | apply kN); (iterate 3 (· exact rfl)); (· first | exact ya | exact q_c (c1) rfl | exact q_c (c2) rfl)) | refine sG ?_ | (refine sK ?_ ?_ <;> intro hc <;> (try simp only [KL, sL, reduceCtorEq] at hc) <;> (try (have hT : True := hc; clear hT hc)) <;> (try (exfalso; omega))))
  all_goals first | (exfalso; omega) | skip
  refine ole (s' := [(0, .lst 7 (l.map eTask)), (22, .lst 7 (l.map eTask)), (23, .lst 7 (l.map eTask))]) (h' := []) les (LeH.nil _) ?_
  refine oturn (turn_dummy eI 101 3 1 (by omega) rfl) ?_
  refine oturn (turn_dummy eI 102 3 1 (by omega) rfl) ?_
  refine oturn (turn_dummy eI 103 3 1 (by omega) rfl) ?_
  refine zcall (fun i => ρN i) (c3) rfl rfl leh rfl rfl rfl rfl rfl rfl (fun r h' hR => ?_)
  obtain ⟨rfl, rfl⟩ := hR
  refine ⟨rfl, rfl, ?_⟩
  refine ole (s' := [(0, .lst 7 (l.map eTask)), (22, .lst 7 (l.map eTask)), (24, .ptr 101 0)]) (h' := [(101, .blk 127 [.lst 7 (l.map eTask), .nils, .own 102, .own 103, .int .u64 0, .nils]), (102, mI []), (103, mI [])]) les leh ?_
  repeat' (first | refine sA ?_ | ((first | apply kM | apply kN); (iterate 3 (· exact rfl)); (· first | exact ya)) | refine sG ?_ | (refine sK ?_ ?_ <;> intro hc <;> (try simp only [KL, sL, reduceCtorEq] at hc) <;> (try (have hT : True := hc; clear hT hc)) <;> (try (exfalso; omega))))
  refine oturn (turn_dummy eI 104 3 1 (by omega) rfl) ?_
  refine zcall (fun i => ρM i) (c4) rfl rfl leh rfl rfl rfl rfl rfl rfl (fun r h' hR => ?_)
  obtain ⟨rfl, rfl⟩ := hR
  refine ⟨rfl, rfl, ?_⟩
  refine ole (s' := [(0, .lst 7 (l.map eTask)), (22, .lst 7 (l.map eTask)), (24, .ptr 101 0), (27, .ptr 104 0)]) (h' := [(104, .blk 129 [.int .i64 l.length, .nils]), (101, .blk 127 [.lst 7 (l.map eTask), .nils, .own 102, .own 103, .int .u64 0, .nils]), (102, mI []), (103, mI [])]) les leh ?_
  repeat' (first | refine sA ?_ | ((first | apply kM | apply kN); (iterate 3 (· exact rfl)); (· first | exact ya)) | refine sG ?_ | (refine sK ?_ ?_ <;> intro hc <;> (try simp only [KL, sL, reduceCtorEq] at hc) <;> (try (have hT : True := hc; clear hT hc)) <;> (try (exfalso; omega))))
  refine ao_mm 108 (fun n : Int => AV.int .i64 n) rfl rfl rfl rfl ?_
  repeat' (first | refine sA ?_ | (show O _ _ _ _ _ _ _; first | (show O _ _ _ _ (⟨_, .box _ _, _, _, _, _⟩ :: _) _ _; first | refine ao_box (id := 100) rfl rfl rfl rfl rfl rfl rfl rfl ?_)) | ((first | apply kM | apply kN); (iterate 3 (· exact rfl)); (· first | exact yab)) | refine sG ?_ | (refine sK ?_ ?_ <;> intro hc <;> (try simp only [KL, sL, reduceCtorEq] at hc) <;> (try (have hT : True := hc; clear hT hc)) <;> (try (exfalso; omega))))
  refine wle (s' := [(4, .ptr 100 0), (31, .lst 7 (l.map eTask)), (32, .int .i64 l.length), (33, .int .i64 0)]) (h' := [(100, .blk 87 [.lst 7 (l.map eTask), .nils, .ptr 101 0, .ptr 104 0, .own 108, .int .i64 0, .bool false]), (101, .blk 127 [.lst 7 (l.map eTask), .nils, .own 102, .own 103, .int .u64 0, .nils]), (102, mI []), (103, mI []), (104, .blk 129 [.int .i64 l.length, .nils]), (108, mI [])]) les leh ?_
  refine wturn (turn_ownJ eJob (b := 101) 1 rfl rfl 105 71 8 (by omega) rfl) ?_
  refine wturn (turn_ownJ eDue (b := 101) 5 rfl rfl 106 60 2 (by omega) rfl) ?_
  refine wturn (turn_ownJ eDue (b := 104) 1 rfl rfl 107 60 2 (by omega) rfl) ?_
  refine wturn (turn_pack 107 (agΦ []) rfl ⟨[], rfl, fun k _ hk => absurd hk (by simp), List.Perm.refl _⟩) ?_
  refine wturn (turn_ownJ eI (b := 100) 1 rfl rfl 10 3 1 (by omega) rfl) ?_
  refine wloop (fun k : Nat => ([(4, .ptr 100 0), (31, .lst 7 (l.map eTask)), (32, .int .i64 l.length), (33, .int .i64 k)], nwH l ((l.take k).map Task.prio) (firstS l k))) (fun k => k ≤ l.length) (fun k => l.length - k) 0 (Nat.zero_le _) les (show LeH _ (nwH l [] []) from leh) (fun k hk => ?_)
  rcases Nat.lt_or_eq_of_le hk with hkk | hkk
  · have hnx := map_nextK Task.prio l hkk
    have hpl : plainB (l.getD k default) = true := List.all_eq_true.1 h3 _ (getD_mem hkk)
    have hsl := firstS_len l k
    have hpsl : ((l.take k).map Task.prio).length ≤ 8 := by rw [List.length_map, List.length_take]; omega
    have c5 := next_fn (l.getD k default) 0
    have hyes := firstS_yes (l := l) (k := k)
    have hno := firstS_no (l := l) (k := k)
    generalize (l.take k).map Task.prio = ps at hnx hpsl ⊢
    generalize firstS l k = S at hsl hyes hno ⊢
    repeat' (first | refine sB ?_ | (show O _ _ _ _ _ _ _; first | refine ao_alloc (id := 12) rfl rfl rfl rfl rfl rfl rfl ?_) | ((first | apply kM | apply kN); (iterate 3 (· exact rfl)); (· first | exact ya)) | refine sG ?_ | (refine sK ?_ ?_ <;> intro hc <;> (try simp only [KL, sL, reduceCtorEq] at hc) <;> (try (have hT : True := hc; clear hT hc)) <;> (try (exfalso; omega))))
    all_goals first | (exfalso; omega) | skip
    refine wle (s' := [(4, .ptr 100 0), (5, .int .i64 k), (6, .ptr 12 0), (31, .lst 7 (l.map eTask)), (32, .int .i64 l.length), (33, .int .i64 k)]) (h' := tkB (l.getD k default) :: nwX l (.own 10) ps S) les (show LeH _ (tkB (l.getD k default) :: nwX l (.own 10) ps S) from leh) ?_
    refine wdrawK (H := fun y : Heap => y) (ok := fun _ => True) (tn := [8, 11]) (ln := [4, 6]) (c := 8) (R := 10) (tkB (l.getD k default) :: nwX l (.own 10) ps S) (LeH.refl _) (by kernel_rfl) (by kernel_rfl) (by kernel_rfl) trivial ?_
    repeat' (first | refine sA ?_ | ((first | apply kM | apply kN); (iterate 3 (· exact rfl)); (· first | exact ya)) | (show KW _ _ _ _ _ _ _ _ _ _ _ _ _; first | refine knil rfl ?_ | (apply k_any; (· exact rfl); (· exact rfl); (· exact rfl); (· intro y' hy'; first | exact ya); (· first | exact rfl | kernel_rfl)) | (apply k_ld; (· exact rfl); (· exact rfl); (· exact rfl); (· exact rfl); (· first | exact ya); (· first | exact rfl | kernel_rfl))) | refine sG ?_ | (refine sK ?_ ?_ <;> intro hc <;> (try simp only [KL, sL, reduceCtorEq] at hc) <;> (try (have hT : True := hc; clear hT hc)) <;> (try (exfalso; omega))))
    refine k_mv (x' := tkB (l.getD k default) :: nwX l .undef (ps ++ [(l.getD k default).prio]) S) rfl rfl rfl trivial
      (TuK.post (TuK.pre (pre_mask (h2 := tkB (l.getD k default) :: nwX l .undef ps S) [false, true] (id := 100) rfl leh)
        (tk_append (l := ps) (f := eI) (ys := [(l.getD k default).prio]) (by_ := 8) rfl rfl rfl rfl rfl rfl rfl rfl rfl rfl (fun _ _ => rfl) (by simp only [List.length_cons, List.length_nil]; omega) (by simp only [List.length_cons, List.length_nil]; omega) rfl rfl)) leh) ?_
    repeat' (first | refine sA ?_ | ((first | apply kM | apply kN); (iterate 3 (· exact rfl)); (· first | exact ya)) | (show KW _ _ _ _ _ _ _ _ _ _ _ _ _; first | refine knil rfl ?_ | (apply k_any; (· exact rfl); (· exact rfl); (· exact rfl); (· intro y' hy'; first | exact ya); (· first | exact rfl | kernel_rfl)) | (apply k_ld; (· exact rfl); (· exact rfl); (· exact rfl); (· exact rfl); (· first | exact ya); (· first | exact rfl | kernel_rfl))) | refine sG ?_ | (refine sK ?_ ?_ <;> intro hc <;> (try simp only [KL, sL, reduceCtorEq] at hc) <;> (try (have hT : True := hc; clear hT hc)) <;> (try (exfalso; omega))))
    refine k_tu (x' := tkB (l.getD k default) :: nwX l (.own 10) (ps ++ [(l.getD k default).prio]) S) rfl rfl rfl trivial ((tu_st (sto_B rfl rfl rfl rfl rfl rfl (Nat.le_of_ble_eq_true rfl)) rfl).post leh) (by kernel_rfl) ?_
    repeat' (first | refine sA ?_ | ((first | apply kM | apply kN); (iterate 3 (· exact rfl)); (· first | exact ya)) | (show KW _ _ _ _ _ _ _ _ _ _ _ _ _; first | refine knil rfl ?_ | (apply k_any; (· exact rfl); (· exact rfl); (· exact rfl); (· intro y' hy'; first | exact ya); (· first | exact rfl | kernel_rfl)) | (apply k_ld; (· exact rfl); (· exact rfl); (· exact rfl); (· exact rfl); (· first | exact ya); (· first | exact rfl | kernel_rfl))) | refine sG ?_ | (refine sK ?_ ?_ <;> intro hc <;> (try simp only [KL, sL, reduceCtorEq] at hc) <;> (try (have hT : True := hc; clear hT hc)) <;> (try (exfalso; omega))))
    refine ole (s' := [(4, .ptr 100 0), (5, .int .i64 k), (6, .ptr 12 0), (31, .lst 7 (l.map eTask)), (32, .int .i64 l.length), (33, .int .i64 k), (50, .agg (eTask (l.getD k default)))]) (h' := tkB (l.getD k default) :: nwX l (.own 10) (ps ++ [(l.getD k default).prio]) S) les leh ?_
    by_cases hz : 0 ≤ nextZ (l.getD k default) 0
    · rw [decide_eq_true hz, if_neg (show ¬ nextZ (l.getD k default) 0 < 0 by omega)] at c5
      have hpe : pushE l.length S.length ⟨nextZ (l.getD k default) 0, k⟩ = 0 := by rw [pushE, if_neg (by simp only; omega), if_neg (by omega)]
      have c6 := pushS_fn l.length S ⟨nextZ (l.getD k default) 0, k⟩ (by omega)
      rw [pushL, hpe, if_pos rfl, ← hyes hz] at c6
      repeat' (first | refine sA ?_ | ((first | apply kM | apply kN); (iterate 3 (· exact rfl)); (· first | exact ya | exact q_c (c5) rfl)) | refine sG ?_ | (refine sK ?_ ?_ <;> intro hc <;> (try simp only [KL, sL, reduceCtorEq] at hc) <;> (try (have hT : True := hc; clear hT hc)) <;> (try (exfalso; omega))))
      all_goals first | (exfalso; omega) | skip
      refine zcall (fun i => ρP i) (c6) rfl rfl leh rfl rfl rfl rfl rfl rfl (fun r h' hR => ?_)
      obtain ⟨rfl, rfl⟩ := hR
      refine ⟨rfl, rfl, ?_⟩
      refine ole (s' := [(4, .ptr 100 0), (31, .lst 7 (l.map eTask)), (32, .int .i64 l.length), (33, .int .i64 k)]) (h' := nwX l (.own 10) (ps ++ [(l.getD k default).prio]) (firstS l (k + 1))) les leh ?_
      repeat' (first | refine sA ?_ | ((first | apply kM | apply kN); (iterate 3 (· exact rfl)); (· first | exact ya)) | refine sG ?_ | (refine sK ?_ ?_ <;> intro hc <;> (try simp only [KL, sL, reduceCtorEq] at hc) <;> (try (have hT : True := hc; clear hT hc)) <;> (try (exfalso; omega))))
      exact ⟨k + 1, by omega, by omega, les, by simp only [hnx]; exact leh⟩
    · rw [decide_eq_false hz] at c5
      repeat' (first | refine sA ?_ | ((first | apply kM | apply kN); (iterate 3 (· exact rfl)); (· first | exact ya | exact q_c (c5) rfl)) | refine sG ?_ | (refine sK ?_ ?_ <;> intro hc <;> (try simp only [KL, sL, reduceCtorEq] at hc) <;> (try (have hT : True := hc; clear hT hc)) <;> (try (exfalso; omega))))
      all_goals first | (exfalso; omega) | skip
      exact ⟨k + 1, by omega, by omega, les, by simp only [hnx, hno hz]; exact leh⟩
  · subst hkk
    repeat' (first | refine sA ?_ | ((first | apply kM | apply kN); (iterate 3 (· exact rfl)); (· first | exact ya)) | refine sG ?_ | (refine sK ?_ ?_ <;> intro hc <;> (try simp only [KL, sL, reduceCtorEq] at hc) <;> (try (have hT : True := hc; clear hT hc)) <;> (try (exfalso; omega))))
    all_goals first | (exfalso; omega) | skip
    rw [List.take_length]
    refine retT (fun _ => turn_frzJ (b := 100) (id := 10) 1 rfl rfl rfl rfl) ?_
    exact retq rfl ⟨knO l l.length (newK l), leh, rfl, rfl⟩
end Go.Proofs.YtfjoaeghnfkdlaaGreatDoor
namespace Go.Proofs.YtfjoaeghnfkdlaaGreatDoor
set_option maxRecDepth 100000
open Go.RowKit
def JR (B : Bk) : Prop := ∀ j ∈ B.all, 0 ≤ j.release ∧ j.release ≤ 1000000
theorem JR.set {B : Bk} (h : JR B) (i : Int) (j : Job) (hj : 0 ≤ j.release ∧ j.release ≤ 1000000) : JR (setJ B i j) := fun x hx => by
  rcases List.mem_or_eq_of_mem_set hx with hx | rfl
  · exact h x hx
  · exact hj
theorem JR.at_ {B : Bk} (h : JR B) (i : Int) : 0 ≤ (jobAt B i).release ∧ (jobAt B i).release ≤ 1000000 := by
  unfold jobAt
  by_cases hp : posB B i < B.all.length
  · exact h _ (getD_mem hp)
  · rw [List.getD_eq_getElem?_getD, List.getElem?_eq_none (by omega)]; exact ⟨by decide, by decide⟩
theorem JR.step {B : Bk} (h : JR B) (i t : Int) : JR (stepBk B i t) := by
  unfold stepBk; split
  · exact h.set i _ (h.at_ i)
  · exact h
theorem JR.fin {B : Bk} (h : JR B) (i t : Int) : JR (endBk B i t) := by
  unfold endBk; split
  · exact fun x hx => h.set i _ (show 0 ≤ (endJb t (jobAt B i)).release ∧ _ from h.at_ i) x hx
  · exact h
theorem JR.late {B : Bk} (h : JR B) (t : Int) (ks : List Int) : ∀ k, JR (lateBk B t ks k).2
  | 0 => h
  | k + 1 => by
    have ih := JR.late h t ks k
    unfold lateBk
    simp only
    split
    · exact ih.set _ _ (show 0 ≤ (missJb _).release ∧ _ from ih.at_ _)
    · exact ih
theorem JR.rel {B : Bk} (h : JR B) (l : List Task) (i t : Int) (ht : 0 ≤ t ∧ t ≤ 1000000) : JR (relBk l B i t) := by
  unfold relBk; split
  · exact h
  · split
    · exact h
    · intro x hx
      rcases List.mem_append.1 hx with hx | hx
      · exact h x hx
      · rw [List.mem_singleton] at hx; subst hx
        simp only [newJb, inT]; omega
structure KI (l : List Task) (n : Nat) (K : Kn) : Prop where
  good : GoodB l n K.B
  now_ : 0 ≤ K.now ∧ K.now ≤ 1000000
  slen : K.S.length ≤ l.length
  last : ∀ i v, getM K.last i = some v → 0 ≤ v ∧ v ≤ K.now
  due : ∀ d ∈ K.S, 0 ≤ d.task ∧ d.task < l.length ∧ 0 ≤ d.at_ ∧ d.at_ ≤ 2199023255552
  jr : JR K.B
theorem KI.mono {l : List Task} {n m : Nat} {K : Kn} (h : KI l n K) (hm : n ≤ m) : KI l m K := by
  obtain ⟨d, rfl⟩ := Nat.exists_eq_add_of_le hm
  refine ⟨?_, h.now_, h.slen, h.last, h.due, h.jr⟩
  clear hm
  induction d with
  | zero => exact h.good
  | succ d ih => exact ih.mono
theorem KI.new {l : List Task} (h : okK l = true) : KI l 0 (newK l) := by
  rw [okK, Bool.and_eq_true, decide_eq_true_eq] at h
  refine ⟨good_new (by omega), ⟨Int.le_refl _, (by show (0 : Int) ≤ 1000000; decide)⟩, firstS_len l _, fun i v hv => (by cases hv), fun d hd => ?_, fun j hj => (by cases hj)⟩
  obtain ⟨i, hi, rfl⟩ := List.mem_map.1 hd
  obtain ⟨h1, h2⟩ := List.mem_filter.1 hi
  rw [List.mem_range] at h1
  rw [decide_eq_true_eq] at h2
  refine ⟨(by simp only; omega), (by simp only; omega), h2, ?_⟩
  have hz : nextZ (l.getD i default) 0 ≤ 1099511627776 := by
    unfold nextZ
    split
    · simp only
      split
      · split <;> omega
      · split <;> omega
    · omega
  simp only; omega
theorem pushL_max (room : Int) (S : List Due) (d : Due) {m : Nat} (hr : room ≤ m) (h : S.length ≤ m) : (pushL room S d).length ≤ m := by
  unfold pushL; split
  · rename_i h0
    have : (S.length : Int) < room := by
      unfold pushE at h0
      split at h0
      · omega
      · split at h0
        · omega
        · omega
    simp; omega
  · exact h
theorem pushL_mem {room : Int} {S : List Due} {d x : Due} (h : x ∈ pushL room S d) : x ∈ S ∨ x = d := by
  unfold pushL at h; split at h
  · simpa using h
  · exact .inl h
theorem plain_per {l : List Task} (h : okK l = true) (i : Int) (h0 : 0 ≤ i) (h1 : i < l.length) : 1 ≤ (l.getD i.toNat default).period ∧ (l.getD i.toNat default).period ≤ 1048576 := by
  rw [okK, Bool.and_eq_true] at h
  have := plainB_spec (List.all_eq_true.1 h.2 (l.getD i.toNat default) (getD_mem (by omega)))
  omega
theorem KI.dues {l : List Task} (hok : okK l = true) {room now : Int} (hr : room = l.length) : ∀ (D : List Due) {n : Nat} {p : Kn × List Event}, KI l n p.1 → p.1.now = now → (∀ d ∈ D, 0 ≤ d.task ∧ d.task < l.length ∧ 0 ≤ d.at_ ∧ d.at_ ≤ 1099511627776) →
    KI l (n + D.length) (D.foldl (dueS l room) p).1 ∧ (D.foldl (dueS l room) p).1.now = now
  | [], n, p, h, hn, _ => ⟨h, hn⟩
  | d :: r, n, p, h, hn, hd => by
    have hd0 := hd d List.mem_cons_self
    have hp := plain_per hok d.task hd0.1 hd0.2.1
    rw [List.foldl_cons, List.length_cons, show n + (r.length + 1) = n + 1 + r.length by omega]
    refine KI.dues hok hr r (p := dueS l room p d) ⟨h.good.rel _ _, h.now_, pushL_max _ _ _ (by omega) h.slen, h.last, fun x hx => ?_, h.jr.rel _ _ _ h.now_⟩ hn fun x hx => hd x (List.mem_cons_of_mem _ hx)
    rcases pushL_mem hx with hx | rfl
    · exact h.due x hx
    · simp only [nextD]; omega
theorem KI.asks {l : List Task} {now : Int} : ∀ (D : List Int) {n : Nat} {p : Kn × List Event}, KI l n p.1 → p.1.now = now → KI l (n + D.length) (D.foldl (askS l) p).1 ∧ (D.foldl (askS l) p).1.now = now
  | [], n, p, h, hn => ⟨h, hn⟩
  | i :: r, n, p, h, hn => by
    rw [List.foldl_cons, List.length_cons, show n + (r.length + 1) = n + 1 + r.length by omega]
    have hp : ∀ j v, getM (passK l p.1 i).last j = some v → 0 ≤ v ∧ v ≤ p.1.now := fun j v hv => by
      unfold passK at hv
      simp only at hv
      split at hv
      · rw [getM_set] at hv
        split at hv
        · cases hv; exact ⟨h.now_.1, Int.le_refl _⟩
        · exact h.last j v hv
      · exact h.last j v hv
    unfold askS
    split
    · exact KI.asks r (p := (letK l (passK l p.1 i) i, p.2 ++ [letE l (passK l p.1 i) i])) ⟨h.good.rel _ _, h.now_, h.slen, hp, h.due, h.jr.rel _ _ _ h.now_⟩ hn
    · exact KI.asks r (p := (passK l p.1 i, p.2 ++ [⟨p.1.now, 2, i, 0, 0⟩])) ⟨h.good.mono, h.now_, h.slen, hp, h.due, h.jr⟩ hn
theorem mem_tw {α : Type} {p : α → Bool} {x : α} : ∀ {l : List α}, x ∈ l.takeWhile p → p x = true
  | [], h => by cases h
  | a :: l, h => by
    rw [List.takeWhile_cons] at h
    split at h
    · rcases List.mem_cons.1 h with rfl | h
      · assumption
      · exact mem_tw h
    · cases h
theorem dueU_mem {t : Int} {S : List Due} {d : Due} (h : d ∈ dueU t (sortD S)) : d ∈ S ∧ d.at_ ≤ t := by
  refine ⟨(sortD_perm S).mem_iff.1 ((List.takeWhile_sublist _).subset h), ?_⟩
  have := mem_tw (p := fun d : Due => decide (d.at_ ≤ t)) h
  simpa using this
theorem restU_mem {t : Int} {S : List Due} {d : Due} (h : d ∈ restU t (sortD S)) : d ∈ S := (sortD_perm S).mem_iff.1 ((List.dropWhile_sublist _).subset h)
theorem KI.late {l : List Task} {n : Nat} {K : Kn} (h : KI l n K) : KI l n ({ (lateP K).1 with S := restU K.now (sortD K.S) } : Kn) :=
  ⟨(h.good.late _ _ _).1, h.now_, Nat.le_trans (List.dropWhile_sublist _).length_le (by rw [sortD_len]; exact h.slen), h.last, fun d hd => h.due d (restU_mem hd), h.jr.late _ _ _⟩
theorem KI.open_ {l : List Task} (hok : okK l = true) {n : Nat} {K : Kn} {room : Int} (hr : room = l.length) (h : KI l n K) (asks : List Int) : KI l (n + l.length + asks.length) (openP l room K asks).1 ∧ (openP l room K asks).1.now = K.now := by
  unfold openP
  split
  · exact ⟨h.mono (by omega), rfl⟩
  · have h1 := KI.dues hok hr (dueU K.now (sortD K.S)) (p := ({ (lateP K).1 with S := restU K.now (sortD K.S) }, (lateP K).2)) h.late rfl (fun d hd => by
      obtain ⟨h2, h3⟩ := dueU_mem hd
      have := h.due d h2
      have := h.now_
      omega)
    obtain ⟨h2, h3⟩ := KI.asks asks h1.1 h1.2
    refine ⟨h2.mono ?_, h3⟩
    have : (dueU K.now (sortD K.S)).length ≤ K.S.length := Nat.le_trans (List.takeWhile_sublist _).length_le (by rw [sortD_len]; exact Nat.le_refl _)
    have := h.slen
    omega
theorem KI.close {l : List Task} {n : Nat} {K : Kn} (h : KI l n K) (hn : K.now < 1000000) (ended : Bool) : KI l (n + 2) (closeK l K ended) := by
  unfold closeK
  split
  · have hB : GoodB l (n + 2) (if 0 ≤ pickV l K.B then stepB K.B K.now (pickV l K.B) ended else K.B) ∧ JR (if 0 ≤ pickV l K.B then stepB K.B K.now (pickV l K.B) ended else K.B) := by
      split
      · unfold stepB; split
        · exact ⟨(h.good.step _ _).fin _ _, (h.jr.step _ _).fin _ _⟩
        · exact ⟨(h.good.step _ _).mono, h.jr.step _ _⟩
      · exact ⟨h.good.mono.mono, h.jr⟩
    exact ⟨hB.1, ⟨(by have := h.now_.1; simp only; omega), (by simp only; omega)⟩, h.slen, fun i v hv => (by have := h.last i v hv; simp only; omega), h.due, hB.2⟩
  · exact h.mono (by omega)
/-! Who is asked for when. -/
def asksAt (asks : List Due) (t : Int) : List Int := (asks.filter fun d => decide (d.at_ = t)).map Due.task
def stepM (m : List (Int × List Int)) (d : Due) : List (Int × List Int) := setM m d.at_ ((getM m d.at_).getD [] ++ [d.task])
theorem fold_at (t : Int) : ∀ (asks : List Due) (m : List (Int × List Int)), (getM (asks.foldl stepM m) t).getD [] = (getM m t).getD [] ++ asksAt asks t
  | [], m => by simp [asksAt]
  | d :: r, m => by
    rw [List.foldl_cons, fold_at t r, stepM, getM_set]
    by_cases h : t = d.at_
    · subst h
      simp [asksAt, List.filter_cons]
    · rw [if_neg h]
      simp [asksAt, List.filter_cons, show ¬ d.at_ = t from fun e => h e.symm]
def askN (asks : List Due) (t : Int) : Nat := (asks.filter fun d => decide (0 ≤ d.at_ ∧ d.at_ < t)).length
theorem askN_next (t : Int) (ht : 0 ≤ t) : ∀ (asks : List Due), askN asks (t + 1) = askN asks t + (asksAt asks t).length
  | [] => rfl
  | d :: r => by
    have ih := askN_next t ht r
    unfold askN asksAt at *
    rw [List.filter_cons, List.filter_cons, List.filter_cons]
    rw [List.length_map] at ih ⊢
    by_cases h1 : d.at_ = t
    · rw [if_pos (by simp; omega), if_neg (by simp; omega), if_pos (by simp [h1])]
      simp only [List.length_cons]; omega
    · by_cases h2 : 0 ≤ d.at_ ∧ d.at_ < t
      · rw [if_pos (by simp; omega), if_pos (by simp; omega), if_neg (by simp [h1])]
        simp only [List.length_cons]; omega
      · rw [if_neg (by simp; omega), if_neg (by simp; omega), if_neg (by simp [h1])]
        exact ih
theorem askN_le (asks : List Due) (t : Int) : askN asks t ≤ asks.length := List.length_filter_le _ _
/-! A run. -/
def whoK (l : List Task) (K : Kn) : Int := if K.opn then max (pickV l K.B) 0 else 0
def jobK (B : Bk) (i : Int) : Job := if hasN B.act i then jobAt B i else default
def stepsK (dm : List (List Int)) (i no : Int) : Int := if (dm.length : Int) ≤ i ∨ ((dm.getD i.toNat default).length : Int) ≤ no then 1 else max 1 ((dm.getD i.toNat default).getD no.toNat default)
def endQ (l : List Task) (dm : List (List Int)) (K : Kn) : Bool := decide (stepsK dm (whoK l K) (jobK K.B (whoK l K)).no ≤ (jobK K.B (whoK l K)).steps + 1)
def tickP (l : List Task) (asks : List Due) (dm : List (List Int)) (p : Kn × List Event) (t : Nat) : Kn × List Event :=
  let o := openP l l.length p.1 (asksAt asks t)
  (closeK l o.1 (endQ l dm o.1), p.2 ++ o.2 ++ closeE l o.1 (jobK o.1.B (whoK l o.1)).steps (endQ l dm o.1))
def runP (l : List Task) (asks : List Due) (dm : List (List Int)) (n : Nat) : Kn × List Event := (List.range n).foldl (tickP l asks dm) (newK l, [])
theorem runP_next (l : List Task) (asks : List Due) (dm : List (List Int)) (n : Nat) : runP l asks dm (n + 1) = tickP l asks dm (runP l asks dm n) n := by
  rw [runP, List.range_succ, List.foldl_append]; rfl
theorem open_opn {l : List Task} {room : Int} {K : Kn} {asks : List Int} : (openP l room K asks).1.opn = true := by
  have h1 : ∀ (D : List Due) (p : Kn × List Event), p.1.opn = true → (D.foldl (dueS l room) p).1.opn = true := by
    intro D
    induction D with
    | nil => intro p h; exact h
    | cons d D ih => intro p h; exact ih _ h
  have h2 : ∀ (D : List Int) (p : Kn × List Event), p.1.opn = true → (D.foldl (askS l) p).1.opn = true := by
    intro D
    induction D with
    | nil => intro p h; exact h
    | cons d D ih =>
      intro p h
      refine ih _ ?_
      unfold askS; split <;> exact h
  unfold openP; split
  · assumption
  · exact h2 _ _ (h1 _ _ rfl)
theorem open_len {l : List Task} {room : Int} {K : Kn} {asks : List Int} (hs : K.S.length ≤ 8) : (openP l room K asks).2.length ≤ 72 + asks.length := by
  unfold openP; split
  · simp
  · rw [askS_len]
    unfold dueP
    rw [dueS_len]
    show (lateP K).2.length + _ + _ ≤ _
    have h1 : (lateP K).2.length ≤ 64 := by
      show (List.map _ _).length ≤ 64
      rw [List.length_map]
      have h3 : ∀ k, (lateBk K.B K.now (setL K.B.act) k).1.length ≤ k := by
        intro k
        induction k with
        | zero => exact Nat.le_refl _
        | succ k ih =>
          unfold lateBk
          simp only
          split
          · simp only [List.length_append, List.length_cons, List.length_nil]; omega
          · omega
      exact Nat.le_trans (h3 _) (setL_len _)
    have h2 : (dueU K.now (sortD K.S)).length ≤ K.S.length := Nat.le_trans (List.takeWhile_sublist _).length_le (by rw [sortD_len]; exact Nat.le_refl _)
    omega
theorem close_len {l : List Task} {K : Kn} {a : Int} {e : Bool} : (closeE l K a e).length ≤ 2 := by
  unfold closeE; split
  · split
    · unfold stepE; split <;> simp
    · simp
  · simp
structure RunI (l : List Task) (asks : List Due) (t : Nat) (p : Kn × List Event) : Prop where
  ki : KI l (10 * t + askN asks t) p.1
  now_ : p.1.now = t
  opn : p.1.opn = false
  len : p.2.length ≤ 80 * t + askN asks t
theorem run_inv {l : List Task} (hok : okK l = true) (asks : List Due) (dm : List (List Int)) : ∀ t : Nat, t ≤ 100000 → RunI l asks t (runP l asks dm t)
  | 0, _ => ⟨(KI.new hok).mono (by omega), rfl, rfl, Nat.zero_le _⟩
  | t + 1, ht => by
    have ih := run_inv hok asks dm t (by omega)
    rw [runP_next]
    have h8 : l.length ≤ 8 := by rw [okK, Bool.and_eq_true, decide_eq_true_eq] at hok; omega
    have ho := KI.open_ hok (room := l.length) rfl ih.ki (asksAt asks t)
    have hn := askN_next t (by omega) asks
    have hc := KI.close ho.1 (by rw [ho.2, ih.now_]; omega) (endQ l dm (openP l l.length (runP l asks dm t).1 (asksAt asks t)).1)
    have hop : (openP l l.length (runP l asks dm t).1 (asksAt asks t)).1.opn = true := open_opn
    refine ⟨hc.mono (by push_cast; omega), ?_, ?_, ?_⟩
    · show (closeK l _ _).now = _
      unfold closeK
      rw [if_pos hop]
      simp only [ho.2, ih.now_]; omega
    · show (closeK l _ _).opn = _
      unfold closeK
      rw [if_pos hop]
    · have h1 := ih.len
      have h2 := open_len (l := l) (room := l.length) (K := (runP l asks dm t).1) (asks := asksAt asks t) (Nat.le_trans ih.ki.slen h8)
      have h3 := close_len (l := l) (K := (openP l l.length (runP l asks dm t).1 (asksAt asks t)).1) (a := (jobK (openP l l.length (runP l asks dm t).1 (asksAt asks t)).1.B (whoK l (openP l l.length (runP l asks dm t).1 (asksAt asks t)).1)).steps) (e := endQ l dm (openP l l.length (runP l asks dm t).1 (asksAt asks t)).1)
      unfold tickP
      simp only [List.length_append]
      push_cast
      omega
end Go.Proofs.YtfjoaeghnfkdlaaGreatDoor
namespace Go.Proofs.YtfjoaeghnfkdlaaGreatDoor
set_option maxRecDepth 100000
set_option maxRecDepth 100000
open Go.RowKit
abbrev foA (i : Nat) (F : Fo) : Nat × Chunk := (i, .sem (foC 43 3 F))
abbrev rkX (l : List Task) (B : Bk) (F : Fo) (now : Int) (opn : Bool) : Heap :=
  [(0, .blk 50 [.lst 7 (l.map eTask), .ptr 1 0, .part 8 0, .int .i64 now, .bool opn]), (1, .blk 53 [.lst 7 (l.map eTask), .own 5, .own 6]),
   (5, .row 71 8 (B.all.map eJob)), (6, .row 60 2 (B.overs.map eDue)), foA 8 F]
abbrev rkO (l : List Task) (B : Bk) (F : Fo) (now : Int) (opn : Bool) : Heap :=
  [(110, .blk 50 [.lst 7 (l.map eTask), .ptr 111 0, .part 118 0, .int .i64 now, .bool opn]), (111, .blk 53 [.lst 7 (l.map eTask), .own 115, .own 116]),
   (115, .row 71 8 (B.all.map eJob)), (116, .row 60 2 (B.overs.map eDue)), foA 118 F]
abbrev dmyR : Heap := [dmy 110, dmy 111, dmy 115, dmy 116, dmy 118]
def atB (t : Task) (now : Int) : Bool := plainB t && decide (t.kind = 1 ∧ t.offset ≤ now ∧ now ≤ 1099511627776 ∧ (now - t.offset) % t.period = 0)
abbrev nrX (l : List Task) (c : AV) (k : Nat) : Heap :=
  [(118, .row 43 1 ((List.replicate k ()).map fun _ => [AV.nils])), (110, .blk 50 [.lst 7 (l.map eTask), .ptr 111 0, c, .int .i64 0, .bool false]), (111, .blk 53 [.lst 7 (l.map eTask), .nils, .nils])]
set_option maxHeartbeats 4000000 in
theorem new29r_fn (l : List Task) (hl : l.length ≤ 1000000) : FnH Tryz.prog 9 [.lst 7 (l.map eTask)] dmyR (fun r h' => (okK l = true → r = .ptr 110 0 ∧ h' = rkO l newB (foN (List.replicate l.length [])) 0 false) ∧ (okK l = false → r = .nilp ∧ h' = [])) := by
  refine FnH.drop' (fnhb Tryz.func9 (entered_of (by kernel_rfl)) rfl rfl ?_)
  refine wle (s' := [(0, .lst 7 (l.map eTask))]) (h' := []) les (LeH.nil _) ?_
  by_cases h1 : 1 ≤ l.length ∧ l.length ≤ 8
  · have hok : okK l = l.all plainB := by rw [okK, decide_eq_true h1, Bool.true_and]
    rw [hok]
    repeat' (first | refine sA ?_ | (show O _ _ _ _ _ _ _; first | (show O _ _ _ _ (⟨_, .box _ _, _, _, _, _⟩ :: _) _ _; first | refine ao_box (id := 111) rfl rfl rfl rfl rfl rfl rfl rfl ?_ | refine ao_box (id := 110) rfl rfl rfl rfl rfl rfl rfl rfl ?_)) | ((first | apply kM | apply kN); (iterate 3 (· exact rfl)); (· first | exact yab)) | refine sG ?_ | (refine sK ?_ ?_ <;> intro hc <;> (try simp only [KL, sL, reduceCtorEq] at hc) <;> (try (have hT : True := hc; clear hT hc)) <;> (try (exfalso; omega))))
    all_goals first | (exfalso; omega) | skip
    refine wle (s' := [(3, .ptr 110 0), (20, .lst 7 (l.map eTask)), (21, .int .i64 l.length), (22, .int .i64 0)]) (h' := [(110, .blk 50 [.lst 7 (l.map eTask), .ptr 111 0, .nils, .int .i64 0, .bool false]), (111, .blk 53 [.lst 7 (l.map eTask), .nils, .nils])]) les leh ?_
    refine wturn (turn_ownJ (fun _ : Unit => [AV.nils]) (b := 110) 2 rfl rfl 118 43 1 (by omega) rfl) ?_
    refine wloop (fun k : Nat => ([(3, .ptr 110 0), (20, .lst 7 (l.map eTask)), (21, .int .i64 l.length), (22, .int .i64 k)], nrX l (.own 118) k)) (fun k => k ≤ l.length ∧ ∀ j, j < k → plainB (l.getD j default) = true) (fun k => l.length - k) 0 ⟨Nat.zero_le _, fun j hj => by omega⟩ les (show LeH _ (nrX l (.own 118) 0) from leh) (fun k hk => ?_)
    obtain ⟨hk, hp⟩ := hk
    rcases Nat.lt_or_eq_of_le hk with hkk | hkk
    · have c1 := rplain_fn (l.getD k default)
      cases hpk : plainB (l.getD k default) <;> rw [hpk] at c1
      · have hno : l.all plainB = false := by
          rw [List.all_eq_false]
          exact ⟨_, getD_mem hkk, by rw [hpk]; decide⟩
        repeat' (first | refine sA ?_ | (show O _ _ _ _ _ _ _; first | refine ao_alloc (id := 12) rfl rfl rfl rfl rfl rfl rfl ?_) | ((first | apply kM | apply kN); (iterate 3 (· exact rfl)); (· first | exact ya | exact q_c (c1) rfl)) | refine sG ?_ | (refine sK ?_ ?_ <;> intro hc <;> (try simp only [KL, sL, reduceCtorEq] at hc) <;> (try (have hT : True := hc; clear hT hc)) <;> (try (exfalso; omega))))
        all_goals first | (exfalso; omega) | skip
        exact retq rfl ⟨[], LeH.nil _, fun h => (by rw [hno] at h; cases h), fun _ => ⟨rfl, rfl⟩⟩
      · have hnx : ∀ j, j < k + 1 → plainB (l.getD j default) = true := fun j hj => by
          rcases Nat.lt_or_eq_of_le (Nat.le_of_lt_succ hj) with q | q
          · exact hp j q
          · subst q; exact hpk
        have hrl : (List.replicate k ()).length ≤ 8 := by rw [List.length_replicate]; omega
        have hrn : (List.replicate (k + 1) ()) = List.replicate k () ++ [()] := by rw [List.replicate_succ']
        repeat' (first | refine sA ?_ | (show O _ _ _ _ _ _ _; first | refine ao_alloc (id := 12) rfl rfl rfl rfl rfl rfl rfl ?_) | ((first | apply kM | apply kN); (iterate 3 (· exact rfl)); (· first | exact ya | exact q_c (c1) rfl)) | refine sG ?_ | (refine sK ?_ ?_ <;> intro hc <;> (try simp only [KL, sL, reduceCtorEq] at hc) <;> (try (have hT : True := hc; clear hT hc)) <;> (try (exfalso; omega))))
        all_goals first | (exfalso; omega) | skip
        refine oturn (turn_mask [false, false, true] (id := 110) rfl) ?_
        refine ole (h' := nrX l .undef k) (LeS.refl _) leh ?_
        (refine ao_ap (id := 118) (ys := [()]) (by_ := 24) rfl rfl rfl rfl rfl rfl rfl rfl rfl rfl (fun _ _ => rfl) ?_ ?_ rfl rfl rfl rfl rfl ?_; (· (first | omega | ((try simp only [List.length_cons, List.length_nil, List.length_append, List.length_map]) <;> omega))); (· (first | omega | ((try simp only [List.length_cons, List.length_nil, List.length_append, List.length_map]) <;> omega))))
        repeat' (first | refine sA ?_ | ((first | apply kM | apply kN); (iterate 3 (· exact rfl)); (· first | exact ya)) | refine sG ?_ | (refine sK ?_ ?_ <;> intro hc <;> (try simp only [KL, sL, reduceCtorEq] at hc) <;> (try (have hT : True := hc; clear hT hc)) <;> (try (exfalso; omega))))
        exact ⟨k + 1, ⟨by omega, hnx⟩, by omega, les, (by show LeH _ (nrX l (.own 118) (k + 1)); rw [show nrX l (.own 118) (k + 1) = (118, .row 43 1 ((List.replicate k () ++ [()]).map fun _ => [AV.nils])) :: (nrX l (.own 118) k).tail from by rw [← hrn]; rfl]; exact leh)⟩
    · subst hkk
      have hyes : l.all plainB = true := by
        rw [List.all_eq_true]
        intro x hx
        obtain ⟨j, hj, rfl⟩ := List.mem_iff_getElem.1 hx
        have := hp j hj
        rwa [List.getD_eq_getElem?_getD, List.getElem?_eq_getElem hj, Option.getD_some] at this
      repeat' (first | refine sA ?_ | ((first | apply kM | apply kN); (iterate 3 (· exact rfl)); (· first | exact ya)) | refine sG ?_ | (refine sK ?_ ?_ <;> intro hc <;> (try simp only [KL, sL, reduceCtorEq] at hc) <;> (try (have hT : True := hc; clear hT hc)) <;> (try (exfalso; omega))))
      all_goals first | (exfalso; omega) | skip
      refine retT (fun _ => turn_ownJ eJob (b := 111) 1 rfl rfl 115 71 8 (by omega) rfl) ?_
      refine retT (fun _ => turn_ownJ eDue (b := 111) 2 rfl rfl 116 60 2 (by omega) rfl) ?_
      refine retT (fun _ => turn_mkF (e := 3) (N := 118) (b := 110) (q := 2) (k := l.length) (by simp) rfl rfl rfl rfl rfl rfl rfl) ?_
      exact retq rfl ⟨rkO l newB (foN (List.replicate l.length [])) 0 false, leh, fun _ => ⟨rfl, rfl⟩, fun h => (by rw [hyes] at h; cases h)⟩
  · have hno : okK l = false := by rw [okK, decide_eq_false h1, Bool.false_and]
    by_cases h0 : l.length = 0
    · repeat' (first | refine sA ?_ | ((first | apply kM | apply kN); (iterate 3 (· exact rfl)); (· first | exact ya)) | refine sG ?_ | (refine sK ?_ ?_ <;> intro hc <;> (try simp only [KL, sL, reduceCtorEq] at hc) <;> (try (have hT : True := hc; clear hT hc)) <;> (try (exfalso; omega))))
      all_goals first | (exfalso; omega) | exact retq rfl ⟨[], LeH.nil _, fun h => (by rw [hno] at h; cases h), fun _ => ⟨rfl, rfl⟩⟩
    · repeat' (first | refine sA ?_ | ((first | apply kM | apply kN); (iterate 3 (· exact rfl)); (· first | exact ya)) | refine sG ?_ | (refine sK ?_ ?_ <;> intro hc <;> (try simp only [KL, sL, reduceCtorEq] at hc) <;> (try (have hT : True := hc; clear hT hc)) <;> (try (exfalso; omega))))
      all_goals first | (exfalso; omega) | exact retq rfl ⟨[], LeH.nil _, fun h => (by rw [hno] at h; cases h), fun _ => ⟨rfl, rfl⟩⟩
/-! A release. -/
def ρ1 (i : Nat) : Nat := if i = 0 then 1 else i
def rlH (l : List Task) (F : Fo) (now : Int) (opn : Bool) (y : Bk) (f : Bool) : Heap := evZ 12 :: rkX l y F now opn
/-! Who is picked. -/
def ahK (l : List Task) (a b : Int) : Bool := decide (0 ≤ a ∧ a < l.length ∧ 0 ≤ b ∧ b < l.length) && befB (prios l) a b
def rpickTo (l : List Task) (B : Bk) (k : Nat) : Int := (List.range k).foldl (fun (b : Int) (i : Nat) => if hasN B.act (i : Int) && (decide (b < 0) || ahK l (i : Int) b) then (i : Int) else b) (-1)
theorem rpick_next (l : List Task) (B : Bk) (k : Nat) : rpickTo l B (k + 1) = if hasN B.act k && (decide (rpickTo l B k < 0) || ahK l k (rpickTo l B k)) then (k : Int) else rpickTo l B k := by
  rw [rpickTo, List.range_succ, List.foldl_append]; rfl
def ρ3 (i : Nat) : Nat := [1, 5, 6].getD i (i + 20)
end Go.Proofs.YtfjoaeghnfkdlaaGreatDoor
