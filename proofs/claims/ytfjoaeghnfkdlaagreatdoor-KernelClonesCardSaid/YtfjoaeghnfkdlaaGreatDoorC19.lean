/- The kernel: a tick's end. No condition. -/
import Derived.Test.YtfjoaeghnfkdlaaGreatDoorC18
import Derived.Test.YtfjoaeghnfkdlaaGreatDoorC15
set_option linter.unusedSimpArgs false
set_option linter.unusedVariables false
set_option maxHeartbeats 1000000
namespace Go.Proofs.YtfjoaeghnfkdlaaGreatDoor
set_option maxRecDepth 100000
set_option maxRecDepth 100000
open Go.RowKit
def closeE (l : List Task) (K : Kn) (at_ : Int) (ended : Bool) : List Event :=
  if K.opn then (if 0 ≤ pickV l K.B then stepE K.now (pickV l K.B) at_ ended (jobAt K.B (pickV l K.B)) (endJb K.now (jobAt (stepBk K.B (pickV l K.B) K.now) (pickV l K.B))) else [⟨K.now, 6, -1, 0, 0⟩]) else []
def closeK (l : List Task) (K : Kn) (ended : Bool) : Kn :=
  if K.opn then { K with B := if 0 ≤ pickV l K.B then stepB K.B K.now (pickV l K.B) ended else K.B, now := K.now + 1, opn := false } else K
set_option maxHeartbeats 8000000 in
theorem close_fn (l : List Task) (room : Int) (K : Kn) (n : Nat) (hl : l.length ≤ 1000000) (h : GoodB l n K.B) (hn : n ≤ 99999) (at_ : Int) (ended : Bool) (hh : 0 ≤ pickV l K.B → hasN K.B.act (pickV l K.B) = true) (hnow : 0 ≤ K.now ∧ K.now ≤ 2000000) (hrel : 0 ≤ pickV l K.B → 0 ≤ (jobAt (stepBk K.B (pickV l K.B) K.now) (pickV l K.B)).release ∧ (jobAt (stepBk K.B (pickV l K.B) K.now) (pickV l K.B)).release ≤ 2000000) :
    FnH Tryz.prog 12 [.ptr 0 0, .int .i64 at_, .bool ended] (tab9 :: knH l room K)
    (fun r h' => r = .lst 5 ((closeE l K at_ ended).map eEvent) ∧ h' = tab9 :: knH l room (closeK l K ended)) := by
  obtain ⟨B, S, last, now, opn⟩ := K
  simp only at h hh hnow hrel ⊢
  refine FnH.drop' (fnhb Tryz.func12 (entered_of (by kernel_rfl)) rfl rfl ?_)
  cases opn
  case false =>
    repeat' (first | refine sA ?_ | ((first | apply kM | apply kN); (iterate 3 (· exact rfl)); (· first | exact ya)) | refine sG ?_ | (refine sK ?_ ?_ <;> intro hc <;> (try simp only [KL, sL, reduceCtorEq] at hc) <;> (try (have hT : True := hc; clear hT hc)) <;> (try (exfalso; omega))))
    refine retT (fun _ => turn_nil 5 (t := 6) rfl) ?_
    exact retq rfl ⟨tab9 :: knX l room B S last now false, leh, rfl, rfl⟩
  have c1 := pickK_fn l room ⟨B, S, last, now, true⟩ hl h.act
  have eE : closeE l ⟨B, S, last, now, true⟩ at_ ended = if 0 ≤ pickV l B then stepE now (pickV l B) at_ ended (jobAt B (pickV l B)) (endJb now (jobAt (stepBk B (pickV l B) now) (pickV l B))) else [⟨now, 6, -1, 0, 0⟩] := rfl
  have eK : closeK l ⟨B, S, last, now, true⟩ ended = ⟨if 0 ≤ pickV l B then stepB B now (pickV l B) ended else B, S, last, now + 1, false⟩ := rfl
  rw [eE, eK]
  have c3 : FnH Tryz.prog 10 [.ptr 0 0] (tab9 :: knX l room B S last now true) (fun r h' => r = .tup [.int .i64 (max (pickV l B) 0), .bool (decide (0 ≤ pickV l B))] ∧ h' = tab9 :: knX l room B S last now true) := c1
  clear c1
  by_cases hp : 0 ≤ pickV l B
  · have c2 := step_fn l room ⟨B, S, last, now, true⟩ n h hn (pickV l B) at_ ended (hh hp) hnow (hrel hp)
    rw [if_pos hp, if_pos hp]
    have hmx : max (pickV l B) 0 = pickV l B := by omega
    have c1 : FnH Tryz.prog 10 [.ptr 0 0] (tab9 :: knX l room B S last now true) (fun r h' => r = .tup [.int .i64 (pickV l B), .bool true] ∧ h' = tab9 :: knX l room B S last now true) := by rw [hmx, decide_eq_true hp] at c3; exact c3
    generalize pickV l B = pv at *
    repeat' (first | refine sA ?_ | ((first | apply kM | apply kN); (iterate 3 (· exact rfl)); (· first | exact ya)) | refine sG ?_ | (refine sK ?_ ?_ <;> intro hc <;> (try simp only [KL, sL, reduceCtorEq] at hc) <;> (try (have hT : True := hc; clear hT hc)) <;> (try (exfalso; omega))))
    refine zcall (fun i => ρK i) (event_fn l room ⟨B, S, last, now, true⟩ 6 (-1) 0 0) rfl rfl leh (by kernel_rfl) (by kernel_rfl) (by kernel_rfl) (by kernel_rfl) rfl rfl (fun r h' hR => ?_)
    obtain ⟨rfl, rfl⟩ := hR
    refine ⟨rfl, rfl, ?_⟩
    refine ole (h' := tab9 :: knX l room B S last now true) (LeS.refl _) leh ?_
    repeat' (first | refine sA ?_ | ((first | apply kM | apply kN); (iterate 3 (· exact rfl)); (· first | exact ya)) | refine sG ?_ | (refine sK ?_ ?_ <;> intro hc <;> (try simp only [KL, sL, reduceCtorEq] at hc) <;> (try (have hT : True := hc; clear hT hc)) <;> (try (exfalso; omega))))
    refine zcall (fun i => ρK i) (c1) rfl rfl leh (by kernel_rfl) (by kernel_rfl) (by kernel_rfl) (by kernel_rfl) rfl rfl (fun r h' hR => ?_)
    obtain ⟨rfl, rfl⟩ := hR
    refine ⟨rfl, rfl, ?_⟩
    refine ole (s' := [(0, .ptr 0 0), (1, .int .i64 at_), (2, .bool ended), (7, .lst 5 ([(⟨now, 6, -1, 0, 0⟩ : Event)].map eEvent)), (24, .tup [.int .i64 (pv), .bool true])]) (h' := tab9 :: knX l room B S last now true) les leh ?_
    repeat' (first | refine sA ?_ | ((first | apply kM | apply kN); (iterate 3 (· exact rfl)); (· first | exact ya)) | refine sG ?_ | (refine sK ?_ ?_ <;> intro hc <;> (try simp only [KL, sL, reduceCtorEq] at hc) <;> (try (have hT : True := hc; clear hT hc)) <;> (try (exfalso; omega))))
    refine zcall (fun i => ρK i) (c2) rfl rfl leh (by kernel_rfl) (by kernel_rfl) (by kernel_rfl) (by kernel_rfl) rfl rfl (fun r h' hR => ?_)
    obtain ⟨rfl, rfl⟩ := hR
    refine ⟨rfl, rfl, ?_⟩
    refine ole (s' := [(0, .ptr 0 0), (32, .lst 5 ((stepE now pv at_ ended (jobAt B pv) (endJb now (jobAt (stepBk B pv now) pv))).map eEvent))]) (h' := tab9 :: knX l room (stepB B now pv ended) S last now true) les leh ?_
    repeat' (first | refine sA ?_ | ((first | apply kM | apply kN); (iterate 3 (· exact rfl)); (· first | exact ya)) | refine sG ?_ | (refine sK ?_ ?_ <;> intro hc <;> (try simp only [KL, sL, reduceCtorEq] at hc) <;> (try (have hT : True := hc; clear hT hc)) <;> (try (exfalso; omega))))
    exact retq rfl ⟨tab9 :: knX l room (stepB B now pv ended) S last (now + 1) false, leh, rfl, rfl⟩
  · rw [if_neg hp, if_neg hp]
    have c1 : FnH Tryz.prog 10 [.ptr 0 0] (tab9 :: knX l room B S last now true) (fun r h' => r = .tup [.int .i64 (max (pickV l B) 0), .bool false] ∧ h' = tab9 :: knX l room B S last now true) := by rw [decide_eq_false hp] at c3; exact c3
    repeat' (first | refine sA ?_ | ((first | apply kM | apply kN); (iterate 3 (· exact rfl)); (· first | exact ya)) | refine sG ?_ | (refine sK ?_ ?_ <;> intro hc <;> (try simp only [KL, sL, reduceCtorEq] at hc) <;> (try (have hT : True := hc; clear hT hc)) <;> (try (exfalso; omega))))
    refine zcall (fun i => ρK i) (event_fn l room ⟨B, S, last, now, true⟩ 6 (-1) 0 0) rfl rfl leh (by kernel_rfl) (by kernel_rfl) (by kernel_rfl) (by kernel_rfl) rfl rfl (fun r h' hR => ?_)
    obtain ⟨rfl, rfl⟩ := hR
    refine ⟨rfl, rfl, ?_⟩
    refine ole (h' := tab9 :: knX l room B S last now true) (LeS.refl _) leh ?_
    repeat' (first | refine sA ?_ | ((first | apply kM | apply kN); (iterate 3 (· exact rfl)); (· first | exact ya)) | refine sG ?_ | (refine sK ?_ ?_ <;> intro hc <;> (try simp only [KL, sL, reduceCtorEq] at hc) <;> (try (have hT : True := hc; clear hT hc)) <;> (try (exfalso; omega))))
    refine zcall (fun i => ρK i) (c1) rfl rfl leh (by kernel_rfl) (by kernel_rfl) (by kernel_rfl) (by kernel_rfl) rfl rfl (fun r h' hR => ?_)
    obtain ⟨rfl, rfl⟩ := hR
    refine ⟨rfl, rfl, ?_⟩
    refine ole (s' := [(0, .ptr 0 0), (1, .int .i64 at_), (2, .bool ended), (7, .lst 5 ([(⟨now, 6, -1, 0, 0⟩ : Event)].map eEvent)), (24, .tup [.int .i64 (max (pickV l B) 0), .bool false])]) (h' := tab9 :: knX l room B S last now true) les leh ?_
    repeat' (first | refine sA ?_ | ((first | apply kM | apply kN); (iterate 3 (· exact rfl)); (· first | exact ya)) | refine sG ?_ | (refine sK ?_ ?_ <;> intro hc <;> (try simp only [KL, sL, reduceCtorEq] at hc) <;> (try (have hT : True := hc; clear hT hc)) <;> (try (exfalso; omega))))
    exact retq rfl ⟨tab9 :: knX l room B S last (now + 1) false, leh, rfl, rfl⟩
theorem pick_in {prio : List Int} : ∀ (q : List Int) (b : Int), q.foldl (pick1 prio) b = b ∨ q.foldl (pick1 prio) b ∈ q
  | [], b => .inl rfl
  | x :: q, b => by
    rw [List.foldl_cons]
    rcases pick_in q (pick1 prio b x) with h | h
    · rw [h]; unfold pick1; split
      · exact .inr List.mem_cons_self
      · exact .inl rfl
    · exact .inr (List.mem_cons_of_mem _ h)
theorem pickV_has {l : List Task} {B : Bk} (h : 0 ≤ pickV l B) : hasN B.act (pickV l B) = true := by
  rw [hasN_eq, decide_eq_true_eq]
  unfold pickV pickTo at *
  rw [List.take_length] at *
  rcases pick_in (prio := prios l) (setL B.act) (-1) with e | e
  · omega
  · exact e
end Go.Proofs.YtfjoaeghnfkdlaaGreatDoor
namespace Go.Proofs.YtfjoaeghnfkdlaaGreatDoor
set_option maxRecDepth 100000
set_option maxRecDepth 100000
open Go.RowKit
def lateE (B : Bk) (now : Int) (i : Int) : Event := ⟨now, 4, i, (if hasN B.act i then jobAt B i else default).no, 0⟩
def nextD (l : List Task) (d : Due) : Due := ⟨d.at_ + (l.getD d.task.toNat default).period, d.task⟩
def dueS (l : List Task) (room : Int) (p : Kn × List Event) (d : Due) : Kn × List Event := ({ letK l p.1 d.task with S := pushL room p.1.S (nextD l d) }, p.2 ++ [letE l p.1 d.task])
def askS (l : List Task) (p : Kn × List Event) (i : Int) : Kn × List Event :=
  if passQ l p.1 i then (letK l (passK l p.1 i) i, p.2 ++ [letE l (passK l p.1 i) i]) else (passK l p.1 i, p.2 ++ [⟨p.1.now, 2, i, 0, 0⟩])
def lateP (K : Kn) : Kn × List Event :=
  let L := lateBk K.B K.now (setL K.B.act) (setL K.B.act).length
  (⟨L.2, K.S, K.last, K.now, true⟩, L.1.map (lateE L.2 K.now))
def dueP (l : List Task) (room : Int) (K : Kn) : Kn × List Event := (dueU K.now (sortD K.S)).foldl (dueS l room) ({ (lateP K).1 with S := restU K.now (sortD K.S) }, (lateP K).2)
def openP (l : List Task) (room : Int) (K : Kn) (asks : List Int) : Kn × List Event := if K.opn then (K, []) else asks.foldl (askS l) (dueP l room K)
theorem fold_next {α β : Type} [Inhabited β] (f : α → β → α) (a : α) (l : List β) {k : Nat} (h : k < l.length) : (l.take (k + 1)).foldl f a = f ((l.take k).foldl f a) (l.getD k default) := by
  have e : l.getD k default = l[k] := by simp [h]
  rw [List.take_succ_eq_append_getElem h, List.foldl_append, e]; rfl
theorem map_next {α β : Type} [Inhabited α] (f : α → β) (l : List α) {k : Nat} (h : k < l.length) : (l.take (k + 1)).map f = (l.take k).map f ++ [f (l.getD k default)] := by
  have e : l.getD k default = l[k] := by simp [h]
  rw [List.take_succ_eq_append_getElem h, List.map_append, e]; rfl
structure OpI (l : List Task) (n : Nat) (now : Int) (m : Nat) (K : Kn) : Prop where
  good : GoodB l n K.B
  now_ : K.now = now
  opn : K.opn = true
  slen : K.S.length ≤ m
  last : ∀ i v, getM K.last i = some v → 0 ≤ v ∧ v ≤ now
theorem pushL_len (room : Int) (S : List Due) (d : Due) : (pushL room S d).length ≤ S.length + 1 := by
  unfold pushL; split
  · simp
  · omega
theorem OpI.due {l : List Task} {n m : Nat} {now room : Int} {p : Kn × List Event} (h : OpI l n now m p.1) (d : Due) : OpI l (n + 1) now (m + 1) (dueS l room p d).1 :=
  ⟨h.good.rel _ _, h.now_, h.opn, Nat.le_trans (pushL_len _ _ _) (Nat.succ_le_succ h.slen), h.last⟩
theorem OpI.pass {l : List Task} {n m : Nat} {now : Int} {K : Kn} (h0 : 0 ≤ now) (h : OpI l n now m K) (i : Int) : OpI l n now m (passK l K i) := by
  refine ⟨h.good, h.now_, h.opn, h.slen, fun j v hv => ?_⟩
  unfold passK at hv
  simp only at hv
  split at hv
  · rw [getM_set] at hv
    split at hv
    · cases hv; rw [h.now_]; omega
    · exact h.last j v hv
  · exact h.last j v hv
theorem OpI.let_ {l : List Task} {n m : Nat} {now : Int} {K : Kn} (h : OpI l n now m K) (i : Int) : OpI l (n + 1) now m (letK l K i) :=
  ⟨h.good.rel _ _, h.now_, h.opn, h.slen, h.last⟩
theorem OpI.ask {l : List Task} {n m : Nat} {now : Int} {p : Kn × List Event} (h0 : 0 ≤ now) (h : OpI l n now m p.1) (i : Int) : OpI l (n + 1) now m (askS l p i).1 := by
  unfold askS
  split
  · exact (h.pass h0 i).let_ i
  · have := h.pass h0 i
    exact ⟨this.good.mono, this.now_, this.opn, this.slen, this.last⟩
theorem OpI.dues {l : List Task} {now room : Int} : ∀ (D : List Due) {n m : Nat} {p : Kn × List Event}, OpI l n now m p.1 → OpI l (n + D.length) now (m + D.length) (D.foldl (dueS l room) p).1
  | [], n, m, p, h => h
  | d :: r, n, m, p, h => by
    have := OpI.dues (room := room) r (h.due (room := room) d)
    rw [List.foldl_cons, List.length_cons, show n + (r.length + 1) = n + 1 + r.length by omega, show m + (r.length + 1) = m + 1 + r.length by omega]
    exact this
theorem OpI.asks {l : List Task} {now : Int} (h0 : 0 ≤ now) : ∀ (D : List Int) {n m : Nat} {p : Kn × List Event}, OpI l n now m p.1 → OpI l (n + D.length) now m (D.foldl (askS l) p).1
  | [], n, m, p, h => h
  | d :: r, n, m, p, h => by
    have := OpI.asks h0 r (h.ask h0 d)
    rw [List.foldl_cons, List.length_cons, show n + (r.length + 1) = n + 1 + r.length by omega]
    exact this
theorem OpI.late {l : List Task} {n m : Nat} {K : Kn} (hg : GoodB l n K.B) (hs : K.S.length ≤ m) (hL : ∀ i v, getM K.last i = some v → 0 ≤ v ∧ v ≤ K.now) : OpI l n K.now m (lateP K).1 :=
  ⟨(hg.late _ _ _).1, rfl, rfl, hs, hL⟩
theorem dueS_len {l : List Task} {room : Int} : ∀ (D : List Due) (p : Kn × List Event), (D.foldl (dueS l room) p).2.length = p.2.length + D.length
  | [], p => rfl
  | d :: r, p => by rw [List.foldl_cons, dueS_len r, dueS, List.length_append]; simp only [List.length_cons, List.length_nil]; omega
theorem askS_len {l : List Task} : ∀ (D : List Int) (p : Kn × List Event), (D.foldl (askS l) p).2.length = p.2.length + D.length
  | [], p => rfl
  | d :: r, p => by
    rw [List.foldl_cons, askS_len r]
    unfold askS
    split <;> (rw [List.length_append]; simp only [List.length_cons, List.length_nil]; omega)
abbrev evR (es : List Event) : Nat × Chunk := (20, .row 68 5 (es.map eEvent))
def opH (l : List Task) (room : Int) (S : List Due) (last : List (Int × Int)) (now : Int) (es : List Event) (y : Bk) (f : Bool) : Heap := tab9 :: evR es :: knX l room y S last now true
def opU (l : List Task) (room : Int) (B : Bk) (last : List (Int × Int)) (now : Int) (es : List Event) (y : List Due) (f : Bool) : Heap := tab9 :: evR es :: knX l room B y last now true
def opV (l : List Task) (room : Int) (d : Due) (B : Bk) (last : List (Int × Int)) (now : Int) (opn : Bool) (es : List Event) (y : List Due) (f : Bool) : Heap := (12, .blk 60 (eDue d)) :: tab9 :: evR es :: knX l room B y last now opn
def ρT (i : Nat) : Nat := if i = 0 then 1 else if i = 7 then 9 else i
set_option maxHeartbeats 16000000 in
theorem open_fn (l : List Task) (room : Int) (K : Kn) (n m : Nat) (hl : l.length ≤ 1000000) (h : GoodB l n K.B) (hnow : 0 ≤ K.now ∧ K.now ≤ 2000000) (hs : K.S.length ≤ m) (hL : ∀ i v, getM K.last i = some v → 0 ≤ v ∧ v ≤ K.now)
    (hd : ∀ d ∈ K.S, 0 ≤ d.task ∧ d.task < l.length ∧ d.at_ + (l.getD d.task.toNat default).period ≤ 9000000000000000000 ∧ -9000000000000000000 ≤ d.at_ + (l.getD d.task.toNat default).period) (asks : List Int) (hn : n + m + m + asks.length ≤ 90000) (hm4 : m ≤ 4000) :
    FnH Tryz.prog 11 [.ptr 0 0, .lst 1 (asks.map eI)] (tab9 :: knH l room K)
    (fun r h' => r = .lst 5 ((openP l room K asks).2.map eEvent) ∧ h' = tab9 :: knH l room (openP l room K asks).1) := by
  have i1 := OpI.late (n := n) h hs hL
  have hDm : ∀ d ∈ dueU K.now (sortD K.S), d ∈ K.S := fun d hd => (sortD_perm K.S).mem_iff.1 ((List.takeWhile_sublist _).subset hd)
  have hDl : (dueU K.now (sortD K.S)).length ≤ m := Nat.le_trans (List.takeWhile_sublist _).length_le (by rw [sortD_len]; exact hs)
  have hRl : (restU K.now (sortD K.S)).length ≤ m := Nat.le_trans (List.dropWhile_sublist _).length_le (by rw [sortD_len]; exact hs)
  have i2 : OpI l n K.now m ({ (lateP K).1 with S := restU K.now (sortD K.S) } : Kn) := ⟨i1.good, i1.now_, i1.opn, hRl, i1.last⟩
  obtain ⟨B, S, last, now, opn⟩ := K
  simp only at h hnow hs hL hd hDm hDl hRl i2
  refine FnH.drop' (fnhb Tryz.func11 (entered_of (by kernel_rfl)) rfl rfl ?_)
  cases opn
  case true =>
    repeat' (first | refine sA ?_ | ((first | apply kM | apply kN); (iterate 3 (· exact rfl)); (· first | exact ya)) | refine sG ?_ | (refine sK ?_ ?_ <;> intro hc <;> (try simp only [KL, sL, reduceCtorEq] at hc) <;> (try (have hT : True := hc; clear hT hc)) <;> (try (exfalso; omega))))
    refine retT (fun _ => turn_nil 5 (t := 4) rfl) ?_
    exact retq rfl ⟨tab9 :: knX l room B S last now true, leh, rfl, rfl⟩
  have c1 := lateJ_fn l B n h (by omega) now
  have e1 : lateP ⟨B, S, last, now, false⟩ = (⟨(lateBk B now (setL B.act) (setL B.act).length).2, S, last, now, true⟩, (lateBk B now (setL B.act) (setL B.act).length).1.map (lateE (lateBk B now (setL B.act) (setL B.act).length).2 now)) := rfl
  have hkl := (h.late now (setL B.act) (setL B.act).length).2.2
  have hsl := setL_len B.act
  have eO : openP l room ⟨B, S, last, now, false⟩ asks = asks.foldl (askS l) ((dueU now (sortD S)).foldl (dueS l room) ({ (lateP ⟨B, S, last, now, false⟩).1 with S := restU now (sortD S) }, (lateP ⟨B, S, last, now, false⟩).2)) := rfl
  rw [eO]
  rw [e1] at i2 ⊢
  obtain ⟨ks, hks⟩ : ∃ ks, ks = (lateBk B now (setL B.act) (setL B.act).length).1 := ⟨_, rfl⟩
  obtain ⟨B1, hB1⟩ : ∃ B1, B1 = (lateBk B now (setL B.act) (setL B.act).length).2 := ⟨_, rfl⟩
  rw [← hks] at c1 hkl i2 ⊢
  rw [← hB1] at c1 i2 ⊢
  have g1 : GoodB l n B1 := i2.good
  repeat' (first | refine sB ?_ | ((first | apply kM | apply kN); (iterate 3 (· exact rfl)); (· first | exact ya)) | refine sG ?_ | (refine sK ?_ ?_ <;> intro hc <;> (try simp only [KL, sL, reduceCtorEq] at hc) <;> (try (have hT : True := hc; clear hT hc)) <;> (try (exfalso; omega))))
  refine wle (s' := [(0, .ptr 0 0), (1, .lst 1 (asks.map eI)), (5, .nils)]) (h' := tab9 :: knX l room B S last now true) les leh ?_
  refine wturn (turn_own eEvent (t := 5) rfl 20 68 5 (by omega) rfl) ?_
  refine wle (s' := [(0, .ptr 0 0), (1, .lst 1 (asks.map eI)), (5, .own 20)]) (h' := opH l room S last now [] B false) les (show LeH _ (tab9 :: evR [] :: knX l room B S last now true) from leh) ?_
  refine wdrawQ (opH l room S last now []) (fun _ => True) (fun _ => True) [8] [] 0 99 (nwR 8 [5, 6, 9]) B (LeH.refl _) (by kernel_rfl) (by kernel_rfl) (by kernel_rfl) trivial trivial rfl rfl rfl rfl ?_
  refine qw_new (v := .ptr 0 0) rfl rfl (by kernel_rfl) (fun y hy => tn_ok ya) ?_
  repeat' (first | refine sA ?_ | ((first | apply kM | apply kN); (iterate 3 (· exact rfl)); (· first | exact ya)) | (show QW _ _ _ _ _ _ _ _ _ _ _ _ _ _ _; first | refine qw_nil ?_ | (apply qw_any; (· exact rfl); (· exact rfl); (· exact rfl); (· intro y' f' hy'; first | exact ya); (· first | exact rfl | kernel_rfl))) | refine sG ?_ | (refine sK ?_ ?_ <;> intro hc <;> (try simp only [KL, sL, reduceCtorEq] at hc) <;> (try (have hT : True := hc; clear hT hc)) <;> (try (exfalso; omega))))
  refine qw_tu (x' := B1) rfl rfl rfl trivial trivial (fun f hf => tl_call ρT c1 rfl (show LeH (tab9 :: evR [] :: knX l room B S last now true) _ from leh) rfl rfl rfl rfl rfl rfl rfl rfl (show LeH _ (tab9 :: evR [] :: knX l room B1 S last now true) from leh)) (by kernel_rfl) ?_
  repeat' (first | refine sA ?_ | ((first | apply kM | apply kN); (iterate 3 (· exact rfl)); (· first | exact ya)) | (show QW _ _ _ _ _ _ _ _ _ _ _ _ _ _ _; first | refine qw_nil ?_ | (apply qw_any; (· exact rfl); (· exact rfl); (· exact rfl); (· intro y' f' hy'; first | exact ya); (· first | exact rfl | kernel_rfl))) | refine sG ?_ | (refine sK ?_ ?_ <;> intro hc <;> (try simp only [KL, sL, reduceCtorEq] at hc) <;> (try (have hT : True := hc; clear hT hc)) <;> (try (exfalso; omega))))
  refine wloop (fun k : Nat => ([(0, .ptr 0 0), (1, .lst 1 (asks.map eI)), (5, .own 20), (33, .lst 1 (ks.map eI)), (34, .int .i64 ks.length), (35, .int .i64 k)], tab9 :: evR ((ks.take k).map (lateE B1 now)) :: knX l room B1 S last now true)) (fun k => k ≤ ks.length) (fun k => ks.length - k) 0 (Nat.zero_le _) les (show LeH (tab9 :: evR [] :: knX l room B1 S last now true) _ from leh) (fun k hk => ?_)
  rcases Nat.lt_or_eq_of_le hk with hkk | hkk
  · have hnx := map_next (lateE B1 now) ks hkk
    have hel : ((ks.take k).map (lateE B1 now)).length ≤ 64 := by rw [List.length_map, List.length_take]; omega
    generalize (ks.take k).map (lateE B1 now) = es at hnx hel ⊢
    repeat' (first | refine sA ?_ | ((first | apply kM | apply kN); (iterate 3 (· exact rfl)); (· first | exact ya)) | refine sG ?_ | (refine sK ?_ ?_ <;> intro hc <;> (try simp only [KL, sL, reduceCtorEq] at hc) <;> (try (have hT : True := hc; clear hT hc)) <;> (try (exfalso; omega))))
    all_goals first | (exfalso; omega) | skip
    refine zcall (fun i => ρL i) (getJ_fn l B1 n g1 (ks.getD k default)) rfl rfl leh (by kernel_rfl) (by kernel_rfl) (by kernel_rfl) (by kernel_rfl) rfl rfl (fun r h' hR => ?_)
    obtain ⟨rfl, rfl⟩ := hR
    refine ⟨rfl, rfl, ?_⟩
    refine ole (h' := tab9 :: evR es :: knX l room B1 S last now true) (LeS.refl _) leh ?_
    repeat' (first | refine sA ?_ | (show O _ _ _ _ _ _ _; first | refine ao_alloc (id := 12) rfl rfl rfl rfl rfl rfl rfl ?_) | ((first | apply kM | apply kN); (iterate 3 (· exact rfl)); (· first | exact ya)) | refine sG ?_ | (refine sK ?_ ?_ <;> intro hc <;> (try simp only [KL, sL, reduceCtorEq] at hc) <;> (try (have hT : True := hc; clear hT hc)) <;> (try (exfalso; omega))))
    refine zcall (fun i => ρK i) (event_fn l room ⟨B1, S, last, now, true⟩ 4 (ks.getD k default) (if hasN B1.act (ks.getD k default) then jobAt B1 (ks.getD k default) else default).no 0) rfl rfl leh (by kernel_rfl) (by kernel_rfl) (by kernel_rfl) (by kernel_rfl) rfl rfl (fun r h' hR => ?_)
    obtain ⟨rfl, rfl⟩ := hR
    refine ⟨rfl, rfl, ?_⟩
    refine ole (h' := tab9 :: evR es :: knX l room B1 S last now true) (LeS.refl _) leh ?_
    repeat' (first | refine sA ?_ | ((first | apply kM | apply kN); (iterate 3 (· exact rfl)); (· first | exact ya)) | refine sG ?_ | (refine sK ?_ ?_ <;> intro hc <;> (try simp only [KL, sL, reduceCtorEq] at hc) <;> (try (have hT : True := hc; clear hT hc)) <;> (try (exfalso; omega))))
    (refine ao_ap (id := 20) (ys := [lateE B1 now (ks.getD k default)]) (by_ := 40) rfl rfl rfl rfl rfl rfl rfl rfl rfl rfl (fun _ _ => rfl) ?_ ?_ rfl rfl rfl rfl rfl ?_; (· (first | omega | ((try simp only [List.length_cons, List.length_nil, List.length_append, List.length_map]) <;> omega))); (· (first | omega | ((try simp only [List.length_cons, List.length_nil, List.length_append, List.length_map]) <;> omega))))
    repeat' (first | refine sA ?_ | ((first | apply kM | apply kN); (iterate 3 (· exact rfl)); (· first | exact ya)) | refine sG ?_ | (refine sK ?_ ?_ <;> intro hc <;> (try simp only [KL, sL, reduceCtorEq] at hc) <;> (try (have hT : True := hc; clear hT hc)) <;> (try (exfalso; omega))))
    exact ⟨k + 1, by omega, by omega, les, by simp only [hnx]; exact leh⟩
  subst hkk
  rw [List.take_length]
  obtain ⟨es1, hes1⟩ : ∃ es1, es1 = ks.map (lateE B1 now) := ⟨_, rfl⟩
  rw [← hes1]
  have hel1 : es1.length ≤ 64 := by rw [hes1, List.length_map]; omega
  have c4 := untilS_fn now room S (by omega)
  obtain ⟨D, hD⟩ : ∃ D, D = dueU now (sortD S) := ⟨_, rfl⟩
  obtain ⟨R, hR0⟩ : ∃ R, R = restU now (sortD S) := ⟨_, rfl⟩
  rw [← hD] at c4 hDm hDl ⊢
  rw [← hR0] at c4 hRl i2 ⊢
  repeat' (first | refine sB ?_ | ((first | apply kM | apply kN); (iterate 3 (· exact rfl)); (· first | exact ya)) | refine sG ?_ | (refine sK ?_ ?_ <;> intro hc <;> (try simp only [KL, sL, reduceCtorEq] at hc) <;> (try (have hT : True := hc; clear hT hc)) <;> (try (exfalso; omega))))
  refine wle (s' := [(0, .ptr 0 0), (1, .lst 1 (asks.map eI)), (5, .own 20)]) (h' := opU l room B1 last now es1 S false) les (show LeH _ (tab9 :: evR es1 :: knX l room B1 S last now true) from leh) ?_
  refine wdrawQ (opU l room B1 last now es1) (fun _ => True) (fun _ => True) [8] [] 0 99 (nwR 8 [7]) S (LeH.refl _) (by kernel_rfl) (by kernel_rfl) (by kernel_rfl) trivial trivial rfl rfl rfl rfl ?_
  refine qw_new (v := .ptr 0 0) rfl rfl (by kernel_rfl) (fun y hy => tn_ok ya) ?_
  repeat' (first | refine sA ?_ | ((first | apply kM | apply kN); (iterate 3 (· exact rfl)); (· first | exact ya)) | (show QW _ _ _ _ _ _ _ _ _ _ _ _ _ _ _; first | refine qw_nil ?_ | (apply qw_any; (· exact rfl); (· exact rfl); (· exact rfl); (· intro y' f' hy'; first | exact ya); (· first | exact rfl | kernel_rfl))) | refine sG ?_ | (refine sK ?_ ?_ <;> intro hc <;> (try simp only [KL, sL, reduceCtorEq] at hc) <;> (try (have hT : True := hc; clear hT hc)) <;> (try (exfalso; omega))))
  refine qw_tu (x' := R) rfl rfl rfl trivial trivial (fun f hf => tl_call ρA c4 rfl (show LeH (tab9 :: evR es1 :: knX l room B1 S last now true) _ from leh) rfl rfl rfl rfl rfl rfl rfl rfl (show LeH _ (tab9 :: evR es1 :: knX l room B1 R last now true) from leh)) (by kernel_rfl) ?_
  repeat' (first | refine sA ?_ | ((first | apply kM | apply kN); (iterate 3 (· exact rfl)); (· first | exact ya)) | (show QW _ _ _ _ _ _ _ _ _ _ _ _ _ _ _; first | refine qw_nil ?_ | (apply qw_any; (· exact rfl); (· exact rfl); (· exact rfl); (· intro y' f' hy'; first | exact ya); (· first | exact rfl | kernel_rfl))) | refine sG ?_ | (refine sK ?_ ?_ <;> intro hc <;> (try simp only [KL, sL, reduceCtorEq] at hc) <;> (try (have hT : True := hc; clear hT hc)) <;> (try (exfalso; omega))))
  refine wloop (fun k : Nat => ([(0, .ptr 0 0), (1, .lst 1 (asks.map eI)), (5, .own 20), (65, .lst 2 (D.map eDue)), (66, .int .i64 D.length), (67, .int .i64 k)], tab9 :: evR ((D.take k).foldl (dueS l room) ((⟨B1, R, last, now, true⟩ : Kn), es1)).2 :: knH l room ((D.take k).foldl (dueS l room) ((⟨B1, R, last, now, true⟩ : Kn), es1)).1)) (fun k => k ≤ D.length) (fun k => D.length - k) 0 (Nat.zero_le _) les (show LeH (tab9 :: evR es1 :: knX l room B1 R last now true) _ from leh) (fun k hk2 => ?_)
  rcases Nat.lt_or_eq_of_le hk2 with hkd | hkd
  · have hnx := fold_next (dueS l room) ((⟨B1, R, last, now, true⟩ : Kn), es1) D hkd
    have hI := OpI.dues (room := room) (D.take k) (p := ((⟨B1, R, last, now, true⟩ : Kn), es1)) i2
    have hev := dueS_len (l := l) (room := room) (D.take k) ((⟨B1, R, last, now, true⟩ : Kn), es1)
    have hdd := hd _ (hDm _ (getD_mem hkd))
    rw [List.length_take, Nat.min_eq_left (by omega)] at hI hev
    generalize (D.take k).foldl (dueS l room) ((⟨B1, R, last, now, true⟩ : Kn), es1) = p at hnx hI hev ⊢
    obtain ⟨⟨B', S', last', now', opn'⟩, es'⟩ := p
    obtain ⟨q1, q2, q3, q4, q5⟩ := hI
    simp only at q1 q2 q3 q4 hev
    subst now'
    subst opn'
    repeat' (first | refine sA ?_ | (show O _ _ _ _ _ _ _; first | refine ao_alloc (id := 12) rfl rfl rfl rfl rfl rfl rfl ?_) | ((first | apply kM | apply kN); (iterate 3 (· exact rfl)); (· first | exact ya)) | refine sG ?_ | (refine sK ?_ ?_ <;> intro hc <;> (try simp only [KL, sL, reduceCtorEq] at hc) <;> (try (have hT : True := hc; clear hT hc)) <;> (try (exfalso; omega))))
    all_goals first | (exfalso; omega) | skip
    refine ole (h' := (12, .blk 60 (eDue (D.getD k default))) :: tab9 :: evR es' :: knX l room B' S' last' now true) (LeS.refl _) leh ?_
    refine zcall (fun i => ρK i) (let_fn l room ⟨B', S', last', now, true⟩ (n + k) q1 (by omega) (D.getD k default).task) rfl rfl leh (by kernel_rfl) (by kernel_rfl) (by kernel_rfl) (by kernel_rfl) rfl rfl (fun r h' hR => ?_)
    obtain ⟨rfl, rfl⟩ := hR
    refine ⟨rfl, rfl, ?_⟩
    refine ole (h' := (12, .blk 60 (eDue (D.getD k default))) :: tab9 :: evR es' :: knX l room (relBk l B' (D.getD k default).task now) S' last' now true) (LeS.refl _) leh ?_
    repeat' (first | refine sA ?_ | ((first | apply kM | apply kN); (iterate 3 (· exact rfl)); (· first | exact ya)) | refine sG ?_ | (refine sK ?_ ?_ <;> intro hc <;> (try simp only [KL, sL, reduceCtorEq] at hc) <;> (try (have hT : True := hc; clear hT hc)) <;> (try (exfalso; omega))))
    (refine ao_ap (id := 20) (ys := [letE l ⟨B', S', last', now, true⟩ (D.getD k default).task]) (by_ := 40) rfl rfl rfl rfl rfl rfl rfl rfl rfl rfl (fun _ _ => rfl) ?_ ?_ rfl rfl rfl rfl rfl ?_; (· (first | omega | ((try simp only [List.length_cons, List.length_nil, List.length_append, List.length_map]) <;> omega))); (· (first | omega | ((try simp only [List.length_cons, List.length_nil, List.length_append, List.length_map]) <;> omega))))
    repeat' (first | refine sB ?_ | ((first | apply kM | apply kN); (iterate 3 (· exact rfl)); (· first | exact ya)) | refine sG ?_ | (refine sK ?_ ?_ <;> intro hc <;> (try simp only [KL, sL, reduceCtorEq] at hc) <;> (try (have hT : True := hc; clear hT hc)) <;> (try (exfalso; omega))))
    refine wle (s' := [(0, .ptr 0 0), (1, .lst 1 (asks.map eI)), (5, .own 20), (11, .ptr 12 0), (65, .lst 2 (D.map eDue)), (66, .int .i64 D.length), (67, .int .i64 k)]) (h' := opV l room (D.getD k default) (relBk l B' (D.getD k default).task now) last' now true (es' ++ [letE l ⟨B', S', last', now, true⟩ (D.getD k default).task]) S' false) les (show LeH _ ((12, .blk 60 (eDue (D.getD k default))) :: tab9 :: evR (es' ++ [letE l ⟨B', S', last', now, true⟩ (D.getD k default).task]) :: knX l room (relBk l B' (D.getD k default).task now) S' last' now true) from leh) ?_
    refine wdrawQ (opV l room (D.getD k default) (relBk l B' (D.getD k default).task now) last' now true (es' ++ [letE l ⟨B', S', last', now, true⟩ (D.getD k default).task])) (fun _ => True) (fun _ => True) [19] [] 0 99 (nwR 19 [7]) S' (LeH.refl _) (by kernel_rfl) (by kernel_rfl) (by kernel_rfl) trivial trivial rfl rfl rfl rfl ?_
    refine qw_new (v := .ptr 0 0) rfl rfl (by kernel_rfl) (fun y hy => tn_ok ya) ?_
    repeat' (first | refine sA ?_ | ((first | apply kM | apply kN); (iterate 3 (· exact rfl)); (· first | (show Y _ ⟨_, .indexAddr _ _ _, _, _, _, _⟩ _ _ _; first | exact q_ioE ((D.getD k default).task.toNat) rfl rfl rfl rfl rfl rfl (by omega) (by omega)) | exact ya)) | (show QW _ _ _ _ _ _ _ _ _ _ _ _ _ _ _; first | refine qw_nil ?_ | (apply qw_any; (· exact rfl); (· exact rfl); (· exact rfl); (· intro y' f' hy'; first | (show Y _ ⟨_, .indexAddr _ _ _, _, _, _, _⟩ _ _ _; first | exact q_ioE ((D.getD k default).task.toNat) rfl rfl rfl rfl rfl rfl (by omega) (by omega)) | exact ya); (· first | exact rfl | kernel_rfl))) | refine sG ?_ | (refine sK ?_ ?_ <;> intro hc <;> (try simp only [KL, sL, reduceCtorEq] at hc) <;> (try (have hT : True := hc; clear hT hc)) <;> (try (exfalso; omega))))
    refine qw_tu (x' := pushL room S' (nextD l (D.getD k default))) rfl rfl rfl trivial trivial (fun f hf => tl_call ρA (pushS_fn room S' (nextD l (D.getD k default)) (by omega)) rfl (show LeH ((12, .blk 60 (eDue (D.getD k default))) :: tab9 :: evR (es' ++ [letE l ⟨B', S', last', now, true⟩ (D.getD k default).task]) :: knX l room (relBk l B' (D.getD k default).task now) S' last' now true) _ from leh) rfl rfl rfl rfl rfl rfl rfl rfl (show LeH _ ((12, .blk 60 (eDue (D.getD k default))) :: tab9 :: evR (es' ++ [letE l ⟨B', S', last', now, true⟩ (D.getD k default).task]) :: knX l room (relBk l B' (D.getD k default).task now) (pushL room S' (nextD l (D.getD k default))) last' now true) from leh)) (by kernel_rfl) ?_
    repeat' (first | refine sA ?_ | ((first | apply kM | apply kN); (iterate 3 (· exact rfl)); (· first | exact ya)) | (show QW _ _ _ _ _ _ _ _ _ _ _ _ _ _ _; first | refine qw_nil ?_ | (apply qw_any; (· exact rfl); (· exact rfl); (· exact rfl); (· intro y' f' hy'; first | exact ya); (· first | exact rfl | kernel_rfl))) | refine sG ?_ | (refine sK ?_ ?_ <;> intro hc <;> (try simp only [KL, sL, reduceCtorEq] at hc) <;> (try (have hT : True := hc; clear hT hc)) <;> (try (exfalso; omega))))
    exact ⟨k + 1, by omega, by omega, les, by simp only [hnx]; exact (show LeH _ (tab9 :: evR (es' ++ [letE l ⟨B', S', last', now, true⟩ (D.getD k default).task]) :: knX l room (relBk l B' (D.getD k default).task now) (pushL room S' (nextD l (D.getD k default))) last' now true) from leh)⟩
  subst hkd
  rw [List.take_length]
  have hI := OpI.dues (room := room) D (p := ((⟨B1, R, last, now, true⟩ : Kn), es1)) i2
  have hev := dueS_len (l := l) (room := room) D ((⟨B1, R, last, now, true⟩ : Kn), es1)
  have hfin : ∀ q, D.foldl (dueS l room) ((⟨B1, R, last, now, true⟩ : Kn), es1) = q → asks.foldl (askS l) (D.foldl (dueS l room) ((⟨B1, R, last, now, true⟩ : Kn), es1)) = asks.foldl (askS l) q := fun q e => by rw [e]
  obtain ⟨q, hq⟩ : ∃ q, D.foldl (dueS l room) ((⟨B1, R, last, now, true⟩ : Kn), es1) = q := ⟨_, rfl⟩
  rw [hq] at hI hev ⊢
  repeat' (first | refine sB ?_ | ((first | apply kM | apply kN); (iterate 3 (· exact rfl)); (· first | exact ya)) | refine sG ?_ | (refine sK ?_ ?_ <;> intro hc <;> (try simp only [KL, sL, reduceCtorEq] at hc) <;> (try (have hT : True := hc; clear hT hc)) <;> (try (exfalso; omega))))
  refine wloop (fun k : Nat => ([(0, .ptr 0 0), (5, .own 20), (99, .lst 1 (asks.map eI)), (100, .int .i64 asks.length), (101, .int .i64 k)], tab9 :: evR ((asks.take k).foldl (askS l) q).2 :: knH l room ((asks.take k).foldl (askS l) q).1)) (fun k => k ≤ asks.length) (fun k => asks.length - k) 0 (Nat.zero_le _) les (show LeH (tab9 :: evR q.2 :: knH l room q.1) _ from leh) (fun k hk3 => ?_)
  rcases Nat.lt_or_eq_of_le hk3 with hka | hka
  · have hnx := fold_next (askS l) q asks hka
    have hJ := OpI.asks hnow.1 (asks.take k) hI
    have hev2 := askS_len (l := l) (asks.take k) q
    rw [List.length_take, Nat.min_eq_left (by omega)] at hJ hev2
    generalize (asks.take k).foldl (askS l) q = p at hnx hJ hev2 ⊢
    obtain ⟨⟨B', S', last', now', opn'⟩, es'⟩ := p
    obtain ⟨q1, q2, q3, q4, q5⟩ := hJ
    simp only at q1 q2 q3 q4 q5 hev hev2
    subst now'
    subst opn'
    repeat' (first | refine sA ?_ | ((first | apply kM | apply kN); (iterate 3 (· exact rfl)); (· first | exact ya)) | refine sG ?_ | (refine sK ?_ ?_ <;> intro hc <;> (try simp only [KL, sL, reduceCtorEq] at hc) <;> (try (have hT : True := hc; clear hT hc)) <;> (try (exfalso; omega))))
    all_goals first | (exfalso; omega) | skip
    refine ole (h' := tab9 :: evR es' :: knX l room B' S' last' now true) (LeS.refl _) leh ?_
    refine zcall (fun i => ρK i) (passes_fn l room ⟨B', S', last', now, true⟩ hl hnow (asks.getD k default) (q5 (asks.getD k default))) rfl rfl leh (by kernel_rfl) (by kernel_rfl) (by kernel_rfl) (by kernel_rfl) rfl rfl (fun r h' hR => ?_)
    obtain ⟨rfl, rfl⟩ := hR
    refine ⟨rfl, rfl, ?_⟩
    refine ole (h' := tab9 :: evR es' :: knH l room (passK l ⟨B', S', last', now, true⟩ (asks.getD k default))) (LeS.refl _) leh ?_
    cases hpq : passQ l ⟨B', S', last', now, true⟩ (asks.getD k default)
    case true =>
      rw [askS, if_pos hpq] at hnx
      repeat' (first | refine sA ?_ | ((first | apply kM | apply kN); (iterate 3 (· exact rfl)); (· first | exact ya)) | refine sG ?_ | (refine sK ?_ ?_ <;> intro hc <;> (try simp only [KL, sL, reduceCtorEq] at hc) <;> (try (have hT : True := hc; clear hT hc)) <;> (try (exfalso; omega))))
      refine zcall (fun i => ρK i) (let_fn l room (passK l ⟨B', S', last', now, true⟩ (asks.getD k default)) _ q1 (by omega) (asks.getD k default)) rfl rfl leh (by kernel_rfl) (by kernel_rfl) (by kernel_rfl) (by kernel_rfl) rfl rfl (fun r h' hR => ?_)
      obtain ⟨rfl, rfl⟩ := hR
      refine ⟨rfl, rfl, ?_⟩
      refine ole (h' := tab9 :: evR es' :: knH l room (letK l (passK l ⟨B', S', last', now, true⟩ (asks.getD k default)) (asks.getD k default))) (LeS.refl _) leh ?_
      repeat' (first | refine sA ?_ | ((first | apply kM | apply kN); (iterate 3 (· exact rfl)); (· first | exact ya)) | refine sG ?_ | (refine sK ?_ ?_ <;> intro hc <;> (try simp only [KL, sL, reduceCtorEq] at hc) <;> (try (have hT : True := hc; clear hT hc)) <;> (try (exfalso; omega))))
      (refine ao_ap (id := 20) (ys := [letE l (passK l ⟨B', S', last', now, true⟩ (asks.getD k default)) (asks.getD k default)]) (by_ := 40) rfl rfl rfl rfl rfl rfl rfl rfl rfl rfl (fun _ _ => rfl) ?_ ?_ rfl rfl rfl rfl rfl ?_; (· (first | omega | ((try simp only [List.length_cons, List.length_nil, List.length_append, List.length_map]) <;> omega))); (· (first | omega | ((try simp only [List.length_cons, List.length_nil, List.length_append, List.length_map]) <;> omega))))
      repeat' (first | refine sA ?_ | ((first | apply kM | apply kN); (iterate 3 (· exact rfl)); (· first | exact ya)) | refine sG ?_ | (refine sK ?_ ?_ <;> intro hc <;> (try simp only [KL, sL, reduceCtorEq] at hc) <;> (try (have hT : True := hc; clear hT hc)) <;> (try (exfalso; omega))))
      exact ⟨k + 1, by omega, by omega, les, by simp only [hnx]; exact leh⟩
    case false =>
      rw [askS, if_neg (by rw [hpq]; decide)] at hnx
      repeat' (first | refine sA ?_ | ((first | apply kM | apply kN); (iterate 3 (· exact rfl)); (· first | exact ya)) | refine sG ?_ | (refine sK ?_ ?_ <;> intro hc <;> (try simp only [KL, sL, reduceCtorEq] at hc) <;> (try (have hT : True := hc; clear hT hc)) <;> (try (exfalso; omega))))
      refine zcall (fun i => ρK i) (event_fn l room (passK l ⟨B', S', last', now, true⟩ (asks.getD k default)) 2 (asks.getD k default) 0 0) rfl rfl leh (by kernel_rfl) (by kernel_rfl) (by kernel_rfl) (by kernel_rfl) rfl rfl (fun r h' hR => ?_)
      obtain ⟨rfl, rfl⟩ := hR
      refine ⟨rfl, rfl, ?_⟩
      refine ole (h' := tab9 :: evR es' :: knH l room (passK l ⟨B', S', last', now, true⟩ (asks.getD k default))) (LeS.refl _) leh ?_
      repeat' (first | refine sA ?_ | ((first | apply kM | apply kN); (iterate 3 (· exact rfl)); (· first | exact ya)) | refine sG ?_ | (refine sK ?_ ?_ <;> intro hc <;> (try simp only [KL, sL, reduceCtorEq] at hc) <;> (try (have hT : True := hc; clear hT hc)) <;> (try (exfalso; omega))))
      (refine ao_ap (id := 20) (ys := [(⟨now, 2, (asks.getD k default), 0, 0⟩ : Event)]) (by_ := 40) rfl rfl rfl rfl rfl rfl rfl rfl rfl rfl (fun _ _ => rfl) ?_ ?_ rfl rfl rfl rfl rfl ?_; (· (first | omega | ((try simp only [List.length_cons, List.length_nil, List.length_append, List.length_map]) <;> omega))); (· (first | omega | ((try simp only [List.length_cons, List.length_nil, List.length_append, List.length_map]) <;> omega))))
      repeat' (first | refine sA ?_ | ((first | apply kM | apply kN); (iterate 3 (· exact rfl)); (· first | exact ya)) | refine sG ?_ | (refine sK ?_ ?_ <;> intro hc <;> (try simp only [KL, sL, reduceCtorEq] at hc) <;> (try (have hT : True := hc; clear hT hc)) <;> (try (exfalso; omega))))
      exact ⟨k + 1, by omega, by omega, les, by simp only [hnx]; exact leh⟩
  subst hka
  rw [List.take_length]
  repeat' (first | refine sA ?_ | ((first | apply kM | apply kN); (iterate 3 (· exact rfl)); (· first | exact ya)) | refine sG ?_ | (refine sK ?_ ?_ <;> intro hc <;> (try simp only [KL, sL, reduceCtorEq] at hc) <;> (try (have hT : True := hc; clear hT hc)) <;> (try (exfalso; omega))))
  refine retT (fun _ => turn_freeze (t := 4) rfl rfl rfl) ?_
  exact retq rfl ⟨tab9 :: knH l room (asks.foldl (askS l) q).1, leh, rfl, rfl⟩
end Go.Proofs.YtfjoaeghnfkdlaaGreatDoor
namespace Go.Proofs.YtfjoaeghnfkdlaaGreatDoor
set_option maxRecDepth 100000
set_option maxRecDepth 100000
open Go.RowKit
def actP (i : Int) (j : Job) : Bool := decide (j.task = i ∧ j.fin < 0)
def actI (js : List Job) (i : Int) : Int := match js.findIdx? (actP i) with
  | some k => (k : Int)
  | none => -1
abbrev rbP (l : List Task) (js : List Job) (os : List Due) : Heap :=
  [(0, .blk 53 [.lst 7 (l.map eTask), .own 1, .own 2]), (1, .row 71 8 (js.map eJob)), (2, .row 60 2 (os.map eDue))]
abbrev rbH (l : List Task) (js : List Job) (os : List Due) : Heap :=
  [(0, .blk 53 [.lst 7 (l.map eTask), .own 5, .own 6]), (5, .row 71 8 (js.map eJob)), (6, .row 60 2 (os.map eDue))]
def ρr (i : Nat) : Nat := [0, 5, 6].getD i (i + 20)
end Go.Proofs.YtfjoaeghnfkdlaaGreatDoor
