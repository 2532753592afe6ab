/- The kernel's run. No condition. -/
import Derived.Test.YtfjoaeghnfkdlaaGreatDoorC22
import Derived.Test.YtfjoaeghnfkdlaaGreatDoorC21
import Derived.Test.YtfjoaeghnfkdlaaGreatDoorC13
set_option linter.unusedSimpArgs false
set_option linter.unusedVariables false
set_option maxHeartbeats 1000000
namespace Go.Proofs.YtfjoaeghnfkdlaaGreatDoor
set_option maxRecDepth 100000
set_option maxRecDepth 100000
open Go.RowKit
/-! A map of lists, as it is filled. -/
abbrev tabR (rows : List (Nat × List Int)) : Int × Nat → Int × List Int → Prop := fun p q => p.1 = q.1 ∧ (p.2, q.2) ∈ rows
structure TabI (F : Fo) (at_ : List (Int × Nat)) (m : List (Int × List Int)) : Prop where
  cont : F.cont = .tab at_
  rel : L2 (tabR F.rows) at_ m
  nd : (at_.map Prod.snd).Nodup
  lt : ∀ p ∈ at_, p.2 < F.k
theorem getM_mem {α : Type} {key : Int} {i : α} : ∀ {m : List (Int × α)}, getM m key = some i → (key, i) ∈ m
  | [], h => by cases h
  | (k', v) :: m, h => by
    unfold getM at h
    split at h
    · rename_i e; subst e; cases h; exact List.mem_cons_self
    · exact List.mem_cons_of_mem _ (getM_mem h)
theorem tab_get {rows : List (Nat × List Int)} {key : Int} : ∀ {at_ : List (Int × Nat)} {m : List (Int × List Int)}, L2 (tabR rows) at_ m →
    (getM at_ key = none ∧ getM m key = none) ∨ ∃ i l, getM at_ key = some i ∧ getM m key = some l ∧ (i, l) ∈ rows
  | [], m, h => by rw [L2.nil_iff.1 h]; exact .inl ⟨rfl, rfl⟩
  | (k', i) :: at_, m, h => by
    obtain ⟨⟨k2, l⟩, m', rfl, h1, h2⟩ := h.cons_inv
    obtain ⟨e1, h1⟩ := h1
    simp only at e1 h1
    subst e1
    unfold getM
    by_cases hk : k' = key
    · rw [if_pos hk, if_pos hk]; exact .inr ⟨i, l, rfl, rfl, h1⟩
    · rw [if_neg hk, if_neg hk]; exact tab_get h2
theorem tab_set {rows rows' : List (Nat × List Int)} {key : Int} {i i' : Nat} {l' : List Int} (hR : ∀ q ∈ rows, q.1 ≠ i → q ∈ rows') (hn : (i', l') ∈ rows') : ∀ {at_ : List (Int × Nat)} {m : List (Int × List Int)}, L2 (tabR rows) at_ m → (at_.map Prod.snd).Nodup → getM at_ key = some i →
    L2 (tabR rows') (setM at_ key i') (setM m key l')
  | [], m, h, _, hg => by cases hg
  | (k', j) :: at_, m, h, hnd, hg => by
    obtain ⟨⟨k2, l⟩, m', rfl, h1, h2⟩ := h.cons_inv
    obtain ⟨e1, h1⟩ := h1
    simp only at e1 h1
    subst e1
    rw [List.map_cons, List.nodup_cons] at hnd
    unfold getM at hg
    unfold setM
    by_cases hk : k' = key
    · rw [if_pos hk] at hg
      cases hg
      rw [if_pos hk, if_pos hk]
      refine L2.cons ⟨rfl, hn⟩ ⟨h2.1, fun a x y hx hy => ?_⟩
      obtain ⟨q1, q2⟩ := h2.2 a x y hx hy
      refine ⟨q1, hR _ q2 fun e => hnd.1 ?_⟩
      exact List.mem_map.2 ⟨x, List.mem_of_getElem? hx, e⟩
    · rw [if_neg hk] at hg
      rw [if_neg hk, if_neg hk]
      refine L2.cons ⟨rfl, hR _ h1 fun e => hnd.1 ?_⟩ (tab_set hR hn h2 hnd.2 hg)
      have := List.mem_map_of_mem (f := Prod.snd) (getM_mem hg)
      simp only at e this
      rw [e]; exact this
theorem tab_nd {key : Int} {k : Nat} : ∀ {at_ : List (Int × Nat)}, (at_.map Prod.snd).Nodup → (∀ p ∈ at_, p.2 < k) → ((setM at_ key k).map Prod.snd).Nodup ∧ (∀ p ∈ setM at_ key k, p.2 < k + 1) ∧ ∀ p ∈ setM at_ key k, p.2 = k ∨ p ∈ at_
  | [], _, _ => ⟨by simp [setM], by simp [setM], by simp [setM]⟩
  | (k', j) :: at_, hnd, hlt => by
    rw [List.map_cons, List.nodup_cons] at hnd
    have hj := hlt _ List.mem_cons_self
    have hr : ∀ p ∈ at_, p.2 < k := fun p hp => hlt p (List.mem_cons_of_mem _ hp)
    unfold setM
    by_cases hk : k' = key
    · rw [if_pos hk]
      refine ⟨?_, fun p hp => ?_, fun p hp => ?_⟩
      · rw [List.map_cons, List.nodup_cons]
        refine ⟨fun h => ?_, hnd.2⟩
        obtain ⟨p, hp, e⟩ := List.mem_map.1 h
        have := hr p hp
        simp only at e; omega
      · rcases List.mem_cons.1 hp with rfl | hp
        · exact Nat.lt_succ_self _
        · have := hr p hp; omega
      · rcases List.mem_cons.1 hp with rfl | hp
        · exact .inl rfl
        · exact .inr (List.mem_cons_of_mem _ hp)
    · rw [if_neg hk]
      obtain ⟨i1, i2, i3⟩ := tab_nd (key := key) hnd.2 hr
      refine ⟨?_, fun p hp => ?_, fun p hp => ?_⟩
      · rw [List.map_cons, List.nodup_cons]
        refine ⟨fun h => ?_, i1⟩
        obtain ⟨p, hp, e⟩ := List.mem_map.1 h
        rcases i3 p hp with e2 | e2
        · simp only at e hj; omega
        · exact hnd.1 (by simp only at e ⊢; rw [← e]; exact List.mem_map_of_mem e2)
      · rcases List.mem_cons.1 hp with rfl | hp
        · simp only at hj ⊢; omega
        · exact i2 p hp
      · rcases List.mem_cons.1 hp with rfl | hp
        · exact .inr List.mem_cons_self
        · exact (i3 p hp).imp id fun h => List.mem_cons_of_mem _ h
theorem setM_none {α : Type} {key : Int} {x : α} : ∀ {m : List (Int × α)}, getM m key = none → setM m key x = m ++ [(key, x)]
  | [], _ => rfl
  | (k', v) :: m, h => by
    unfold getM at h
    split at h
    · cases h
    · rename_i e
      unfold setM; rw [if_neg e, setM_none h]; rfl
theorem L2.snoc {α β : Type} {R : α → β → Prop} {xs : List α} {ys : List β} (h : L2 R xs ys) {x : α} {y : β} (hxy : R x y) : L2 R (xs ++ [x]) (ys ++ [y]) := h.append ((L2.nil R).cons hxy)
theorem TabI.found {F : Fo} {at_ : List (Int × Nat)} {m : List (Int × List Int)} (h : TabI F at_ m) {d : Due} {i : Nat} {l : List Int} (hi : getM at_ d.at_ = some i) (hm : getM m d.at_ = some l) :
    TabI ⟨(F.app i l d.task).k, (F.app i l d.task).rows, .tab (setM at_ d.at_ F.k)⟩ (setM at_ d.at_ F.k) (stepM m d) := by
  obtain ⟨n1, n2, _⟩ := tab_nd (key := d.at_) h.nd h.lt
  refine ⟨rfl, ?_, n1, n2⟩
  rw [stepM, hm]
  exact tab_set (rows := F.rows) (i := i) (fun q hq hne => List.mem_append_left _ (List.mem_filter.2 ⟨hq, by simpa using hne⟩)) (List.mem_append_right _ (List.mem_singleton.2 rfl)) h.rel h.nd hi
theorem TabI.new {F : Fo} {at_ : List (Int × Nat)} {m : List (Int × List Int)} (h : TabI F at_ m) {d : Due} (hi : getM at_ d.at_ = none) (hm : getM m d.at_ = none) :
    TabI ⟨(F.new d.task).k, (F.new d.task).rows, .tab (setM at_ d.at_ F.k)⟩ (setM at_ d.at_ F.k) (stepM m d) := by
  obtain ⟨n1, n2, _⟩ := tab_nd (key := d.at_) h.nd h.lt
  refine ⟨rfl, ?_, n1, n2⟩
  rw [stepM, hm, setM_none hi, setM_none hm]
  refine (h.rel.mono fun x y hxy => ⟨hxy.1, List.mem_append_left _ hxy.2⟩).snoc ⟨rfl, List.mem_append_right _ (List.mem_singleton.2 rfl)⟩
theorem tab_len {m : List (Int × List Int)} {c : Nat} (h : ∀ p ∈ m, p.2.length ≤ c) (d : Due) : ∀ p ∈ stepM m d, p.2.length ≤ c + 1 := by
  have hs : ∀ (m : List (Int × List Int)) (x : List Int), x.length ≤ c + 1 → (∀ p ∈ m, p.2.length ≤ c) → ∀ p ∈ setM m d.at_ x, p.2.length ≤ c + 1 := by
    intro m x hx
    induction m with
    | nil => intro _ p hp; simp only [setM, List.mem_singleton] at hp; subst hp; exact hx
    | cons a m ih =>
      intro h p hp
      obtain ⟨k, v⟩ := a
      have hm : ∀ p ∈ m, p.2.length ≤ c + 1 := fun p hp => Nat.le_succ_of_le (h p (List.mem_cons_of_mem _ hp))
      unfold setM at hp
      split at hp
      · rcases List.mem_cons.1 hp with rfl | hp
        · exact hx
        · exact hm p hp
      · rcases List.mem_cons.1 hp with rfl | hp
        · exact Nat.le_succ_of_le (h _ List.mem_cons_self)
        · exact ih (fun p hp => h p (List.mem_cons_of_mem _ hp)) p hp
  refine hs m _ ?_ h
  rw [List.length_append]
  cases hg : getM m d.at_ with
  | none => simp
  | some l => have := h _ (getM_mem hg); simpa using this
/-! How many steps a job has. -/
theorem stepsK_fn (dm : List (List Int)) (i no : Int) (hi : 0 ≤ i) (hn : 0 ≤ no) : Fn Tryz.prog 62 [.lst 1 (dm.map eLI), .int .i64 i, .int .i64 no] (.int .i64 (stepsK dm i no)) := by
  refine fnb Tryz.func62 (entered_of (by kernel_rfl)) rfl rfl rfl ?_
  by_cases h1 : (dm.length : Int) ≤ i
  · repeat' (first | refine sA ?_ | ((first | apply kM | apply kN); (iterate 3 (· exact rfl)); (· first | (show Y _ ⟨_, .indexAddr _ _ _, _, _, _, _⟩ _ _ _; first | exact q_ioE (i.toNat) rfl rfl rfl rfl rfl rfl (by omega) (by omega) | exact q_ioE (no.toNat) rfl rfl rfl rfl rfl rfl (by omega) (by omega)) | exact ya)) | refine sG ?_ | (refine sK ?_ ?_ <;> intro hc <;> (try simp only [KL, sL, reduceCtorEq] at hc) <;> (try (have hT : True := hc; clear hT hc)) <;> (try (exfalso; omega))))
    all_goals first | (exfalso; omega) | exact retq rfl (by rw [stepsK, if_pos (.inl h1)])
  by_cases h2 : ((dm.getD i.toNat default).length : Int) ≤ no
  · repeat' (first | refine sA ?_ | ((first | apply kM | apply kN); (iterate 3 (· exact rfl)); (· first | (show Y _ ⟨_, .indexAddr _ _ _, _, _, _, _⟩ _ _ _; first | exact Y.mk (ok_indexE (i.toNat) rfl rfl rfl rfl rfl (by omega)) | exact Y.mk (ok_indexE (no.toNat) rfl rfl rfl rfl rfl (by omega))) | exact ya)) | refine sG ?_ | (refine sK ?_ ?_ <;> intro hc <;> (try simp only [KL, sL, reduceCtorEq] at hc) <;> (try (have hT : True := hc; clear hT hc)) <;> (try (exfalso; omega))))
    all_goals first | (exfalso; omega) | exact retq rfl (by rw [stepsK, if_pos (.inr h2)])
  · repeat' (first | refine sA ?_ | ((first | apply kM | apply kN); (iterate 3 (· exact rfl)); (· first | (show Y _ ⟨_, .indexAddr _ _ _, _, _, _, _⟩ _ _ _; first | exact Y.mk (ok_indexE (i.toNat) rfl rfl rfl rfl rfl (by omega)) | exact Y.mk (ok_indexE (no.toNat) rfl rfl rfl rfl rfl (by omega))) | exact ya)) | refine sG ?_ | (refine sK ?_ ?_ <;> intro hc <;> (try simp only [KL, sL, reduceCtorEq] at hc) <;> (try (have hT : True := hc; clear hT hc)) <;> (try (exfalso; omega))))
    all_goals first | (exfalso; omega) | exact retq rfl (by rw [stepsK, if_neg (by omega)])
theorem OkO.le {P : Program} {s : Slots} {h : Heap} {o : Oper} {v v' : AV} (hk : OkO P o s h v) (hl : LeV v v') : OkO P o s h v' := fun E σ ι a w hr hx K Q hK => hk E σ ι a w hr hx K Q fun σ' w' u k1 k2 k3 => hK σ' w' u k1 k2 (hl _ _ _ k3)
theorem ok_lookD {P : Program} {s : Slots} {h : Heap} {o : Oper} {m : List (Int × List Int)} {t kt et : TypeId} {x y : Operand} {id : Nat} {k : Int} (l : List Int) (ho : o.op = .lookup t x y false) (ht : mapE P t = some (kt, et)) (hx : evA s x = .own id) (hg : hget h id = some (.sem (mapC (fun l : List Int => AV.lst 1 (l.map eI)) m))) (hy : evA s y = .int .i64 k)
    (hz : ∀ (w : World) (σ : Sig), ∃ z, (zeroValue et).run P w = .ok z w ∧ VR0 σ .nils z) (hl : (getM m k).getD [] = l) : OkO P o s h (.lst 1 (l.map eI)) := by
  subst hl
  cases hm : getM m k with
  | none => exact (ok_lookup (cm := false) .nils false ho ht hx hg hy hz (.inl ⟨hm, rfl, rfl⟩)).le (LeV.nils _)
  | some l0 => exact ok_lookup (cm := false) (.lst 1 (l0.map eI)) true ho ht hx hg hy hz (.inr ⟨l0, hm, rfl, rfl⟩)
theorem job_steps {l : List Task} {n : Nat} {B : Bk} (h : GoodB l n B) (i : Int) (hn : n ≤ 20000) : 0 ≤ (jobK B i).steps ∧ (jobK B i).steps ≤ 20000 := by
  unfold jobK; split
  · rename_i hi
    obtain ⟨_, h1, _⟩ := h.pos hi
    have := h.st _ h1
    unfold jobAt; omega
  · exact ⟨by decide, by decide⟩
theorem job_no {l : List Task} {n : Nat} {B : Bk} (h : GoodB l n B) (i : Int) : 0 ≤ (jobK B i).no := by
  unfold jobK; split
  · rename_i hi
    obtain ⟨_, h1, _⟩ := h.pos hi
    unfold jobAt
    rw [h.no _ h1]; exact (cntT_le _ _).1
  · decide
def ρR (i : Nat) : Nat := if i = 9 then 9 else i + 100
def ρJ (i : Nat) : Nat := [101, 201, 102, 103, 204, 105, 106].getD i (i + 200)
theorem z_sl : ∀ (w : World) (σ : Sig), ∃ z, (zeroValue 43).run Tryz.prog w = .ok z w ∧ VR0 σ .nils z := fun w σ => ⟨.slice none 0 0, rfl, .nils⟩
abbrev foH (F : Fo) : Nat × Chunk := (30, .sem (foC 43 3 F))
abbrev mpH (m : List (Int × List Int)) : Nat × Chunk := (30, .sem (mapC (fun l : List Int => AV.lst 1 (l.map eI)) m))
abbrev ev40 (i : Nat) (es : List Event) : Nat × Chunk := (i, .row 68 5 (es.map eEvent))
abbrev jB (j : Job) : Nat × Chunk := (12, .blk 71 (eJob j))
def rH (l : List Task) (m : List (Int × List Int)) (j : Job) (y : Kn × Nat × List Event) (f : Bool) : Heap := jB j :: mpH m :: tab9 :: ev40 y.2.1 y.2.2 :: knO l l.length y.1
abbrev duB (d : Due) : Nat × Chunk := (14, .blk 60 (eDue d))
def bH (l : List Task) (d : Due) (y : Fo) (f : Bool) : Heap := duB d :: foH y :: tab9 :: knO l l.length (newK l)
set_option maxHeartbeats 16000000 in
theorem run_fn (l : List Task) (asks : List Due) (dm : List (List Int)) (ticks : Int) (hok : okK l = true) (ha : asks.length ≤ 1000) (ht : 0 ≤ ticks ∧ ticks ≤ 1000) :
    FnT Tryz.prog tabK 26 [.lst 7 (l.map eTask), .lst 2 (asks.map eDue), .lst 1 (dm.map eLI), .int .i64 ticks] (.tup [.lst 5 ((runP l asks dm ticks.toNat).2.map eEvent), .int .i64 0]) := by
  refine fntw Tryz.func26 (entered_of (by kernel_rfl)) rfl rfl rfl rfl ?_
  have c1 := new29_fn l hok
  obtain ⟨T, hT⟩ : ∃ T : Nat, ticks = T := ⟨ticks.toNat, by omega⟩
  subst hT
  rw [Int.toNat_natCast]
  repeat' (first | refine sA ?_ | ((first | apply kM | apply kN); (iterate 3 (· exact rfl)); (· first | exact ya)) | refine sG ?_ | (refine sK ?_ ?_ <;> intro hc <;> (try simp only [KL, sL, reduceCtorEq] at hc) <;> (try (have hT : True := hc; clear hT hc)) <;> (try (exfalso; omega))))
  refine oturn (turn_dummy eI 108 3 1 (by omega) rfl) ?_
  refine oturn (turn_dummy eI 107 3 1 (by omega) rfl) ?_
  refine oturn (turn_dummy eI 106 3 1 (by omega) rfl) ?_
  refine oturn (turn_dummy eI 105 3 1 (by omega) rfl) ?_
  refine oturn (turn_dummy eI 104 3 1 (by omega) rfl) ?_
  refine oturn (turn_dummy eI 103 3 1 (by omega) rfl) ?_
  refine oturn (turn_dummy eI 102 3 1 (by omega) rfl) ?_
  refine oturn (turn_dummy eI 101 3 1 (by omega) rfl) ?_
  refine oturn (turn_dummy eI 100 3 1 (by omega) rfl) ?_
  refine zcall (fun i => ρK i) (c1) rfl rfl leh (by kernel_rfl) (by kernel_rfl) (by kernel_rfl) (by kernel_rfl) rfl rfl (fun r h' hR => ?_)
  obtain ⟨rfl, rfl⟩ := hR
  refine ⟨rfl, rfl, ?_⟩
  refine ole (s' := [(1, .lst 2 (asks.map eDue)), (2, .lst 1 (dm.map eLI)), (3, .int .i64 T), (23, .tup [.ptr 100 0, .int .i64 0])]) (h' := tab9 :: knO l l.length (newK l)) les leh ?_
  repeat' (first | refine sA ?_ | ((first | apply kM | apply kN); (iterate 3 (· exact rfl)); (· first | exact ya)) | refine sG ?_ | (refine sK ?_ ?_ <;> intro hc <;> (try simp only [KL, sL, reduceCtorEq] at hc) <;> (try (have hT : True := hc; clear hT hc)) <;> (try (exfalso; omega))))
  all_goals first | (exfalso; omega) | skip
  refine ao_mmF (ec := 43) (e := 3) 30 rfl rfl rfl rfl ?_
  repeat' (first | refine sA ?_ | ((first | apply kM | apply kN); (iterate 3 (· exact rfl)); (· first | exact ya)) | refine sG ?_ | (refine sK ?_ ?_ <;> intro hc <;> (try simp only [KL, sL, reduceCtorEq] at hc) <;> (try (have hT : True := hc; clear hT hc)) <;> (try (exfalso; omega))))
  refine wle (s' := [(2, .lst 1 (dm.map eLI)), (3, .int .i64 T), (10, .ptr 100 0), (12, .part 30 0), (37, .lst 2 (asks.map eDue)), (38, .int .i64 asks.length), (39, .int .i64 0)]) (h' := foH ⟨1, [], .tab []⟩ :: tab9 :: knO l l.length (newK l)) les leh ?_
  refine wloop (fun x : Nat × Fo × List (Int × Nat) × List (Int × List Int) => ([(2, .lst 1 (dm.map eLI)), (3, .int .i64 T), (10, .ptr 100 0), (12, .part 30 0), (37, .lst 2 (asks.map eDue)), (38, .int .i64 asks.length), (39, .int .i64 x.1)], foH x.2.1 :: tab9 :: knO l l.length (newK l)))
    (fun x => x.1 ≤ asks.length ∧ TabI x.2.1 x.2.2.1 x.2.2.2 ∧ x.2.2.2 = (asks.take x.1).foldl stepM [] ∧ ∀ p ∈ x.2.2.2, p.2.length ≤ x.1) (fun x => asks.length - x.1) (0, ⟨1, [], .tab []⟩, [], []) ⟨Nat.zero_le _, ⟨rfl, L2.nil _, List.nodup_nil, fun p hp => (by cases hp)⟩, rfl, fun p hp => (by cases hp)⟩ les leh (fun x hx => ?_)
  obtain ⟨k, F, at_, m⟩ := x
  obtain ⟨hk, hF, hm, hml⟩ := hx
  simp only at hk hF hm hml ⊢
  rcases Nat.lt_or_eq_of_le hk with hkk | hkk
  · have hnx : (asks.take (k + 1)).foldl stepM [] = stepM m (asks.getD k default) := by
      rw [hm]; exact fold_next stepM [] asks hkk
    have hnl := tab_len hml (asks.getD k default)
    have hgt := tab_get (key := (asks.getD k default).at_) hF.rel
    generalize hdk : asks.getD k default = d0 at hnx hnl hgt
    repeat' (first | refine sB ?_ | (show O _ _ _ _ _ _ _; first | refine ao_alloc (id := 14) rfl rfl rfl rfl rfl rfl rfl ?_) | ((first | apply kM | apply kN); (iterate 3 (· exact rfl)); (· first | exact ya)) | refine sG ?_ | (refine sK ?_ ?_ <;> intro hc <;> (try simp only [KL, sL, reduceCtorEq] at hc) <;> (try (have hT : True := hc; clear hT hc)) <;> (try (exfalso; omega))))
    all_goals first | (exfalso; omega) | skip
    rw [hdk]
    refine wle (s' := [(2, .lst 1 (dm.map eLI)), (3, .int .i64 T), (10, .ptr 100 0), (12, .part 30 0), (14, .ptr 14 0), (37, .lst 2 (asks.map eDue)), (38, .int .i64 asks.length), (39, .int .i64 k)]) (h' := bH l d0 F false) les (show LeH _ (duB d0 :: foH F :: tab9 :: knO l l.length (newK l)) from leh) ?_
    refine wdrawQ (bH l d0) (fun _ => True) (fun _ => True) [10, 11] [6] 0 99 (fun _ => []) F (LeH.refl _) (by kernel_rfl) (by kernel_rfl) (by kernel_rfl) trivial trivial rfl rfl rfl rfl ?_
    refine qw_new (v := .part 30 0) rfl rfl (by kernel_rfl) (fun y hy => tn_ok ya) ?_
    repeat' (first | refine sA ?_ | ((first | apply kM | apply kN); (iterate 3 (· exact rfl)); (· first | exact ya)) | (show QW _ _ _ _ _ _ _ _ _ _ _ _ _ _ _; first | refine qw_nil ?_ | (apply qw_any; (· exact rfl); (· exact rfl); (· exact rfl); (· intro y' f' hy'; first | exact ya); (· first | exact rfl | kernel_rfl))) | refine sG ?_ | (refine sK ?_ ?_ <;> intro hc <;> (try simp only [KL, sL, reduceCtorEq] at hc) <;> (try (have hT : True := hc; clear hT hc)) <;> (try (exfalso; omega))))
    rcases hgt with ⟨g1, g2⟩ | ⟨i, l', g1, g2, g3⟩
    · refine qw_ld (v := .nils) rfl rfl rfl rfl (fun f hf => Y.mk (ok_lookF (F := F) .nils rfl rfl rfl rfl hF.cont rfl z_sl (.inl ⟨g1, rfl⟩))) (by kernel_rfl) ?_
      repeat' (first | refine sA ?_ | ((first | apply kM | apply kN); (iterate 3 (· exact rfl)); (· first | exact ya)) | (show QW _ _ _ _ _ _ _ _ _ _ _ _ _ _ _; first | refine qw_nil ?_ | (apply qw_any; (· exact rfl); (· exact rfl); (· exact rfl); (· intro y' f' hy'; first | exact ya); (· first | exact rfl | kernel_rfl))) | refine sG ?_ | (refine sK ?_ ?_ <;> intro hc <;> (try simp only [KL, sL, reduceCtorEq] at hc) <;> (try (have hT : True := hc; clear hT hc)) <;> (try (exfalso; omega))))
      refine qw_tu (x' := F.new d0.task) rfl rfl rfl trivial trivial (fun f hf => tl_apN (N := 30) (F := F) (by_ := 8) d0.task rfl rfl rfl rfl rfl rfl rfl rfl rfl rfl rfl (show LeH _ (duB d0 :: foH (F.new d0.task) :: tab9 :: knO l l.length (newK l)) from leh)) (by kernel_rfl) ?_
      repeat' (first | refine sA ?_ | ((first | apply kM | apply kN); (iterate 3 (· exact rfl)); (· first | exact ya)) | (show QW _ _ _ _ _ _ _ _ _ _ _ _ _ _ _; first | refine qw_nil ?_ | (apply qw_any; (· exact rfl); (· exact rfl); (· exact rfl); (· intro y' f' hy'; first | exact ya); (· first | exact rfl | kernel_rfl))) | refine sG ?_ | (refine sK ?_ ?_ <;> intro hc <;> (try simp only [KL, sL, reduceCtorEq] at hc) <;> (try (have hT : True := hc; clear hT hc)) <;> (try (exfalso; omega))))
      refine qw_tu (x' := ⟨(F.new d0.task).k, (F.new d0.task).rows, .tab (setM at_ d0.at_ F.k)⟩) rfl rfl rfl trivial trivial (fun f hf => ((tu_st (sto_mapF (F := F.new d0.task) rfl rfl rfl rfl hF.cont rfl rfl) rfl).post (show LeH _ (duB d0 :: foH ⟨(F.new d0.task).k, (F.new d0.task).rows, .tab (setM at_ d0.at_ F.k)⟩ :: tab9 :: knO l l.length (newK l)) from leh)).toL) (by kernel_rfl) ?_
      repeat' (first | refine sA ?_ | ((first | apply kM | apply kN); (iterate 3 (· exact rfl)); (· first | exact ya)) | (show QW _ _ _ _ _ _ _ _ _ _ _ _ _ _ _; first | refine qw_nil ?_ | (apply qw_any; (· exact rfl); (· exact rfl); (· exact rfl); (· intro y' f' hy'; first | exact ya); (· first | exact rfl | kernel_rfl))) | refine sG ?_ | (refine sK ?_ ?_ <;> intro hc <;> (try simp only [KL, sL, reduceCtorEq] at hc) <;> (try (have hT : True := hc; clear hT hc)) <;> (try (exfalso; omega))))
      exact ⟨(k + 1, ⟨(F.new d0.task).k, (F.new d0.task).rows, .tab (setM at_ d0.at_ F.k)⟩, setM at_ d0.at_ F.k, stepM m d0), ⟨by simp only; omega, hF.new g1 g2, hnx.symm, hnl⟩, by simp only; omega, les, (show LeH _ (foH ⟨(F.new d0.task).k, (F.new d0.task).rows, .tab (setM at_ d0.at_ F.k)⟩ :: tab9 :: knO l l.length (newK l)) from leh)⟩
    · have hll := hml _ (getM_mem g2)
      simp only at hll
      refine qw_ld (v := .part 30 i) rfl rfl rfl rfl (fun f hf => Y.mk (ok_lookF (F := F) (.part 30 i) rfl rfl rfl rfl hF.cont rfl z_sl (.inr ⟨i, g1, rfl⟩))) (by kernel_rfl) ?_
      repeat' (first | refine sA ?_ | ((first | apply kM | apply kN); (iterate 3 (· exact rfl)); (· first | exact ya)) | (show QW _ _ _ _ _ _ _ _ _ _ _ _ _ _ _; first | refine qw_nil ?_ | (apply qw_any; (· exact rfl); (· exact rfl); (· exact rfl); (· intro y' f' hy'; first | exact ya); (· first | exact rfl | kernel_rfl))) | refine sG ?_ | (refine sK ?_ ?_ <;> intro hc <;> (try simp only [KL, sL, reduceCtorEq] at hc) <;> (try (have hT : True := hc; clear hT hc)) <;> (try (exfalso; omega))))
      refine qw_tu (x' := F.app i l' d0.task) rfl rfl rfl trivial trivial (fun f hf => tl_apF (N := 30) (F := F) (by_ := 8) l' d0.task rfl rfl rfl g3 rfl rfl rfl rfl rfl rfl (by omega) (by omega) rfl (show LeH _ (duB d0 :: foH (F.app i l' d0.task) :: tab9 :: knO l l.length (newK l)) from leh)) (by kernel_rfl) ?_
      repeat' (first | refine sA ?_ | ((first | apply kM | apply kN); (iterate 3 (· exact rfl)); (· first | exact ya)) | (show QW _ _ _ _ _ _ _ _ _ _ _ _ _ _ _; first | refine qw_nil ?_ | (apply qw_any; (· exact rfl); (· exact rfl); (· exact rfl); (· intro y' f' hy'; first | exact ya); (· first | exact rfl | kernel_rfl))) | refine sG ?_ | (refine sK ?_ ?_ <;> intro hc <;> (try simp only [KL, sL, reduceCtorEq] at hc) <;> (try (have hT : True := hc; clear hT hc)) <;> (try (exfalso; omega))))
      refine qw_tu (x' := ⟨(F.app i l' d0.task).k, (F.app i l' d0.task).rows, .tab (setM at_ d0.at_ F.k)⟩) rfl rfl rfl trivial trivial (fun f hf => ((tu_st (sto_mapF (F := F.app i l' d0.task) rfl rfl rfl rfl hF.cont rfl rfl) rfl).post (show LeH _ (duB d0 :: foH ⟨(F.app i l' d0.task).k, (F.app i l' d0.task).rows, .tab (setM at_ d0.at_ F.k)⟩ :: tab9 :: knO l l.length (newK l)) from leh)).toL) (by kernel_rfl) ?_
      repeat' (first | refine sA ?_ | ((first | apply kM | apply kN); (iterate 3 (· exact rfl)); (· first | exact ya)) | (show QW _ _ _ _ _ _ _ _ _ _ _ _ _ _ _; first | refine qw_nil ?_ | (apply qw_any; (· exact rfl); (· exact rfl); (· exact rfl); (· intro y' f' hy'; first | exact ya); (· first | exact rfl | kernel_rfl))) | refine sG ?_ | (refine sK ?_ ?_ <;> intro hc <;> (try simp only [KL, sL, reduceCtorEq] at hc) <;> (try (have hT : True := hc; clear hT hc)) <;> (try (exfalso; omega))))
      exact ⟨(k + 1, ⟨(F.app i l' d0.task).k, (F.app i l' d0.task).rows, .tab (setM at_ d0.at_ F.k)⟩, setM at_ d0.at_ F.k, stepM m d0), ⟨by simp only; omega, hF.found g1 g2, hnx.symm, hnl⟩, by simp only; omega, les, (show LeH _ (foH ⟨(F.app i l' d0.task).k, (F.app i l' d0.task).rows, .tab (setM at_ d0.at_ F.k)⟩ :: tab9 :: knO l l.length (newK l)) from leh)⟩
  subst hkk
  rw [List.take_length] at hm
  repeat' (first | refine sB ?_ | ((first | apply kM | apply kN); (iterate 3 (· exact rfl)); (· first | exact ya)) | refine sG ?_ | (refine sK ?_ ?_ <;> intro hc <;> (try simp only [KL, sL, reduceCtorEq] at hc) <;> (try (have hT : True := hc; clear hT hc)) <;> (try (exfalso; omega))))
  all_goals first | (exfalso; omega) | skip
  refine wturn (turn_frzF (t := 12) (N := 30) m rfl rfl hF.cont hF.rel rfl rfl) ?_
  refine wle (s' := [(2, .lst 1 (dm.map eLI)), (10, .ptr 100 0), (12, .own 30), (15, .nils), (55, .int .i64 T), (56, .int .i64 0)]) (h' := mpH m :: tab9 :: knO l l.length (newK l)) les leh ?_
  refine wturn (turn_own eEvent (t := 15) rfl 41 68 5 (by omega) rfl) ?_
  have h8 : l.length ≤ 8 := by rw [okK, Bool.and_eq_true, decide_eq_true_eq] at hok; omega
  refine wloop (fun t : Nat => ([(2, .lst 1 (dm.map eLI)), (10, .ptr 100 0), (12, .own 30), (15, .own 41), (55, .int .i64 T), (56, .int .i64 t)], mpH m :: tab9 :: ev40 41 (runP l asks dm t).2 :: knO l l.length (runP l asks dm t).1)) (fun t => t ≤ T) (fun t => T - t) 0 (Nat.zero_le _) les (show LeH _ (mpH m :: tab9 :: ev40 41 [] :: knO l l.length (newK l)) from leh) (fun t htT => ?_)
  have hI := run_inv hok asks dm t (by omega)
  rcases Nat.lt_or_eq_of_le htT with htt | htt
  · have hnx := runP_next l asks dm t
    have hgm := fold_at t asks []
    rw [← hm] at hgm
    generalize runP l asks dm t = p at hnx hI ⊢
    obtain ⟨K, es⟩ := p
    obtain ⟨h1, h2, h3, h4⟩ := hI
    simp only at h1 h2 h3 h4
    have hal := askN_le asks t
    have hal2 := askN_next t (by omega) asks
    have hal3 := askN_le asks (t + 1)
    have f1 := open_fn l l.length K (10 * t + askN asks t) 8 (by omega) h1.good (by rw [h2]; omega) (Nat.le_trans h1.slen h8) h1.last (fun d hd => by
      have q1 := h1.due d hd
      have q2 := plain_per hok d.task q1.1 q1.2.1
      omega) (asksAt asks t) (by omega) (by omega)
    have g1 := KI.open_ hok (room := l.length) rfl h1 (asksAt asks t)
    have hop : (openP l l.length K (asksAt asks t)).1.opn = true := open_opn
    have hol := open_len (l := l) (room := l.length) (K := K) (asks := asksAt asks t) (Nat.le_trans h1.slen h8)
    unfold tickP at hnx
    simp only at hnx
    generalize openP l l.length K (asksAt asks t) = o at f1 g1 hop hol hnx
    obtain ⟨K1, e1⟩ := o
    simp only at f1 g1 hop hol hnx
    obtain ⟨B, S, last, now, opn⟩ := K
    obtain ⟨B1, S1, last1, now1, opn1⟩ := K1
    simp only at h2 h3 hop g1
    subst h2 h3 hop
    obtain ⟨g1, g2⟩ := g1
    subst g2
    have hgm : (getM m t).getD [] = asksAt asks t := by simpa [getM] using hgm
    have f2 := pickK_fn l l.length ⟨B1, S1, last1, t, true⟩ (by omega) g1.good.act
    obtain ⟨wi, hwi⟩ : ∃ wi, wi = whoK l ⟨B1, S1, last1, t, true⟩ := ⟨_, rfl⟩
    have hw0 : 0 ≤ wi := by rw [hwi]; simp only [whoK]; split <;> omega
    have f3 := getJ_fn l B1 _ g1.good wi
    have hjk : jobK B1 wi = if hasN B1.act wi then jobAt B1 wi else default := rfl
    have hst : 0 ≤ (jobK B1 wi).steps ∧ (jobK B1 wi).steps ≤ 20000 := job_steps g1.good wi (by omega)
    have hno : 0 ≤ (jobK B1 wi).no := job_no g1.good wi
    rw [← hjk] at f3
    have hend : endQ l dm ⟨B1, S1, last1, t, true⟩ = decide (stepsK dm wi (jobK B1 wi).no ≤ (jobK B1 wi).steps + 1) := by rw [hwi]; rfl
    have f4 := close_fn l l.length ⟨B1, S1, last1, t, true⟩ _ (by omega) g1.good (by omega) (jobK B1 wi).steps (decide (stepsK dm wi (jobK B1 wi).no ≤ (jobK B1 wi).steps + 1)) (fun h => pickV_has h) ⟨by simp only; omega, by simp only; omega⟩ (fun h => by
      have := (g1.jr.step (pickV l B1) t).at_ (pickV l B1)
      exact ⟨this.1, Int.le_trans this.2 (by decide)⟩)
    have hcl := close_len (l := l) (K := ⟨B1, S1, last1, t, true⟩) (a := (jobK B1 wi).steps) (e := decide (stepsK dm wi (jobK B1 wi).no ≤ (jobK B1 wi).steps + 1))
    rw [← hwi, hend] at hnx
    simp only at hnx
    generalize jobK B1 wi = jb at *
    have e2 : whoK l ⟨B1, S1, last1, t, true⟩ = (if true = true then max (pickV l B1) 0 else 0) := rfl
    refine wturn (turn_ren (t := 15) (id := 41) (id2 := 40) rfl rfl rfl rfl rfl) ?_
    refine wle (s' := [(2, .lst 1 (dm.map eLI)), (10, .ptr 100 0), (12, .own 30), (15, .own 40), (55, .int .i64 T), (56, .int .i64 t)]) (h' := mpH m :: tab9 :: ev40 40 es :: knY l l.length B S last t false) les leh ?_
    repeat' (first | refine sA ?_ | ((first | apply kM | apply kN); (iterate 3 (· exact rfl)); (· first | exact ya | exact Y.mk (ok_lookD (asksAt asks t) rfl rfl rfl rfl rfl z_sl hgm))) | refine sG ?_ | (refine sK ?_ ?_ <;> intro hc <;> (try simp only [KL, sL, reduceCtorEq] at hc) <;> (try (have hT : True := hc; clear hT hc)) <;> (try (exfalso; omega))))
    all_goals first | (exfalso; omega) | skip
    refine zcall (fun i => ρR i) (f1) rfl rfl leh (by kernel_rfl) (by kernel_rfl) (by kernel_rfl) (by kernel_rfl) rfl rfl (fun r h' hR => ?_)
    obtain ⟨rfl, rfl⟩ := hR
    refine ⟨rfl, rfl, ?_⟩
    refine ole (s' := [(2, .lst 1 (dm.map eLI)), (10, .ptr 100 0), (12, .own 30), (55, .int .i64 T), (56, .int .i64 t), (59, .own 40), (64, .lst 5 (e1.map eEvent))]) (h' := mpH m :: tab9 :: ev40 40 es :: knY l l.length B1 S1 last1 t true) les leh ?_
    repeat' (first | refine sA ?_ | ((first | apply kM | apply kN); (iterate 3 (· exact rfl)); (· first | exact ya)) | refine sG ?_ | (refine sK ?_ ?_ <;> intro hc <;> (try simp only [KL, sL, reduceCtorEq] at hc) <;> (try (have hT : True := hc; clear hT hc)) <;> (try (exfalso; omega))))
    (refine ao_ap (id := 40) (ys := e1) (by_ := 40) rfl rfl rfl rfl rfl rfl rfl rfl rfl rfl (fun _ _ => rfl) ?_ ?_ rfl rfl rfl rfl rfl ?_; (· (first | omega | ((try simp only [List.length_cons, List.length_nil, List.length_append, List.length_map]) <;> omega))); (· (first | omega | ((try simp only [List.length_cons, List.length_nil, List.length_append, List.length_map]) <;> omega))))
    repeat' (first | refine sA ?_ | ((first | apply kM | apply kN); (iterate 3 (· exact rfl)); (· first | exact ya)) | refine sG ?_ | (refine sK ?_ ?_ <;> intro hc <;> (try simp only [KL, sL, reduceCtorEq] at hc) <;> (try (have hT : True := hc; clear hT hc)) <;> (try (exfalso; omega))))
    refine zcall (fun i => ρR i) (f2) rfl rfl leh (by kernel_rfl) (by kernel_rfl) (by kernel_rfl) (by kernel_rfl) rfl rfl (fun r h' hR => ?_)
    obtain ⟨rfl, rfl⟩ := hR
    refine ⟨rfl, rfl, ?_⟩
    rw [← e2, ← hwi]
    refine ole (s' := [(2, .lst 1 (dm.map eLI)), (10, .ptr 100 0), (12, .own 30), (15, .own 40), (55, .int .i64 T), (56, .int .i64 t), (68, .tup [.int .i64 wi, .bool (true && decide (0 ≤ pickV l B1))])]) (h' := mpH m :: tab9 :: ev40 40 (es ++ e1) :: knY l l.length B1 S1 last1 t true) les leh ?_
    repeat' (first | refine sA ?_ | ((first | apply kM | apply kN); (iterate 3 (· exact rfl)); (· first | exact ya)) | refine sG ?_ | (refine sK ?_ ?_ <;> intro hc <;> (try simp only [KL, sL, reduceCtorEq] at hc) <;> (try (have hT : True := hc; clear hT hc)) <;> (try (exfalso; omega))))
    refine zcall (fun i => ρJ i) (f3) rfl rfl leh (by kernel_rfl) (by kernel_rfl) (by kernel_rfl) (by kernel_rfl) rfl rfl (fun r h' hR => ?_)
    obtain ⟨rfl, rfl⟩ := hR
    refine ⟨rfl, rfl, ?_⟩
    refine ole (s' := [(2, .lst 1 (dm.map eLI)), (10, .ptr 100 0), (12, .own 30), (15, .own 40), (17, .int .i64 wi), (55, .int .i64 T), (56, .int .i64 t), (77, .tup [.agg (eJob jb), .bool (hasN B1.act wi)])]) (h' := mpH m :: tab9 :: ev40 40 (es ++ e1) :: knY l l.length B1 S1 last1 t true) les leh ?_
    repeat' (first | refine sB ?_ | (show O _ _ _ _ _ _ _; first | refine ao_alloc (id := 12) rfl rfl rfl rfl rfl rfl rfl ?_) | ((first | apply kM | apply kN); (iterate 3 (· exact rfl)); (· first | exact ya)) | refine sG ?_ | (refine sK ?_ ?_ <;> intro hc <;> (try simp only [KL, sL, reduceCtorEq] at hc) <;> (try (have hT : True := hc; clear hT hc)) <;> (try (exfalso; omega))))
    obtain ⟨ed, hed⟩ : ∃ ed, ed = decide (stepsK dm wi jb.no ≤ jb.steps + 1) := ⟨_, rfl⟩
    have c5 := stepsK_fn dm wi jb.no hw0 hno
    have hed2 : decide (stepsK dm wi jb.no ≤ jb.steps + 1) = ed := hed.symm
    rw [hed2] at f4 hcl hnx
    obtain ⟨K2, hK2⟩ : ∃ K2, K2 = closeK l ⟨B1, S1, last1, t, true⟩ ed := ⟨_, rfl⟩
    obtain ⟨e2', he2⟩ : ∃ e, e = closeE l ⟨B1, S1, last1, t, true⟩ jb.steps ed := ⟨_, rfl⟩
    rw [← hK2] at f4 hnx
    rw [← he2] at f4 hnx hcl
    refine wle (s' := [(2, .lst 1 (dm.map eLI)), (10, .ptr 100 0), (12, .own 30), (15, .own 40), (17, .int .i64 wi), (19, .ptr 12 0), (55, .int .i64 T), (56, .int .i64 t)]) (h' := rH l m jb (⟨B1, S1, last1, t, true⟩, 40, es ++ e1) false) les (show LeH _ (jB jb :: mpH m :: tab9 :: ev40 40 (es ++ e1) :: knY l l.length B1 S1 last1 t true) from leh) ?_
    refine wdrawQ (rH l m jb) (fun _ => True) (fun _ => True) [13, 14] [] 0 99 (fun i => if i = 13 then [9, 105, 106, 107, 108] else if i = 14 then [41] else []) (⟨B1, S1, last1, t, true⟩, 40, es ++ e1) (LeH.refl _) (by kernel_rfl) (by kernel_rfl) (by kernel_rfl) trivial trivial rfl rfl rfl rfl ?_
    refine qw_new (v := .own 40) rfl rfl (by kernel_rfl) (fun y hy => tn_ok ya) ?_
    repeat' (first | refine sA ?_ | ((first | apply kM | apply kN); (iterate 3 (· exact rfl)); (· first | exact ya | exact q_c (c5) rfl)) | (show QW _ _ _ _ _ _ _ _ _ _ _ _ _ _ _; first | refine qw_nil ?_ | (apply qw_any; (· exact rfl); (· exact rfl); (· exact rfl); (· intro y' f' hy'; first | exact ya | exact q_c (c5) rfl); (· first | exact rfl | kernel_rfl))) | refine sG ?_ | (refine sK ?_ ?_ <;> intro hc <;> (try simp only [KL, sL, reduceCtorEq] at hc) <;> (try (have hT : True := hc; clear hT hc)) <;> (try (exfalso; omega))))
    rw [hed2]
    refine qw_tu (x' := (K2, 40, es ++ e1)) rfl rfl rfl trivial trivial (fun f hf => tl_call ρR f4 rfl (show LeH (jB jb :: mpH m :: tab9 :: ev40 40 (es ++ e1) :: knY l l.length B1 S1 last1 t true) _ from leh) (by kernel_rfl) (by kernel_rfl) (by kernel_rfl) (by kernel_rfl) (by kernel_rfl) (by kernel_rfl) (by kernel_rfl) rfl (show LeH _ (jB jb :: mpH m :: tab9 :: ev40 40 (es ++ e1) :: knO l l.length K2) from leh)) (by kernel_rfl) ?_
    refine qw_tu (x' := (K2, 41, es ++ e1 ++ e2')) rfl rfl rfl trivial trivial (fun f hf => tl_ap (id := 40) (id2 := 41) (ys := e2') (by_ := 40) rfl rfl rfl rfl rfl rfl rfl rfl rfl rfl (fun _ _ => rfl) (by rw [List.length_append]; omega) (by rw [List.length_append]; omega) rfl rfl rfl rfl (show LeH _ (jB jb :: mpH m :: tab9 :: ev40 41 (es ++ e1 ++ e2') :: knO l l.length K2) from leh)) (by kernel_rfl) ?_
    repeat' (first | refine sA ?_ | ((first | apply kM | apply kN); (iterate 3 (· exact rfl)); (· first | exact ya)) | (show QW _ _ _ _ _ _ _ _ _ _ _ _ _ _ _; first | refine qw_nil ?_ | (apply qw_any; (· exact rfl); (· exact rfl); (· exact rfl); (· intro y' f' hy'; first | exact ya); (· first | exact rfl | kernel_rfl))) | refine sG ?_ | (refine sK ?_ ?_ <;> intro hc <;> (try simp only [KL, sL, reduceCtorEq] at hc) <;> (try (have hT : True := hc; clear hT hc)) <;> (try (exfalso; omega))))
    exact ⟨t + 1, by omega, by omega, les, by simp only [hnx]; exact (show LeH _ (mpH m :: tab9 :: ev40 41 (es ++ e1 ++ e2') :: knO l l.length K2) from leh)⟩
  · subst htt
    repeat' (first | refine sA ?_ | ((first | apply kM | apply kN); (iterate 3 (· exact rfl)); (· first | exact ya)) | refine sG ?_ | (refine sK ?_ ?_ <;> intro hc <;> (try simp only [KL, sL, reduceCtorEq] at hc) <;> (try (have hT : True := hc; clear hT hc)) <;> (try (exfalso; omega))))
    all_goals first | (exfalso; omega) | skip
    refine retT (fun _ => turn_freeze (t := 8) rfl rfl rfl) ?_
    exact retq rfl rfl
end Go.Proofs.YtfjoaeghnfkdlaaGreatDoor
namespace Go.Proofs.YtfjoaeghnfkdlaaGreatDoor
set_option maxRecDepth 100000
set_option maxRecDepth 100000
open Go.RowKit
def egT (j : Job) : Nat → Bool → Heap
  | 0, false => []
  | 0, true => [jbO 12 default]
  | _ + 1, _ => [jbO 12 j]
def egH (h : Heap) (j : Job) (y : Nat) (f : Bool) : Heap := h ++ egT j y f
def rendE (l : List Task) (B : Bk) (now at_ : Int) (ended : Bool) : List Event :=
  if 0 ≤ rpickTo l B l.length then ⟨now, 5, rpickTo l B l.length, (jobAt B (rpickTo l B l.length)).no, at_⟩ :: (if ended then [⟨now, 7, rpickTo l B l.length, (jobAt B (rpickTo l B l.length)).no, now + 1 - (jobAt B (rpickTo l B l.length)).release⟩] else []) else [⟨now, 6, -1, 0, 0⟩]
def rendB (l : List Task) (B : Bk) (now : Int) (ended : Bool) : Bk := if 0 ≤ rpickTo l B l.length then stepB B now (rpickTo l B l.length) ended else B
abbrev evO (i : Nat) (es : List Event) : Nat × Chunk := (i, .row 68 5 (es.map eEvent))
def rsH (l : List Task) (F : Fo) (now : Int) (j : Job) (y : Bk) (f : Bool) : Heap := jbO 12 j :: rkX l y F now true
def rvT (es : List Event) : Bool → Heap
  | false => []
  | true => [evO 14 es]
def rvH (h : Heap) (es : List Event) (y : Unit) (f : Bool) : Heap := h ++ rvT es f
def rtH (l : List Task) (F : Fo) (now : Int) (j : Job) (es : List Event) (y : Bk) (f : Bool) : Heap := evO 14 es :: jbO 12 j :: rkX l y F now true
def rwH (h : Heap) (y : Nat × List Event) (f : Bool) : Heap := h ++ [evO y.1 y.2]
end Go.Proofs.YtfjoaeghnfkdlaaGreatDoor
namespace Go.Proofs.YtfjoaeghnfkdlaaGreatDoor
set_option maxRecDepth 100000
set_option maxRecDepth 100000
open Go.RowKit
/-! Asks, by the document. -/
def rpQ (l : List Task) (LL : List (List Int)) (now i : Int) : Bool := decide (0 ≤ i ∧ i < l.length) && decide ((l.getD i.toNat default).kind = 2) && match (LL.getD i.toNat []).getLast? with
  | none => true
  | some v => decide ((l.getD i.toNat default).period ≤ now - v)
def letB (l : List Task) (B : Bk) (now i : Int) : Event := letE l ⟨B, [], [], now, true⟩ i
structure Rk where
  B : Bk
  LL : List (List Int)
  es : List Event
def rTask (l : List Task) (now : Int) (p : Bk × List Event) (i : Nat) : Bk × List Event := if atB (l.getD i default) now then (relBk l p.1 i now, p.2 ++ [letB l p.1 now i]) else p
def rAsk (l : List Task) (now : Int) (p : Rk) (i : Int) : Rk :=
  if rpQ l p.LL now i then ⟨relBk l p.B i now, p.LL.set i.toNat (p.LL.getD i.toNat [] ++ [now]), p.es ++ [letB l p.B now i]⟩ else ⟨p.B, p.LL, p.es ++ [⟨now, 2, i, 0, 0⟩]⟩
def rLate (B : Bk) (now : Int) : Bk × List Event :=
  let L := lateBk B now (setL B.act) (setL B.act).length
  (L.2, L.1.map (lateE L.2 now))
def rBegin (l : List Task) (B : Bk) (LL : List (List Int)) (now : Int) (asks : List Int) : Rk :=
  let p := (List.range l.length).foldl (rTask l now) (rLate B now)
  asks.foldl (rAsk l now) ⟨p.1, LL, p.2⟩
structure RI (l : List Task) (n : Nat) (now : Int) (B : Bk) (LL : List (List Int)) : Prop where
  good : GoodB l n B
  len : LL.length = l.length
  rows : ∀ r ∈ LL, r.length ≤ n ∧ ∀ v ∈ r, 0 ≤ v ∧ v ≤ now
theorem RI.mono {l : List Task} {n : Nat} {now : Int} {B : Bk} {LL : List (List Int)} (h : RI l n now B LL) : RI l (n + 1) now B LL := ⟨h.good.mono, h.len, fun r hr => ⟨Nat.le_succ_of_le (h.rows r hr).1, (h.rows r hr).2⟩⟩
theorem RI.ask {l : List Task} {n : Nat} {now : Int} (h0 : 0 ≤ now) {p : Rk} (h : RI l n now p.B p.LL) (i : Int) : RI l (n + 1) now (rAsk l now p i).B (rAsk l now p i).LL := by
  unfold rAsk
  split
  · refine ⟨h.good.rel _ _, (by simp only [List.length_set]; exact h.len), fun r hr => ?_⟩
    rcases List.mem_or_eq_of_mem_set hr with hr | rfl
    · exact ⟨Nat.le_succ_of_le (h.rows r hr).1, (h.rows r hr).2⟩
    · by_cases hi : i.toNat < p.LL.length
      · have hm : p.LL.getD i.toNat [] ∈ p.LL := by
          rw [List.getD_eq_getElem?_getD, List.getElem?_eq_getElem hi, Option.getD_some]; exact List.getElem_mem hi
        refine ⟨(by rw [List.length_append]; have := (h.rows _ hm).1; simp only [List.length_cons, List.length_nil]; omega), fun v hv => ?_⟩
        rcases List.mem_append.1 hv with hv | hv
        · exact (h.rows _ hm).2 v hv
        · rw [List.mem_singleton] at hv; subst hv; exact ⟨h0, Int.le_refl _⟩
      · rw [List.getD_eq_getElem?_getD, List.getElem?_eq_none (by omega), Option.getD_none]
        refine ⟨(by simp), fun v hv => ?_⟩
        simp only [List.nil_append, List.mem_singleton] at hv; subst hv; exact ⟨h0, Int.le_refl _⟩
  · exact h.mono
theorem RI.asks {l : List Task} {now : Int} (h0 : 0 ≤ now) : ∀ (D : List Int) {n : Nat} {p : Rk}, RI l n now p.B p.LL → RI l (n + D.length) now (D.foldl (rAsk l now) p).B (D.foldl (rAsk l now) p).LL
  | [], n, p, h => h
  | i :: r, n, p, h => by
    rw [List.foldl_cons, List.length_cons, show n + (r.length + 1) = n + 1 + r.length by omega]
    exact RI.asks h0 r (h.ask h0 i)
theorem rTask_good {l : List Task} {now : Int} : ∀ (D : List Nat) {n : Nat} {p : Bk × List Event}, GoodB l n p.1 → GoodB l (n + D.length) (D.foldl (rTask l now) p).1 ∧ (D.foldl (rTask l now) p).2.length ≤ p.2.length + D.length
  | [], n, p, h => ⟨h, Nat.le_refl _⟩
  | i :: r, n, p, h => by
    rw [List.foldl_cons, List.length_cons, show n + (r.length + 1) = n + 1 + r.length by omega]
    unfold rTask
    split
    · obtain ⟨h1, h2⟩ := rTask_good (now := now) r (p := (relBk l p.1 i now, p.2 ++ [letB l p.1 now i])) (h.rel _ _)
      refine ⟨h1, Nat.le_trans h2 ?_⟩
      simp only [List.length_append, List.length_cons, List.length_nil]; omega
    · obtain ⟨h1, h2⟩ := rTask_good (now := now) r (p := p) h.mono
      exact ⟨h1, Nat.le_trans h2 (by omega)⟩
theorem rAsk_len {l : List Task} {now : Int} : ∀ (D : List Int) (p : Rk), (D.foldl (rAsk l now) p).es.length = p.es.length + D.length
  | [], p => rfl
  | d :: r, p => by
    rw [List.foldl_cons, rAsk_len r]
    unfold rAsk
    split <;> (simp only [List.length_append, List.length_cons, List.length_nil]; omega)
def foG (LL : List (List Int)) (i : Nat) (z : Int) : Fo := ⟨LL.length + 2, ((foN LL).app (i + 1) (LL.getD i []) z).rows, .arr ((List.range' 1 LL.length).set i (LL.length + 1))⟩
abbrev rkE (l : List Task) (B : Bk) (F : Fo) (now : Int) (opn : Bool) (id : Nat) (es : List Event) : Heap := evO id es :: rkX l B F now opn
abbrev rkT (l : List Task) (B : Bk) (F : Fo) (now : Int) (opn : Bool) (t : Heap) : Heap :=
  (0, .blk 50 [.lst 7 (l.map eTask), .ptr 1 0, .part 8 0, .int .i64 now, .bool opn]) :: (1, .blk 53 [.lst 7 (l.map eTask), .own 5, .own 6]) ::
   (5, .row 71 8 (B.all.map eJob)) :: (6, .row 60 2 (B.overs.map eDue)) :: foA 8 F :: t
def rbgH (l : List Task) (B : Bk) (F : Fo) (now : Int) (y : Nat × List Event) (f : Bool) : Heap := rkT l B F now true [evO y.1 y.2]
def rfoH (l : List Task) (B : Bk) (now : Int) (es : List Event) (y : Fo) (f : Bool) : Heap := evO 21 es :: rkX l B y now true
def rblH (l : List Task) (F : Fo) (now : Int) (y : Bk) (f : Bool) : Heap := evO 21 [] :: rkX l y F now true
end Go.Proofs.YtfjoaeghnfkdlaaGreatDoor
namespace Go.Proofs.YtfjoaeghnfkdlaaGreatDoor
set_option maxRecDepth 100000
set_option maxRecDepth 100000
open Go.RowKit
def rHad (l : List Task) (B : Bk) : Int := if 0 ≤ rpickTo l B l.length then (jobAt B (rpickTo l B l.length)).steps else 0
def rEnded (l : List Task) (dm : List (List Int)) (B : Bk) : Bool := decide (0 ≤ rpickTo l B l.length) && decide (stepsK dm (rpickTo l B l.length) (jobAt B (rpickTo l B l.length)).no ≤ rHad l B + 1)
def rTick (l : List Task) (asks : List Due) (dm : List (List Int)) (p : Rk) (t : Nat) : Rk :=
  let b := rBegin l p.B p.LL t (asksAt asks t)
  ⟨rendB l b.B t (rEnded l dm b.B), b.LL, p.es ++ b.es ++ rendE l b.B t (rHad l b.B) (rEnded l dm b.B)⟩
def rRun (l : List Task) (asks : List Due) (dm : List (List Int)) (n : Nat) : Rk := (List.range n).foldl (rTick l asks dm) ⟨newB, List.replicate l.length [], []⟩
theorem rRun_next (l : List Task) (asks : List Due) (dm : List (List Int)) (n : Nat) : rRun l asks dm (n + 1) = rTick l asks dm (rRun l asks dm n) n := by
  rw [rRun, List.range_succ, List.foldl_append]; rfl
theorem rpick_has {l : List Task} {B : Bk} : ∀ k, 0 ≤ rpickTo l B k → hasN B.act (rpickTo l B k) = true ∧ rpickTo l B k < k
  | 0, h => by simp [rpickTo] at h
  | k + 1, h => by
    rw [rpick_next] at h ⊢
    split
    · rename_i hc
      rw [Bool.and_eq_true] at hc
      exact ⟨hc.1, by omega⟩
    · rename_i hc
      rw [if_neg hc] at h
      obtain ⟨h1, h2⟩ := rpick_has k h
      exact ⟨h1, by omega⟩
theorem JR.tasks {l : List Task} {now : Int} (hn : 0 ≤ now ∧ now ≤ 1000000) : ∀ (D : List Nat) {p : Bk × List Event}, JR p.1 → JR (D.foldl (rTask l now) p).1
  | [], p, h => h
  | i :: r, p, h => by
    rw [List.foldl_cons]
    refine JR.tasks hn r ?_
    unfold rTask; split
    · exact h.rel _ _ _ hn
    · exact h
theorem JR.asks {l : List Task} {now : Int} (hn : 0 ≤ now ∧ now ≤ 1000000) : ∀ (D : List Int) {p : Rk}, JR p.B → JR (D.foldl (rAsk l now) p).B
  | [], p, h => h
  | i :: r, p, h => by
    rw [List.foldl_cons]
    refine JR.asks hn r ?_
    unfold rAsk; split
    · exact h.rel _ _ _ hn
    · exact h
structure RunR (l : List Task) (asks : List Due) (t : Nat) (p : Rk) : Prop where
  ri : RI l (10 * t + askN asks t) t p.B p.LL
  jr : JR p.B
  len : p.es.length ≤ 80 * t + askN asks t
theorem RI.begin_ {l : List Task} {n : Nat} {now : Int} {B : Bk} {LL : List (List Int)} (h : RI l n now B LL) (hn : 0 ≤ now ∧ now ≤ 1000000) (hj : JR B) (asks : List Int) : RI l (n + l.length + asks.length) now (rBegin l B LL now asks).B (rBegin l B LL now asks).LL ∧ JR (rBegin l B LL now asks).B ∧ (rBegin l B LL now asks).es.length ≤ 64 + l.length + asks.length := by
  have hg := h.good.late now (setL B.act) (setL B.act).length
  have hT := rTask_good (l := l) (now := now) (List.range l.length) (p := rLate B now) hg.1
  rw [List.length_range] at hT
  have h1 : RI l (n + l.length) now ((List.range l.length).foldl (rTask l now) (rLate B now)).1 LL := ⟨hT.1, h.len, fun r hr => ⟨Nat.le_trans (h.rows r hr).1 (by omega), (h.rows r hr).2⟩⟩
  have hlen : (rLate B now).2.length ≤ 64 := by
    show (List.map _ _).length ≤ 64
    rw [List.length_map]
    exact Nat.le_trans hg.2.2 (setL_len _)
  refine ⟨RI.asks hn.1 asks (p := ⟨_, LL, _⟩) h1, JR.asks hn asks (p := ⟨_, LL, _⟩) (JR.tasks hn _ (hj.late _ _ _)), ?_⟩
  show (asks.foldl (rAsk l now) _).es.length ≤ _
  rw [rAsk_len]
  have := hT.2
  simp only; omega
theorem RI.next {l : List Task} {n : Nat} {t : Int} {B : Bk} {LL : List (List Int)} (h : RI l n t B LL) {B' : Bk} {m : Nat} (hg : GoodB l m B') (hm : n ≤ m) : RI l m (t + 1) B' LL :=
  ⟨hg, h.len, fun r hr => ⟨Nat.le_trans (h.rows r hr).1 hm, fun v hv => ⟨((h.rows r hr).2 v hv).1, by have := ((h.rows r hr).2 v hv).2; omega⟩⟩⟩
theorem rendB_good {l : List Task} {n : Nat} {B : Bk} (h : GoodB l n B) (hj : JR B) (now : Int) (e : Bool) : GoodB l (n + 2) (rendB l B now e) ∧ JR (rendB l B now e) := by
  unfold rendB
  split
  · unfold stepB; split
    · exact ⟨(h.step _ _).fin _ _, (hj.step _ _).fin _ _⟩
    · exact ⟨(h.step _ _).mono, hj.step _ _⟩
  · exact ⟨h.mono.mono, hj⟩
theorem rend_len {l : List Task} {B : Bk} {now a : Int} {e : Bool} : (rendE l B now a e).length ≤ 2 := by
  unfold rendE; split
  · split <;> simp
  · simp
theorem GoodB.up {l : List Task} {n m : Nat} {B : Bk} (h : GoodB l n B) (hm : n ≤ m) : GoodB l m B := by
  obtain ⟨d, rfl⟩ := Nat.exists_eq_add_of_le hm
  clear hm
  induction d with
  | zero => exact h
  | succ d ih => exact ih.mono
theorem rRun_inv {l : List Task} (hl : l.length ≤ 8) (asks : List Due) (dm : List (List Int)) : ∀ t : Nat, t ≤ 100000 → RunR l asks t (rRun l asks dm t)
  | 0, _ => ⟨⟨(good_new (by omega)).up (Nat.zero_le _), List.length_replicate, fun r hr => (by rw [List.eq_of_mem_replicate hr]; exact ⟨Nat.zero_le _, fun v hv => (by cases hv)⟩)⟩, fun j hj => (by cases hj), Nat.zero_le _⟩
  | t + 1, ht => by
    have ih := rRun_inv hl asks dm t (by omega)
    rw [rRun_next]
    obtain ⟨h1, h2, h3⟩ := ih.ri.begin_ ⟨by omega, by omega⟩ ih.jr (asksAt asks t)
    have hn := askN_next t (by omega) asks
    obtain ⟨g1, g2⟩ := rendB_good h1.good h2 t (rEnded l dm (rBegin l (rRun l asks dm t).B (rRun l asks dm t).LL t (asksAt asks t)).B)
    refine ⟨?_, g2, ?_⟩
    · have := h1.next g1 (by omega)
      have e : ((t + 1 : Nat) : Int) = (t : Int) + 1 := by push_cast; rfl
      rw [e, hn]
      exact ⟨this.good.up (by omega), this.len, fun r hr => ⟨Nat.le_trans (this.rows r hr).1 (by omega), (this.rows r hr).2⟩⟩
    · have h4 := ih.len
      have h5 := rend_len (l := l) (B := (rBegin l (rRun l asks dm t).B (rRun l asks dm t).LL t (asksAt asks t)).B) (now := t) (a := rHad l (rBegin l (rRun l asks dm t).B (rRun l asks dm t).LL t (asksAt asks t)).B) (e := rEnded l dm (rBegin l (rRun l asks dm t).B (rRun l asks dm t).LL t (asksAt asks t)).B)
      unfold rTick
      simp only [List.length_append]
      push_cast
      omega
end Go.Proofs.YtfjoaeghnfkdlaaGreatDoor
