/- slices.Clone at []Due. No condition but a size. -/
import Derived.Test.YtfjoaeghnfkdlaaGreatDoorC11
import Derived.Test.YtfjoaeghnfkdlaaGreatDoorC10
import Derived.Test.YtfjoaeghnfkdlaaGreatDoorC12
import Derived.Test.YtfjoaeghnfkdlaaGreatDoorC13
set_option linter.unusedSimpArgs false
set_option linter.unusedVariables false
set_option maxHeartbeats 1000000
namespace Go.Proofs.YtfjoaeghnfkdlaaGreatDoor
set_option maxRecDepth 100000
set_option maxRecDepth 100000
open Go.RowKit
theorem clO_Due (l : List Due) (hn : l.length ≤ 1000000) : FnH Tryz.prog 85 [.own 4] [(4, .row 60 2 (l.map eDue)), (5, .row 60 2 (([] : List Due).map eDue))] (fun r h' => r = .own 5 ∧ h' = [(4, .row 60 2 (l.map eDue)), (5, .row 60 2 (l.map eDue))]) := by
  refine fnhb Tryz.func85 (entered_of (by kernel_rfl)) rfl rfl ?_
  refine wle (s' := [(0, .own 4)]) (h' := [(4, .row 60 2 (l.map eDue))]) les leh ?_
  repeat' (first | refine sA ?_ | ((first | apply kM | apply kN); (iterate 3 (· exact rfl)); (· first | exact ya)) | refine sG ?_ | (refine sK ?_ ?_ <;> intro hc <;> (try simp only [KL, sL, reduceCtorEq] at hc) <;> (try (have hT : True := hc; clear hT hc)) <;> (try (exfalso; omega))))
  refine ao_nilqO rfl rfl rfl rfl rfl rfl rfl rfl (fun b hb => ?_)
  cases b
  · repeat' (first | refine sA ?_ | ((first | apply kM | apply kN); (iterate 3 (· exact rfl)); (· first | exact yag)) | refine sG ?_ | (refine sK ?_ ?_ <;> intro hc <;> (try simp only [KL, sL, reduceCtorEq] at hc) <;> (try (have hT : True := hc; clear hT hc)) <;> (try (exfalso; omega))))
    refine o_blit (f := eDue) (l := []) (id := 5) (sz := 2) rfl rfl rfl rfl rfl rfl rfl rfl rfl rfl rfl rfl rfl rfl ?_
    repeat' (first | refine sA ?_ | ((first | apply kM | apply kN); (iterate 3 (· exact rfl)); (· first | exact ya)) | refine sG ?_ | (refine sK ?_ ?_ <;> intro hc <;> (try simp only [KL, sL, reduceCtorEq] at hc) <;> (try (have hT : True := hc; clear hT hc)) <;> (try (exfalso; omega))))
    refine ao_apO (id := 5) (id2 := 4) (ys := l) (by_ := 16) rfl rfl rfl rfl rfl rfl rfl rfl rfl rfl (fun _ _ => rfl) ?_ ?_ rfl rfl rfl rfl rfl ?_
    · simp only [List.length_nil]; omega
    · simp only [List.length_nil]; omega
    repeat' (first | refine sA ?_ | ((first | apply kM | apply kN); (iterate 3 (· exact rfl)); (· first | exact ya)) | refine sG ?_ | (refine sK ?_ ?_ <;> intro hc <;> (try simp only [KL, sL, reduceCtorEq] at hc) <;> (try (have hT : True := hc; clear hT hc)) <;> (try (exfalso; omega))))
    exact reth rfl leh ⟨rfl, rfl⟩
  · have h0 : l = [] := by simpa using hb rfl
    subst h0
    repeat' (first | refine sA ?_ | ((first | apply kM | apply kN); (iterate 3 (· exact rfl)); (· first | exact ya)) | refine sG ?_ | (refine sK ?_ ?_ <;> intro hc <;> (try simp only [KL, sL, reduceCtorEq] at hc) <;> (try (have hT : True := hc; clear hT hc)) <;> (try (exfalso; omega))))
    refine retT (fun n => turn_own eDue (t := 2) rfl 5 60 2 (by omega) rfl) ?_
    exact reth rfl leh ⟨rfl, rfl⟩
end Go.Proofs.YtfjoaeghnfkdlaaGreatDoor
namespace Go.Proofs.YtfjoaeghnfkdlaaGreatDoor
set_option maxRecDepth 100000
set_option maxRecDepth 100000
open Go.RowKit
structure Bk where
  all : List Job
  now : List (Int × Int)
  cnt : List (Int × Int)
  act : Nat
  overs : List Due
def newB : Bk := ⟨[], [], [], 0, []⟩
def posB (B : Bk) (i : Int) : Nat := ((getM B.now i).getD 0).toNat
def jobAt (B : Bk) (i : Int) : Job := B.all.getD (posB B i) default
def noB (B : Bk) (i : Int) : Int := (getM B.cnt i).getD 0
def newJb (l : List Task) (B : Bk) (i t : Int) : Job := ⟨i, noB B i, inT t, addT (inT t) (l.getD i.toNat default).deadline, -1, -1, 0, false⟩
def stepJb (t : Int) (j : Job) : Job := { j with start := if j.steps = 0 then inT t else j.start, steps := j.steps + 1 }
def endJb (t : Int) (j : Job) : Job := { j with fin := inT t + 1 }
def missJb (j : Job) : Job := { j with missed := true }
def relBk (l : List Task) (B : Bk) (i t : Int) : Bk :=
  if i < 0 ∨ (l.length : Int) ≤ i then B
  else if hasN B.act i then { B with overs := B.overs ++ [⟨inT t, i⟩] }
  else ⟨B.all ++ [newJb l B i t], setM B.now i B.all.length, setM B.cnt i (noB B i + 1), putN B.act i, B.overs⟩
def setJ (B : Bk) (i : Int) (j : Job) : Bk := { B with all := B.all.set (posB B i) j }
def stepBk (B : Bk) (i t : Int) : Bk := if hasN B.act i then setJ B i (stepJb t (jobAt B i)) else B
def endBk (B : Bk) (i t : Int) : Bk := if hasN B.act i then { setJ B i (endJb t (jobAt B i)) with act := dropN B.act i, now := delM B.now i } else B
def lateQ (t : Int) (j : Job) : Bool := !j.missed && decide (j.deadline ≤ inT t)
def lateBk (B : Bk) (t : Int) (ks : List Int) : Nat → List Int × Bk
  | 0 => ([], B)
  | k + 1 =>
    let s := lateBk B t ks k
    let i := ks.getD k default
    if lateQ t (jobAt s.2 i) then (s.1 ++ [i], setJ s.2 i (missJb (jobAt s.2 i))) else s
def cntT (js : List Job) (i : Int) : Int := ((js.filter fun j => decide (j.task = i)).length : Int)
structure GoodB (l : List Task) (n : Nat) (B : Bk) : Prop where
  hl : l.length ≤ 64
  act : B.act < 2 ^ 64
  alen : B.all.length ≤ n
  olen : B.overs.length ≤ n
  now : ∀ i, hasN B.act i = true → ∃ k : Nat, getM B.now i = some (k : Int) ∧ k < B.all.length ∧ (B.all.getD k default).task = i ∧ (B.all.getD k default).fin < 0
  opn : ∀ k : Nat, k < B.all.length → (B.all.getD k default).fin < 0 → hasN B.act (B.all.getD k default).task = true ∧ getM B.now (B.all.getD k default).task = some (k : Int)
  one : ∀ k k' : Nat, k' < k → k < B.all.length → (B.all.getD k' default).task = (B.all.getD k default).task → 0 ≤ (B.all.getD k' default).fin
  task : ∀ k : Nat, k < B.all.length → 0 ≤ (B.all.getD k default).task ∧ (B.all.getD k default).task < l.length
  no : ∀ k : Nat, k < B.all.length → (B.all.getD k default).no = cntT (B.all.take k) (B.all.getD k default).task
  cnt : ∀ i, noB B i = cntT B.all i
  st : ∀ k : Nat, k < B.all.length → 0 ≤ (B.all.getD k default).steps ∧ (B.all.getD k default).steps ≤ n ∧ (0 < (B.all.getD k default).steps ↔ 0 ≤ (B.all.getD k default).start)
theorem cntT_app (a b : List Job) (i : Int) : cntT (a ++ b) i = cntT a i + cntT b i := by
  unfold cntT; rw [List.filter_append, List.length_append]; omega
theorem cntT_le (a : List Job) (i : Int) : 0 ≤ cntT a i ∧ cntT a i ≤ a.length := by
  unfold cntT
  have := List.length_filter_le (fun j : Job => decide (j.task = i)) a
  omega
theorem cntT_one (j : Job) (i : Int) : cntT [j] i = if j.task = i then 1 else 0 := by
  unfold cntT
  by_cases h : j.task = i <;> simp [List.filter_cons, h]
theorem cntT_congr {a b : List Job} (hl : a.length = b.length) (h : ∀ k : Nat, k < a.length → (a.getD k default).task = (b.getD k default).task) (i : Int) : cntT a i = cntT b i := by
  unfold cntT
  have e : a.map (·.task) = b.map (·.task) := by
    refine List.ext_getElem (by simp [hl]) fun k h1 h2 => ?_
    rw [List.length_map] at h1 h2
    have := h k h1
    simpa [h1, h2] using this
  have f : ∀ c : List Job, (c.filter fun j => decide (j.task = i)).length = ((c.map (·.task)).filter fun x => decide (x = i)).length := fun c => by
    rw [List.filter_map, List.length_map]; rfl
  rw [f, f, e]
theorem getD_set {js : List Job} {p : Nat} {j : Job} (k : Nat) (hk : k < js.length) : (js.set p j).getD k default = if p = k then j else js.getD k default := by
  rw [List.getD_eq_getElem?_getD, List.getElem?_set, List.getD_eq_getElem?_getD]
  split
  · rename_i h; subst h; simp [hk]
  · rfl
theorem getD_takeJ {js : List Job} {m k : Nat} (h : k < m) : (js.take m).getD k default = js.getD k default := by
  rw [List.getD, List.getElem?_take, if_pos h]; rfl
theorem GoodB.mono {l : List Task} {n : Nat} {B : Bk} (h : GoodB l n B) : GoodB l (n + 1) B :=
  { h with alen := Nat.le_succ_of_le h.alen, olen := Nat.le_succ_of_le h.olen, st := fun k hk => by have := h.st k hk; omega }
theorem good_new {l : List Task} (hl : l.length ≤ 64) : GoodB l 0 newB :=
  ⟨hl, by decide, Nat.le_refl _, Nat.le_refl _, fun i h => by simp [newB, hasN] at h, fun k h => by simp [newB] at h, fun k k' h1 h => by simp [newB] at h, fun k h => by simp [newB] at h, fun k h => by simp [newB] at h, fun i => rfl, fun k h => by simp [newB] at h⟩
theorem GoodB.set {l : List Task} {n : Nat} {B : Bk} (h : GoodB l n B) (p : Nat) (j : Job) (h1 : p < B.all.length → j.task = (B.all.getD p default).task ∧ j.no = (B.all.getD p default).no ∧ j.fin = (B.all.getD p default).fin)
    (h2 : p < B.all.length → 0 ≤ j.steps ∧ j.steps ≤ n + 1 ∧ (0 < j.steps ↔ 0 ≤ j.start)) : GoodB l (n + 1) { B with all := B.all.set p j } := by
  have e : ∀ k : Nat, k < B.all.length → ((B.all.set p j).getD k default).task = (B.all.getD k default).task ∧ ((B.all.set p j).getD k default).no = (B.all.getD k default).no ∧ ((B.all.set p j).getD k default).fin = (B.all.getD k default).fin := fun k hk => by
    rw [getD_set k hk]
    split
    · rename_i e; subst e; exact h1 hk
    · exact ⟨rfl, rfl, rfl⟩
  have hlen : (B.all.set p j).length = B.all.length := List.length_set
  refine ⟨h.hl, h.act, ?_, Nat.le_succ_of_le h.olen, fun i hi => ?_, fun k hk hf => ?_, fun k k' h3 hk ht => ?_, fun k hk => ?_, fun k hk => ?_, fun i => ?_, fun k hk => ?_⟩
  · simp only [hlen]; exact Nat.le_succ_of_le h.alen
  · obtain ⟨k, g1, g2, g3, g4⟩ := h.now i hi
    exact ⟨k, g1, by simp only [hlen]; exact g2, by rw [(e k g2).1]; exact g3, by rw [(e k g2).2.2]; exact g4⟩
  · simp only [hlen] at hk hf ⊢
    rw [(e k hk).2.2] at hf
    rw [(e k hk).1]
    exact h.opn k hk hf
  · simp only [hlen] at hk ht ⊢
    rw [(e k hk).1, (e k' (by omega)).1] at ht
    rw [(e k' (by omega)).2.2]
    exact h.one k k' h3 hk ht
  · simp only [hlen] at hk ⊢
    rw [(e k hk).1]; exact h.task k hk
  · simp only [hlen] at hk ⊢
    rw [(e k hk).1, (e k hk).2.1, h.no k hk]
    refine cntT_congr (by simp only [List.length_take, hlen]) (fun q hq => ?_) _
    rw [List.length_take] at hq
    have := (e q (by omega)).1
    rw [getD_takeJ (by omega), getD_takeJ (by omega), this]
  · exact (h.cnt i).trans (cntT_congr hlen.symm (fun q hq => ((e q hq).1).symm) i)
  · simp only [hlen] at hk ⊢
    rw [getD_set k hk]
    split
    · rename_i e; subst e; exact h2 hk
    · have := h.st k hk; omega
theorem GoodB.pos {l : List Task} {n : Nat} {B : Bk} (h : GoodB l n B) {i : Int} (hi : hasN B.act i = true) : getM B.now i = some (posB B i : Int) ∧ posB B i < B.all.length ∧ (jobAt B i).task = i ∧ (jobAt B i).fin < 0 := by
  obtain ⟨k, g1, g2, g3, g4⟩ := h.now i hi
  have e : posB B i = k := by rw [posB, g1]; rfl
  rw [jobAt, e]
  exact ⟨g1, g2, g3, g4⟩
theorem GoodB.step {l : List Task} {n : Nat} {B : Bk} (h : GoodB l n B) (i t : Int) : GoodB l (n + 1) (stepBk B i t) := by
  rw [stepBk]
  split
  · rename_i hi
    refine h.set _ _ (fun _ => ⟨rfl, rfl, rfl⟩) (fun hp => ?_)
    have : 0 ≤ (jobAt B i).steps ∧ (jobAt B i).steps ≤ n ∧ (0 < (jobAt B i).steps ↔ 0 ≤ (jobAt B i).start) := h.st _ hp
    have h0 := inT_le t
    simp only [stepJb]
    by_cases hz : (jobAt B i).steps = 0
    · rw [if_pos hz]; omega
    · rw [if_neg hz]; omega
  · exact h.mono
theorem hasN_range {m : Nat} {i : Int} (h : hasN m i = true) : 0 ≤ i ∧ i ≤ 63 := by
  rw [hasN_eq, decide_eq_true_eq, mem_setL] at h; omega
theorem hasN_drop {m : Nat} {i k : Int} (h : hasN (dropN m k) i = true) : hasN m i = true ∧ i ≠ k := by
  have h0 := hasN_range h
  rw [hasN_eq, decide_eq_true_eq, mem_setL, dropN_bit] at h
  rw [hasN_eq, decide_eq_true_eq, mem_setL]
  obtain ⟨_, _, h⟩ := h
  simp only [Bool.and_eq_true, Bool.not_eq_true', decide_eq_false_iff_not] at h
  exact ⟨⟨h0.1, h0.2, h.1⟩, fun e => h.2.2 ⟨by omega, by omega, by omega⟩⟩
theorem drop_hasN {m : Nat} {i k : Int} (h : hasN m i = true) (hk : i ≠ k) : hasN (dropN m k) i = true := by
  have h0 := hasN_range h
  rw [hasN_eq, decide_eq_true_eq, mem_setL] at h
  rw [hasN_eq, decide_eq_true_eq, mem_setL, dropN_bit]
  obtain ⟨_, _, h⟩ := h
  refine ⟨h0.1, h0.2, ?_⟩
  simp only [h, Bool.true_and, Bool.and_eq_true, decide_eq_true_eq, Bool.not_eq_true', decide_eq_false_iff_not]
  omega
theorem hasN_put {m : Nat} {i k : Int} (hk : 0 ≤ k ∧ k ≤ 63) : hasN (putN m k) i = true ↔ (i = k ∨ hasN m i = true) := by
  rw [hasN_eq, hasN_eq, decide_eq_true_eq, decide_eq_true_eq, mem_setL, mem_setL, putN_bit]
  simp only [Bool.or_eq_true, decide_eq_true_eq]
  constructor
  · rintro ⟨h1, h2, h3 | h3⟩
    · exact .inr ⟨h1, h2, h3⟩
    · exact .inl (by omega)
  · rintro (rfl | ⟨h1, h2, h3⟩)
    · exact ⟨hk.1, hk.2, .inr (by omega)⟩
    · exact ⟨h1, h2, .inl h3⟩
theorem getM_del_ne {α : Type} {m : List (Int × α)} {k i : Int} (h : i ≠ k) : getM (delM m k) i = getM m i := by
  induction m with
  | nil => rfl
  | cons p r ih =>
    obtain ⟨k', v⟩ := p
    rw [delM, getM]
    by_cases h1 : k' = k
    · rw [if_pos h1, if_neg (by omega)]
    · rw [if_neg h1, getM, ih]
theorem getM_set {α : Type} {m : List (Int × α)} {k i : Int} {x : α} : getM (setM m k x) i = if i = k then some x else getM m i := by
  induction m with
  | nil =>
    rw [setM, getM, getM]
    by_cases h : i = k
    · rw [if_pos h, if_pos h.symm]
    · rw [if_neg h, if_neg (Ne.symm h), getM]
  | cons p r ih =>
    obtain ⟨k', v⟩ := p
    rw [setM]
    by_cases h1 : k' = k
    · subst h1
      rw [if_pos rfl, getM, getM]
      by_cases h : i = k'
      · rw [if_pos h, if_pos h.symm]
      · rw [if_neg h, if_neg (Ne.symm h), if_neg (Ne.symm h)]
    · rw [if_neg h1, getM, getM, ih]
      by_cases h : k' = i
      · rw [if_pos h, if_pos h, if_neg (by omega)]
      · rw [if_neg h, if_neg h]
theorem GoodB.fin {l : List Task} {n : Nat} {B : Bk} (h : GoodB l n B) (i t : Int) : GoodB l (n + 1) (endBk B i t) := by
  rw [endBk]
  split
  case isFalse => exact h.mono
  rename_i hi
  obtain ⟨p1, p2, p3, p4⟩ := h.pos hi
  have h0 := inT_le t
  rw [setJ]
  have e : ∀ k : Nat, k < B.all.length → ((B.all.set (posB B i) (endJb t (jobAt B i))).getD k default).task = (B.all.getD k default).task ∧ ((B.all.set (posB B i) (endJb t (jobAt B i))).getD k default).no = (B.all.getD k default).no ∧
      ((B.all.set (posB B i) (endJb t (jobAt B i))).getD k default).fin = (if posB B i = k then inT t + 1 else (B.all.getD k default).fin) ∧ ((B.all.set (posB B i) (endJb t (jobAt B i))).getD k default).steps = (B.all.getD k default).steps ∧ ((B.all.set (posB B i) (endJb t (jobAt B i))).getD k default).start = (B.all.getD k default).start := fun k hk => by
    rw [getD_set k hk]
    split
    · rename_i e; subst e; exact ⟨rfl, rfl, rfl, rfl, rfl⟩
    · exact ⟨rfl, rfl, rfl, rfl, rfl⟩
  have hlen : (B.all.set (posB B i) (endJb t (jobAt B i))).length = B.all.length := List.length_set
  refine ⟨h.hl, dropN_lt h.act i, ?_, Nat.le_succ_of_le h.olen, fun i' hi' => ?_, fun k hk hf => ?_, fun k k' h3 hk ht => ?_, fun k hk => ?_, fun k hk => ?_, fun i => ?_, fun k hk => ?_⟩
  · simp only [hlen]; exact Nat.le_succ_of_le h.alen
  · obtain ⟨h1, h2⟩ := hasN_drop hi'
    obtain ⟨k, g1, g2, g3, g4⟩ := h.now i' h1
    have hne : posB B i ≠ k := fun e => by rw [← e] at g3; exact h2 (g3.symm.trans p3)
    refine ⟨k, by simp only [getM_del_ne h2]; exact g1, by simp only [hlen]; exact g2, by rw [(e k g2).1]; exact g3, by rw [(e k g2).2.2.1, if_neg hne]; exact g4⟩
  · simp only [hlen] at hk hf ⊢
    rw [(e k hk).2.2.1] at hf
    split at hf
    · omega
    rename_i hne
    rw [(e k hk).1]
    obtain ⟨g1, g2⟩ := h.opn k hk hf
    have h2 : (B.all.getD k default).task ≠ i := fun e2 => by
      rw [e2, p1] at g2
      exact hne (Int.ofNat.inj (Option.some.inj g2))
    exact ⟨drop_hasN g1 h2, by rw [getM_del_ne h2]; exact g2⟩
  · simp only [hlen] at hk ht ⊢
    rw [(e k hk).1, (e k' (by omega)).1] at ht
    rw [(e k' (by omega)).2.2.1]
    split
    · omega
    · exact h.one k k' h3 hk ht
  · simp only [hlen] at hk ⊢
    rw [(e k hk).1]; exact h.task k hk
  · simp only [hlen] at hk ⊢
    rw [(e k hk).1, (e k hk).2.1, h.no k hk]
    refine cntT_congr (by simp only [List.length_take, hlen]) (fun q hq => ?_) _
    rw [List.length_take] at hq
    have := (e q (by omega)).1
    rw [getD_takeJ (by omega), getD_takeJ (by omega), this]
  · exact (h.cnt i).trans (cntT_congr hlen.symm (fun q hq => ((e q hq).1).symm) i)
  · simp only [hlen] at hk ⊢
    rw [(e k hk).2.2.2.1, (e k hk).2.2.2.2]
    have := h.st k hk; omega
theorem getD_app {js : List Job} {j : Job} (k : Nat) : (js ++ [j]).getD k default = if k < js.length then js.getD k default else if k = js.length then j else default := by
  rw [List.getD_eq_getElem?_getD]
  by_cases h : k < js.length
  · rw [if_pos h, List.getElem?_append_left h, List.getD_eq_getElem?_getD]
  · rw [if_neg h, List.getElem?_append_right (by omega)]
    by_cases h2 : k = js.length
    · rw [if_pos h2, h2, Nat.sub_self]; rfl
    · rw [if_neg h2]
      obtain ⟨m, hm⟩ : ∃ m, k - js.length = m + 1 := ⟨k - js.length - 1, by omega⟩
      rw [hm]; rfl
theorem GoodB.rel {l : List Task} {n : Nat} {B : Bk} (h : GoodB l n B) (i t : Int) : GoodB l (n + 1) (relBk l B i t) := by
  have hl := h.hl
  rw [relBk]
  split
  · exact h.mono
  rename_i hr
  split
  · exact { h.mono with olen := by have := h.olen; simp only [List.length_append, List.length_cons, List.length_nil]; omega }
  rename_i hi
  have hlen : (B.all ++ [newJb l B i t]).length = B.all.length + 1 := by simp
  have hno : ∀ k : Nat, k < B.all.length → (B.all.getD k default).task = i → 0 ≤ (B.all.getD k default).fin := fun k hk ht => by
    rcases Int.lt_or_le (B.all.getD k default).fin 0 with hf | hf
    · have := (h.opn k hk hf).1
      rw [ht] at this
      exact absurd this hi
    · exact hf
  refine ⟨hl, putN_lt h.act i, ?_, Nat.le_succ_of_le h.olen, fun i' hi' => ?_, fun k hk hf => ?_, fun k k' h3 hk ht => ?_, fun k hk => ?_, fun k hk => ?_, fun i' => ?_, fun k hk => ?_⟩
  · have := h.alen; simp only [hlen]; omega
  · simp only [hlen]
    rcases (hasN_put (by omega)).1 hi' with e | h1
    · subst e
      exact ⟨B.all.length, by simp only [getM_set, if_pos], by omega, by rw [getD_app, if_neg (by omega), if_pos rfl]; rfl, by rw [getD_app, if_neg (by omega), if_pos rfl]; simp [newJb]⟩
    · obtain ⟨k, g1, g2, g3, g4⟩ := h.now i' h1
      have hne : i' ≠ i := fun e => hi (by rw [← e]; exact h1)
      exact ⟨k, by simp only [getM_set, if_neg hne]; exact g1, by omega, by rw [getD_app, if_pos g2]; exact g3, by rw [getD_app, if_pos g2]; exact g4⟩
  · simp only [hlen] at hk hf ⊢
    rw [getD_app] at hf ⊢
    by_cases hk2 : k < B.all.length
    · rw [if_pos hk2] at hf ⊢
      obtain ⟨g1, g2⟩ := h.opn k hk2 hf
      have hne : (B.all.getD k default).task ≠ i := fun e => hi (by rw [← e]; exact g1)
      exact ⟨(hasN_put (by omega)).2 (.inr g1), by rw [getM_set, if_neg hne]; exact g2⟩
    · obtain rfl : k = B.all.length := by omega
      rw [if_neg hk2, if_pos rfl]
      exact ⟨(hasN_put (by omega)).2 (.inl rfl), by rw [getM_set]; exact if_pos rfl⟩
  · simp only [hlen] at hk ht ⊢
    rw [getD_app, if_pos (show k' < B.all.length by omega)] at ht ⊢
    rw [getD_app] at ht
    by_cases hk2 : k < B.all.length
    · rw [if_pos hk2] at ht
      exact h.one k k' h3 hk2 ht
    · rw [if_neg hk2, if_pos (by omega)] at ht
      exact hno k' (by omega) ht
  · simp only [hlen] at hk ⊢
    rw [getD_app]
    by_cases hk2 : k < B.all.length
    · rw [if_pos hk2]; exact h.task k hk2
    · rw [if_neg hk2, if_pos (by omega)]; simp only [newJb]; omega
  · simp only [hlen] at hk ⊢
    rw [getD_app]
    by_cases hk2 : k < B.all.length
    · rw [if_pos hk2, h.no k hk2, List.take_append_of_le_length (by omega)]
    · obtain rfl : k = B.all.length := by omega
      rw [if_neg hk2, if_pos rfl, List.take_left']
      · exact h.cnt i
      · rfl
  · rw [cntT_app, cntT_one, ← h.cnt i']
    simp only [noB, getM_set]
    by_cases he : i' = i
    · subst he
      rw [if_pos rfl, if_pos (show (newJb l B i' t).task = i' from rfl)]; rfl
    · rw [if_neg he, if_neg (fun e => he e.symm)]; omega
  · simp only [hlen] at hk ⊢
    rw [getD_app]
    by_cases hk2 : k < B.all.length
    · rw [if_pos hk2]; have := h.st k hk2; omega
    · rw [if_neg hk2, if_pos (by omega)]; simp only [newJb]; omega
theorem GoodB.set0 {l : List Task} {n : Nat} {B : Bk} (h : GoodB l n B) (i : Int) : GoodB l n (setJ B i (missJb (jobAt B i))) := by
  have h2 := h.set (posB B i) (missJb (jobAt B i)) (fun _ => ⟨rfl, rfl, rfl⟩) (fun hp => by have := h.st _ hp; simp only [missJb, jobAt]; omega)
  refine { h2 with alen := ?_, olen := h.olen, st := fun k hk => ?_ }
  · rw [setJ]; simp only [List.length_set]; exact h.alen
  · rw [setJ] at hk ⊢
    simp only [List.length_set] at hk
    rw [getD_set k hk]
    split
    · rename_i e; subst e
      exact h.st _ hk
    · exact h.st k hk
theorem GoodB.late {l : List Task} {n : Nat} {B : Bk} (h : GoodB l n B) (t : Int) (ks : List Int) : ∀ k, GoodB l n (lateBk B t ks k).2 ∧ (lateBk B t ks k).2.act = B.act ∧ (lateBk B t ks k).1.length ≤ k
  | 0 => ⟨h, rfl, Nat.le_refl _⟩
  | k + 1 => by
    obtain ⟨h1, h2, h3⟩ := GoodB.late h t ks k
    rw [lateBk]
    split
    · exact ⟨h1.set0 _, h2, by simp only [List.length_append, List.length_cons, List.length_nil]; omega⟩
    · exact ⟨h1, h2, by omega⟩
end Go.Proofs.YtfjoaeghnfkdlaaGreatDoor
namespace Go.Proofs.YtfjoaeghnfkdlaaGreatDoor
set_option maxRecDepth 100000
set_option maxRecDepth 100000
open Go.RowKit
abbrev ldH (l : List Task) (B : Bk) : Heap :=
  [(0, .blk 127 [.lst 7 (l.map eTask), .own 5, .own 2, .own 3, .int .u64 B.act, .own 6]), (5, .row 71 8 (B.all.map eJob)), (2, mI B.now), (3, mI B.cnt), (6, .row 60 2 (B.overs.map eDue))]
theorem time_fn (t : Int) : Fn Tryz.prog 77 [.int .i64 t] (.int .i64 (inT t)) := by
  refine fnb Tryz.func77 (entered_of (by kernel_rfl)) rfl rfl rfl ?_
  repeat' (first | refine sA ?_ | ((first | apply kM | apply kN); (iterate 3 (· exact rfl)); (· first | exact ya | exact q_c (wclamp_fn _ _ _) rfl)) | refine sG ?_ | (refine sK ?_ ?_ <;> intro hc <;> (try simp only [KL, sL, reduceCtorEq] at hc) <;> (try (have hT : True := hc; clear hT hc)) <;> (try (exfalso; omega))))
  exact retq rfl rfl
theorem hasJ_fn (l : List Task) (B : Bk) (hm : B.act < 2 ^ 64) (i : Int) : FnH Tryz.prog 78 [.ptr 0 0, .int .i64 i] (ldH l B) (fun r h' => r = .bool (hasN B.act i) ∧ h' = ldH l B) := by
  refine fnhb Tryz.func78 (entered_of (by kernel_rfl)) rfl rfl ?_
  repeat' (first | refine sA ?_ | ((first | apply kM | apply kN); (iterate 3 (· exact rfl)); (· first | exact ya | exact q_c (has_fn B.act hm i) rfl)) | refine sG ?_ | (refine sK ?_ ?_ <;> intro hc <;> (try simp only [KL, sL, reduceCtorEq] at hc) <;> (try (have hT : True := hc; clear hT hc)) <;> (try (exfalso; omega))))
  exact retq rfl ⟨rfl, rfl⟩
theorem jobJ_fn (l : List Task) (B : Bk) (i : Int) (hg : getM B.now i = some (posB B i : Int)) (hp : posB B i < B.all.length) : FnH Tryz.prog 76 [.ptr 0 0, .int .i64 i] (ldH l B) (fun r h' => r = .eptr 5 8 (posB B i) 0 ∧ h' = ldH l B) := by
  refine fnhb Tryz.func76 (entered_of (by kernel_rfl)) rfl rfl ?_
  have e : (getM B.now i).getD 0 = (posB B i : Int) := by rw [hg]; rfl
  generalize posB B i = p at *
  repeat' (first | refine sA ?_ | ((first | apply kM | apply kN); (iterate 3 (· exact rfl)); (· first | (show Y _ ⟨_, .indexAddr _ _ _, _, _, _, _⟩ _ _ _; first | exact q_ioE (p) rfl rfl rfl rfl rfl rfl (by omega) (by omega)) | exact ya | exact Y.mk (ok_lookI z_int rfl rfl rfl rfl rfl))) | refine sG ?_ | (refine sK ?_ ?_ <;> intro hc <;> (try simp only [KL, sL, reduceCtorEq] at hc) <;> (try (have hT : True := hc; clear hT hc)) <;> (try (exfalso; omega))))
  exact retq rfl ⟨rfl, rfl⟩
def relOk (l : List Task) (B : Bk) (i : Int) : Bool := !decide (i < 0 ∨ (l.length : Int) ≤ i) && !hasN B.act i
def ρi (i : Nat) : Nat := i
set_option maxHeartbeats 4000000 in
theorem relJ_fn (l : List Task) (B : Bk) (n : Nat) (h : GoodB l n B) (hn : n ≤ 100000) (i t : Int) : FnH Tryz.prog 81 [.ptr 0 0, .int .i64 i, .int .i64 t] (ldH l B)
    (fun r h' => r = .tup [.int .i64 (if relOk l B i then noB B i else 0), .bool (relOk l B i)] ∧ h' = ldH l (relBk l B i t)) := by
  refine fnhb Tryz.func81 (entered_of (by kernel_rfl)) rfl rfl ?_
  have hl := h.hl
  have hact := h.act
  have halen := h.alen
  have holen := h.olen
  have hno : 0 ≤ noB B i ∧ noB B i ≤ B.all.length := by rw [h.cnt]; exact cntT_le _ _
  have c1 := time_fn t
  have c2 := hasJ_fn l B hact i
  have ht := inT_le t
  by_cases h0 : i < 0 ∨ (l.length : Int) ≤ i
  · have e1 : relOk l B i = false := by rw [relOk, decide_eq_true h0]; rfl
    have e2 : relBk l B i t = B := by rw [relBk, if_pos h0]
    rw [e1, e2]
    repeat' (first | refine sA ?_ | ((first | apply kM | apply kN); (iterate 3 (· exact rfl)); (· first | exact ya)) | refine sG ?_ | (refine sK ?_ ?_ <;> intro hc <;> (try simp only [KL, sL, reduceCtorEq] at hc) <;> (try (have hT : True := hc; clear hT hc)) <;> (try (exfalso; omega))))
    all_goals first | (exfalso; omega) | exact retq rfl ⟨rfl, rfl⟩
  have hr : 0 ≤ i ∧ i < l.length := by omega
  cases hh : hasN B.act i
  case true =>
    have e1 : relOk l B i = false := by rw [relOk, hh, Bool.not_true, Bool.and_false]
    have e2 : relBk l B i t = { B with overs := B.overs ++ [⟨inT t, i⟩] } := by rw [relBk, if_neg h0, if_pos hh]
    rw [e1, e2]
    rw [hh] at c2
    repeat' (first | refine sA ?_ | ((first | apply kM | apply kN); (iterate 3 (· exact rfl)); (· first | exact ya | exact q_c (c1) rfl)) | refine sG ?_ | (refine sK ?_ ?_ <;> intro hc <;> (try simp only [KL, sL, reduceCtorEq] at hc) <;> (try (have hT : True := hc; clear hT hc)) <;> (try (exfalso; omega))))
    all_goals first | (exfalso; omega) | skip
    refine zcall (fun i => ρi i) (c2) rfl rfl leh rfl rfl rfl rfl rfl rfl (fun r h' hR => ?_)
    obtain ⟨rfl, rfl⟩ := hR
    refine ⟨rfl, rfl, ?_⟩
    repeat' (first | refine sA ?_ | ((first | apply kM | apply kN); (iterate 3 (· exact rfl)); (· first | exact ya)) | refine sG ?_ | (refine sK ?_ ?_ <;> intro hc <;> (try simp only [KL, sL, reduceCtorEq] at hc) <;> (try (have hT : True := hc; clear hT hc)) <;> (try (exfalso; omega))))
    refine oturn (turn_mask [false, false, false, false, false, true] (id := 0) rfl) ?_
    refine ole (h' := [(6, .row 60 2 (B.overs.map eDue)), (0, .blk 127 [.lst 7 (l.map eTask), .own 5, .own 2, .own 3, .int .u64 B.act, .undef]), (5, .row 71 8 (B.all.map eJob)), (2, mI B.now), (3, mI B.cnt)]) (LeS.refl _) leh ?_
    (refine ao_ap (id := 6) (ys := [(⟨inT t, i⟩ : Due)]) (by_ := 16) rfl rfl rfl rfl rfl rfl rfl rfl rfl rfl (fun _ _ => rfl) ?_ ?_ rfl rfl rfl rfl rfl ?_; (· (first | omega | ((try simp only [List.length_cons, List.length_nil, List.length_append, List.length_map]) <;> omega))); (· (first | omega | ((try simp only [List.length_cons, List.length_nil, List.length_append, List.length_map]) <;> omega))))
    repeat' (first | refine sA ?_ | ((first | apply kM | apply kN); (iterate 3 (· exact rfl)); (· first | exact ya)) | refine sG ?_ | (refine sK ?_ ?_ <;> intro hc <;> (try simp only [KL, sL, reduceCtorEq] at hc) <;> (try (have hT : True := hc; clear hT hc)) <;> (try (exfalso; omega))))
    exact reth (h' := ldH l { B with overs := B.overs ++ [⟨inT t, i⟩] }) rfl leh ⟨rfl, rfl⟩
  case false =>
    have e1 : relOk l B i = true := by rw [relOk, decide_eq_false h0, hh]; rfl
    have e2 : relBk l B i t = ⟨B.all ++ [newJb l B i t], setM B.now i B.all.length, setM B.cnt i (noB B i + 1), putN B.act i, B.overs⟩ := by rw [relBk, if_neg h0, if_neg (by rw [hh]; exact Bool.false_ne_true)]
    rw [e1, e2, if_pos rfl]
    rw [hh] at c2
    have c5 := put_fn B.act hact i
    repeat' (first | refine sA ?_ | ((first | apply kM | apply kN); (iterate 3 (· exact rfl)); (· first | exact ya | exact q_c (c1) rfl)) | refine sG ?_ | (refine sK ?_ ?_ <;> intro hc <;> (try simp only [KL, sL, reduceCtorEq] at hc) <;> (try (have hT : True := hc; clear hT hc)) <;> (try (exfalso; omega))))
    all_goals first | (exfalso; omega) | skip
    refine zcall (fun i => ρi i) (c2) rfl rfl leh rfl rfl rfl rfl rfl rfl (fun r h' hR => ?_)
    obtain ⟨rfl, rfl⟩ := hR
    refine ⟨rfl, rfl, ?_⟩
    have enb : noB B i = (getM B.cnt i).getD 0 := rfl
    rw [enb] at hno ⊢
    generalize hnb : (getM B.cnt i).getD 0 = no at *
    repeat' (first | refine sA ?_ | ((first | apply kM | apply kN); (iterate 3 (· exact rfl)); (· first | exact ya | exact Y.mk (hnb ▸ ok_lookI z_int rfl rfl rfl rfl rfl))) | refine sG ?_ | (refine sK ?_ ?_ <;> intro hc <;> (try simp only [KL, sL, reduceCtorEq] at hc) <;> (try (have hT : True := hc; clear hT hc)) <;> (try (exfalso; omega))))
    refine ao_tu (tu_st (sto_map (no + 1) rfl rfl rfl rfl rfl rfl rfl) rfl) rfl rfl rfl ?_
    repeat' (first | refine sB ?_ | ((first | apply kM | apply kN); (iterate 3 (· exact rfl)); (· first | exact ya)) | refine sG ?_ | (refine sK ?_ ?_ <;> intro hc <;> (try simp only [KL, sL, reduceCtorEq] at hc) <;> (try (have hT : True := hc; clear hT hc)) <;> (try (exfalso; omega))))
    refine wle (s' := [(0, .ptr 0 0), (1, .int .i64 i), (2, .int .i64 (inT t)), (8, .int .i64 no)]) (h' := ldH l { B with cnt := setM B.cnt i (no + 1) }) les leh ?_
    refine wdrawC (H := fun y : List (Int × Int) => ldH l { B with now := y, cnt := setM B.cnt i (no + 1) }) (ok := fun _ => True) (tn := [10]) (ln := []) B.now leh (by kernel_rfl) (by kernel_rfl) (by kernel_rfl) trivial ?_
    repeat' (first | refine sA ?_ | ((first | apply kM | apply kN); (iterate 3 (· exact rfl)); (· first | exact ya)) | (show C _ _ _ _ _ _ _ _ _ _ _; first | refine cnil ?_ | (apply c_any; (· exact rfl); (· exact rfl); (· intro y' hy'; first | exact ya)) | (apply c_ld; (· exact rfl); (· exact rfl); (· exact rfl); (· first | exact ya)) | refine c_grdN rfl rfl rfl ?_) | refine sG ?_ | ((first | refine kQ rfl rfl ?_ ?_ | refine kR rfl rfl rfl rfl rfl ?_ ?_ | refine kS rfl rfl rfl ?_ ?_ | refine c_grd rfl rfl rfl ?_ ?_) <;> intro hc <;> (try simp only [KL, sL, reduceCtorEq] at hc) <;> (try (have hT : True := hc; clear hT hc)) <;> (try (exfalso; omega))))
    refine c_tu (x' := setM B.now i B.all.length) rfl rfl trivial (TuO.post (tu_st (sto_map (B.all.length : Int) rfl rfl rfl rfl rfl rfl rfl) rfl) leh) ?_
    repeat' (first | refine sB ?_ | ((first | apply kM | apply kN); (iterate 3 (· exact rfl)); (· first | exact ya | exact q_c (c5) rfl)) | (show C _ _ _ _ _ _ _ _ _ _ _; first | refine cnil ?_ | (apply c_any; (· exact rfl); (· exact rfl); (· intro y' hy'; first | exact ya | exact q_c (c5) rfl)) | (apply c_ld; (· exact rfl); (· exact rfl); (· exact rfl); (· first | exact ya | exact q_c (c5) rfl)) | refine c_grdN rfl rfl rfl ?_) | refine sG ?_ | ((first | refine kQ rfl rfl ?_ ?_ | refine kR rfl rfl rfl rfl rfl ?_ ?_ | refine kS rfl rfl rfl ?_ ?_ | refine c_grd rfl rfl rfl ?_ ?_) <;> intro hc <;> (try simp only [KL, sL, reduceCtorEq] at hc) <;> (try (have hT : True := hc; clear hT hc)) <;> (try (exfalso; omega))))
    refine wle (s' := [(0, .ptr 0 0), (1, .int .i64 i), (2, .int .i64 (inT t)), (8, .int .i64 no)]) (h' := ldH l { B with now := setM B.now i B.all.length, cnt := setM B.cnt i (no + 1), act := putN B.act i }) les leh ?_
    refine wdrawK (H := fun y : List Job × AV => [(5, .row 71 8 (y.1.map eJob)), (0, .blk 127 [.lst 7 (l.map eTask), y.2, .own 2, .own 3, .int .u64 (putN B.act i), .own 6]), (2, mI (setM B.now i B.all.length)), (3, mI (setM B.cnt i (no + 1))), (6, .row 60 2 (B.overs.map eDue))]) (ok := fun _ => True) (tn := [20, 23]) (ln := [4]) (c := 20) (R := 5) (B.all, .own 5) leh (by kernel_rfl) (by kernel_rfl) (by kernel_rfl) trivial ?_
    repeat' (first | refine sA ?_ | ((first | apply kM | apply kN); (iterate 3 (· exact rfl)); (· first | exact ya | exact q_c (wadd_fn _ _) rfl)) | (show KW _ _ _ _ _ _ _ _ _ _ _ _ _; first | refine knil rfl ?_ | (apply k_any; (· exact rfl); (· exact rfl); (· exact rfl); (· intro y' hy'; first | exact ya | exact q_c (wadd_fn _ _) rfl); (· first | exact rfl | kernel_rfl)) | (apply k_ld; (· exact rfl); (· exact rfl); (· exact rfl); (· exact rfl); (· first | exact ya | exact q_c (wadd_fn _ _) rfl); (· first | exact rfl | kernel_rfl))) | refine sG ?_ | (refine sK ?_ ?_ <;> intro hc <;> (try simp only [KL, sL, reduceCtorEq] at hc) <;> (try (have hT : True := hc; clear hT hc)) <;> (try (exfalso; omega))))
    refine k_mv (x' := (B.all ++ [(⟨i, no, inT t, addT (inT t) (l.getD i.toNat default).deadline, -1, -1, 0, false⟩ : Job)], .undef)) rfl rfl rfl trivial
      (TuK.post (TuK.pre (pre_mask (h2 := [(5, .row 71 8 (B.all.map eJob)), (0, .blk 127 [.lst 7 (l.map eTask), .undef, .own 2, .own 3, .int .u64 (putN B.act i), .own 6]), (2, mI (setM B.now i B.all.length)), (3, mI (setM B.cnt i (no + 1))), (6, .row 60 2 (B.overs.map eDue))]) [false, true] (id := 0) rfl leh)
        (tk_append (ys := [(⟨i, no, inT t, addT (inT t) (l.getD i.toNat default).deadline, -1, -1, 0, false⟩ : Job)]) (by_ := 64) rfl rfl rfl rfl rfl rfl rfl rfl rfl rfl (fun _ _ => rfl) (by simp only [List.length_cons, List.length_nil]; omega) (by simp only [List.length_cons, List.length_nil]; omega) rfl rfl)) leh) ?_
    repeat' (first | refine sA ?_ | ((first | apply kM | apply kN); (iterate 3 (· exact rfl)); (· first | exact ya)) | (show KW _ _ _ _ _ _ _ _ _ _ _ _ _; first | refine knil rfl ?_ | (apply k_any; (· exact rfl); (· exact rfl); (· exact rfl); (· intro y' hy'; first | exact ya); (· first | exact rfl | kernel_rfl)) | (apply k_ld; (· exact rfl); (· exact rfl); (· exact rfl); (· exact rfl); (· first | exact ya); (· first | exact rfl | kernel_rfl))) | refine sG ?_ | (refine sK ?_ ?_ <;> intro hc <;> (try simp only [KL, sL, reduceCtorEq] at hc) <;> (try (have hT : True := hc; clear hT hc)) <;> (try (exfalso; omega))))
    refine k_tu (x' := (B.all ++ [(⟨i, no, inT t, addT (inT t) (l.getD i.toNat default).deadline, -1, -1, 0, false⟩ : Job)], .own 5)) rfl rfl rfl trivial ((tu_st (sto_B rfl rfl rfl rfl rfl rfl (Nat.le_of_ble_eq_true rfl)) rfl).post leh) (by kernel_rfl) ?_
    repeat' (first | refine sA ?_ | ((first | apply kM | apply kN); (iterate 3 (· exact rfl)); (· first | exact ya)) | (show KW _ _ _ _ _ _ _ _ _ _ _ _ _; first | refine knil rfl ?_ | (apply k_any; (· exact rfl); (· exact rfl); (· exact rfl); (· intro y' hy'; first | exact ya); (· first | exact rfl | kernel_rfl)) | (apply k_ld; (· exact rfl); (· exact rfl); (· exact rfl); (· exact rfl); (· first | exact ya); (· first | exact rfl | kernel_rfl))) | refine sG ?_ | (refine sK ?_ ?_ <;> intro hc <;> (try simp only [KL, sL, reduceCtorEq] at hc) <;> (try (have hT : True := hc; clear hT hc)) <;> (try (exfalso; omega))))
    have ej : newJb l B i t = ⟨i, no, inT t, addT (inT t) (l.getD i.toNat default).deadline, -1, -1, 0, false⟩ := by rw [newJb, enb]
    rw [ej]
    exact reth (h' := ldH l ⟨B.all ++ [(⟨i, no, inT t, addT (inT t) (l.getD i.toNat default).deadline, -1, -1, 0, false⟩ : Job)], setM B.now i B.all.length, setM B.cnt i (no + 1), putN B.act i, B.overs⟩) rfl leh ⟨rfl, rfl⟩
end Go.Proofs.YtfjoaeghnfkdlaaGreatDoor
namespace Go.Proofs.YtfjoaeghnfkdlaaGreatDoor
set_option maxRecDepth 100000
set_option maxRecDepth 100000
open Go.RowKit
theorem stepJ_fn (l : List Task) (B : Bk) (n : Nat) (h : GoodB l n B) (hn : n ≤ 100000) (i t : Int) : FnH Tryz.prog 82 [.ptr 0 0, .int .i64 i, .int .i64 t] (ldH l B)
    (fun r h' => r = .bool (hasN B.act i) ∧ h' = ldH l (stepBk B i t)) := by
  refine fnhb Tryz.func82 (entered_of (by kernel_rfl)) rfl rfl ?_
  have c1 := time_fn t
  have c2 := hasJ_fn l B h.act i
  cases hh : hasN B.act i
  case false =>
    have e2 : stepBk B i t = B := by rw [stepBk, if_neg (by rw [hh]; exact Bool.false_ne_true)]
    rw [e2]
    rw [hh] at c2
    repeat' (first | refine sA ?_ | ((first | apply kM | apply kN); (iterate 3 (· exact rfl)); (· first | exact ya)) | refine sG ?_ | (refine sK ?_ ?_ <;> intro hc <;> (try simp only [KL, sL, reduceCtorEq] at hc) <;> (try (have hT : True := hc; clear hT hc)) <;> (try (exfalso; omega))))
    refine zcall (fun i => ρi i) (c2) rfl rfl leh rfl rfl rfl rfl rfl rfl (fun r h' hR => ?_)
    obtain ⟨rfl, rfl⟩ := hR
    refine ⟨rfl, rfl, ?_⟩
    repeat' (first | refine sA ?_ | ((first | apply kM | apply kN); (iterate 3 (· exact rfl)); (· first | exact ya)) | refine sG ?_ | (refine sK ?_ ?_ <;> intro hc <;> (try simp only [KL, sL, reduceCtorEq] at hc) <;> (try (have hT : True := hc; clear hT hc)) <;> (try (exfalso; omega))))
    exact retq rfl ⟨rfl, rfl⟩
  obtain ⟨p1, p2, p3, p4⟩ := h.pos hh
  have hst := h.st _ p2
  have c3 := jobJ_fn l B i p1 p2
  have e2 : stepBk B i t = { B with all := B.all.set (posB B i) (stepJb t (B.all.getD (posB B i) default)) } := by rw [stepBk, if_pos hh]; rfl
  rw [e2]
  rw [hh] at c2
  generalize posB B i = p at *
  repeat' (first | refine sA ?_ | ((first | apply kM | apply kN); (iterate 3 (· exact rfl)); (· first | exact ya)) | refine sG ?_ | (refine sK ?_ ?_ <;> intro hc <;> (try simp only [KL, sL, reduceCtorEq] at hc) <;> (try (have hT : True := hc; clear hT hc)) <;> (try (exfalso; omega))))
  refine zcall (fun i => ρi i) (c2) rfl rfl leh rfl rfl rfl rfl rfl rfl (fun r h' hR => ?_)
  obtain ⟨rfl, rfl⟩ := hR
  refine ⟨rfl, rfl, ?_⟩
  repeat' (first | refine sA ?_ | ((first | apply kM | apply kN); (iterate 3 (· exact rfl)); (· first | exact ya)) | refine sG ?_ | (refine sK ?_ ?_ <;> intro hc <;> (try simp only [KL, sL, reduceCtorEq] at hc) <;> (try (have hT : True := hc; clear hT hc)) <;> (try (exfalso; omega))))
  refine zcall (fun i => ρi i) (c3) rfl rfl leh rfl rfl rfl rfl rfl rfl (fun r h' hR => ?_)
  obtain ⟨rfl, rfl⟩ := hR
  refine ⟨rfl, rfl, ?_⟩
  by_cases hz : (B.all.getD p default).steps = 0
  · have hs1 : (B.all.set p { B.all.getD p default with start := inT t }).getD p default = { B.all.getD p default with start := inT t } := by rw [getD_set p p2, if_pos rfl]
    have hln : (B.all.set p { B.all.getD p default with start := inT t }).length = B.all.length := List.length_set
    have e3 : ((B.all.set p { B.all.getD p default with start := inT t }).set p { (B.all.set p { B.all.getD p default with start := inT t }).getD p default with steps := (B.all.getD p default).steps + 1 }) = B.all.set p (stepJb t (B.all.getD p default)) := by rw [List.set_set, hs1, stepJb, if_pos hz]
    repeat' (first | refine sA ?_ | ((first | apply kM | apply kN); (iterate 3 (· exact rfl)); (· first | (show Y _ ⟨_, .load _ _, _, _, _, _⟩ _ _ _; first | exact q_pE' hs1) | exact ya | exact q_c (c1) rfl)) | refine sG ?_ | (refine sK ?_ ?_ <;> intro hc <;> (try simp only [KL, sL, reduceCtorEq] at hc) <;> (try (have hT : True := hc; clear hT hc)) <;> (try (exfalso; omega))))
    all_goals first | (exfalso; omega) | skip
    (refine ao_se (x' := { B.all.getD p default with start := inT t }) rfl rfl rfl rfl rfl rfl rfl rfl rfl ?_ rfl rfl rfl ?_; (· (first | omega | ((try simp only [List.length_set, List.length_cons, List.length_nil, List.length_append, List.length_map]) <;> omega))))
    repeat' (first | refine sA ?_ | ((first | apply kM | apply kN); (iterate 3 (· exact rfl)); (· first | (show Y _ ⟨_, .load _ _, _, _, _, _⟩ _ _ _; first | exact q_pE' hs1) | exact ya | exact q_c (c1) rfl)) | refine sG ?_ | (refine sK ?_ ?_ <;> intro hc <;> (try simp only [KL, sL, reduceCtorEq] at hc) <;> (try (have hT : True := hc; clear hT hc)) <;> (try (exfalso; omega))))
    (refine ao_se (x' := { (B.all.set p { B.all.getD p default with start := inT t }).getD p default with steps := (B.all.getD p default).steps + 1 }) rfl rfl rfl rfl rfl rfl rfl rfl rfl ?_ rfl rfl rfl ?_; (· (first | omega | ((try simp only [List.length_set, List.length_cons, List.length_nil, List.length_append, List.length_map]) <;> omega))))
    repeat' (first | refine sA ?_ | ((first | apply kM | apply kN); (iterate 3 (· exact rfl)); (· first | exact ya)) | refine sG ?_ | (refine sK ?_ ?_ <;> intro hc <;> (try simp only [KL, sL, reduceCtorEq] at hc) <;> (try (have hT : True := hc; clear hT hc)) <;> (try (exfalso; omega))))
    rw [e3]
    exact reth (h' := ldH l { B with all := B.all.set p (stepJb t (B.all.getD p default)) }) rfl leh ⟨rfl, rfl⟩
  · have e3 : B.all.set p { B.all.getD p default with steps := (B.all.getD p default).steps + 1 } = B.all.set p (stepJb t (B.all.getD p default)) := by rw [stepJb, if_neg hz]
    repeat' (first | refine sA ?_ | ((first | apply kM | apply kN); (iterate 3 (· exact rfl)); (· first | exact ya | exact q_c (c1) rfl)) | refine sG ?_ | (refine sK ?_ ?_ <;> intro hc <;> (try simp only [KL, sL, reduceCtorEq] at hc) <;> (try (have hT : True := hc; clear hT hc)) <;> (try (exfalso; omega))))
    all_goals first | (exfalso; omega) | skip
    (refine ao_se (x' := { B.all.getD p default with steps := (B.all.getD p default).steps + 1 }) rfl rfl rfl rfl rfl rfl rfl rfl rfl ?_ rfl rfl rfl ?_; (· (first | omega | ((try simp only [List.length_set, List.length_cons, List.length_nil, List.length_append, List.length_map]) <;> omega))))
    repeat' (first | refine sA ?_ | ((first | apply kM | apply kN); (iterate 3 (· exact rfl)); (· first | exact ya)) | refine sG ?_ | (refine sK ?_ ?_ <;> intro hc <;> (try simp only [KL, sL, reduceCtorEq] at hc) <;> (try (have hT : True := hc; clear hT hc)) <;> (try (exfalso; omega))))
    rw [e3]
    exact reth (h' := ldH l { B with all := B.all.set p (stepJb t (B.all.getD p default)) }) rfl leh ⟨rfl, rfl⟩
set_option maxHeartbeats 4000000 in
theorem endJ_fn (l : List Task) (B : Bk) (n : Nat) (h : GoodB l n B) (hn : n ≤ 100000) (i t : Int) : FnH Tryz.prog 83 [.ptr 0 0, .int .i64 i, .int .i64 t] (ldH l B)
    (fun r h' => r = .tup [.agg (eJob (if hasN B.act i then endJb t (jobAt B i) else default)), .bool (hasN B.act i)] ∧ h' = ldH l (endBk B i t)) := by
  refine FnH.drop' (fnhb Tryz.func83 (entered_of (by kernel_rfl)) rfl rfl ?_)
  have c1 := time_fn t
  have c2 := hasJ_fn l B h.act i
  cases hh : hasN B.act i
  case false =>
    have e2 : endBk B i t = B := by rw [endBk, if_neg (by rw [hh]; exact Bool.false_ne_true)]
    rw [e2]
    rw [hh] at c2
    repeat' (first | refine sA ?_ | (show O _ _ _ _ _ _ _; first | refine ao_alloc (id := 8) rfl rfl rfl rfl rfl rfl rfl ?_) | ((first | apply kM | apply kN); (iterate 3 (· exact rfl)); (· first | exact ya)) | refine sG ?_ | (refine sK ?_ ?_ <;> intro hc <;> (try simp only [KL, sL, reduceCtorEq] at hc) <;> (try (have hT : True := hc; clear hT hc)) <;> (try (exfalso; omega))))
    refine zcall (fun i => ρi i) (c2) rfl rfl leh rfl rfl rfl rfl rfl rfl (fun r h' hR => ?_)
    obtain ⟨rfl, rfl⟩ := hR
    refine ⟨rfl, rfl, ?_⟩
    repeat' (first | refine sA ?_ | ((first | apply kM | apply kN); (iterate 3 (· exact rfl)); (· first | exact ya)) | refine sG ?_ | (refine sK ?_ ?_ <;> intro hc <;> (try simp only [KL, sL, reduceCtorEq] at hc) <;> (try (have hT : True := hc; clear hT hc)) <;> (try (exfalso; omega))))
    exact retq rfl ⟨ldH l B, leh, rfl, rfl⟩
  obtain ⟨p1, p2, p3, p4⟩ := h.pos hh
  have c3 := jobJ_fn l B i p1 p2
  have hd := drop_fn B.act h.act i
  have e2 : endBk B i t = ⟨B.all.set (posB B i) (endJb t (B.all.getD (posB B i) default)), delM B.now i, B.cnt, dropN B.act i, B.overs⟩ := by rw [endBk, if_pos hh]; rfl
  rw [e2, if_pos rfl, jobAt]
  rw [hh] at c2
  have ht := inT_le t
  generalize posB B i = p at *
  have hs : (B.all.set p (endJb t (B.all.getD p default))).getD p default = endJb t (B.all.getD p default) := by rw [getD_set p p2, if_pos rfl]
  have hln : (B.all.set p (endJb t (B.all.getD p default))).length = B.all.length := List.length_set
  repeat' (first | refine sA ?_ | (show O _ _ _ _ _ _ _; first | refine ao_alloc (id := 8) rfl rfl rfl rfl rfl rfl rfl ?_) | ((first | apply kM | apply kN); (iterate 3 (· exact rfl)); (· first | exact ya)) | refine sG ?_ | (refine sK ?_ ?_ <;> intro hc <;> (try simp only [KL, sL, reduceCtorEq] at hc) <;> (try (have hT : True := hc; clear hT hc)) <;> (try (exfalso; omega))))
  refine zcall (fun i => ρi i) (c2) rfl rfl leh rfl rfl rfl rfl rfl rfl (fun r h' hR => ?_)
  obtain ⟨rfl, rfl⟩ := hR
  refine ⟨rfl, rfl, ?_⟩
  repeat' (first | refine sA ?_ | ((first | apply kM | apply kN); (iterate 3 (· exact rfl)); (· first | exact ya)) | refine sG ?_ | (refine sK ?_ ?_ <;> intro hc <;> (try simp only [KL, sL, reduceCtorEq] at hc) <;> (try (have hT : True := hc; clear hT hc)) <;> (try (exfalso; omega))))
  refine zcall (fun i => ρi i) (c3) rfl rfl leh rfl rfl rfl rfl rfl rfl (fun r h' hR => ?_)
  obtain ⟨rfl, rfl⟩ := hR
  refine ⟨rfl, rfl, ?_⟩
  repeat' (first | refine sA ?_ | ((first | apply kM | apply kN); (iterate 3 (· exact rfl)); (· first | exact ya | exact q_c (c1) rfl | exact q_c (hd) rfl)) | refine sG ?_ | (refine sK ?_ ?_ <;> intro hc <;> (try simp only [KL, sL, reduceCtorEq] at hc) <;> (try (have hT : True := hc; clear hT hc)) <;> (try (exfalso; omega))))
  (refine ao_se (x' := endJb t (B.all.getD p default)) rfl rfl rfl rfl rfl rfl rfl rfl rfl ?_ rfl rfl rfl ?_; (· (first | omega | ((try simp only [List.length_set, List.length_cons, List.length_nil, List.length_append, List.length_map]) <;> omega))))
  repeat' (first | refine sA ?_ | ((first | apply kM | apply kN); (iterate 3 (· exact rfl)); (· first | (show Y _ ⟨_, .load _ _, _, _, _, _⟩ _ _ _; first | exact q_pE' hs) | exact ya | exact q_c (hd) rfl)) | refine sG ?_ | (refine sK ?_ ?_ <;> intro hc <;> (try simp only [KL, sL, reduceCtorEq] at hc) <;> (try (have hT : True := hc; clear hT hc)) <;> (try (exfalso; omega))))
  refine ao_tu (tu_delete rfl rfl rfl rfl rfl) rfl rfl rfl ?_
  repeat' (first | refine sA ?_ | ((first | apply kM | apply kN); (iterate 3 (· exact rfl)); (· first | (show Y _ ⟨_, .load _ _, _, _, _, _⟩ _ _ _; first | exact q_pE' hs) | exact ya)) | refine sG ?_ | (refine sK ?_ ?_ <;> intro hc <;> (try simp only [KL, sL, reduceCtorEq] at hc) <;> (try (have hT : True := hc; clear hT hc)) <;> (try (exfalso; omega))))
  exact retq rfl ⟨ldH l ⟨B.all.set p (endJb t (B.all.getD p default)), delM B.now i, B.cnt, dropN B.act i, B.overs⟩, leh, rfl, rfl⟩
theorem activeJ_fn (l : List Task) (B : Bk) : FnH Tryz.prog 42 [.ptr 0 0] (ldH l B) (fun r h' => r = .int .u64 B.act ∧ h' = ldH l B) := by
  refine fnhb Tryz.func42 (entered_of (by kernel_rfl)) rfl rfl ?_
  repeat' (first | refine sA ?_ | ((first | apply kM | apply kN); (iterate 3 (· exact rfl)); (· first | exact ya)) | refine sG ?_ | (refine sK ?_ ?_ <;> intro hc <;> (try simp only [KL, sL, reduceCtorEq] at hc) <;> (try (have hT : True := hc; clear hT hc)) <;> (try (exfalso; omega))))
  exact retq rfl ⟨rfl, rfl⟩
def ρj (i : Nat) : Nat := [20, 21, 22, 23, 5, 11].getD i i
theorem jobsJ_fn (l : List Task) (B : Bk) (hl : B.all.length ≤ 1000000) : FnH Tryz.prog 50 [.ptr 0 0] (ldH l B) (fun r h' => r = .lst 8 (B.all.map eJob) ∧ h' = ldH l B) := by
  refine fnhb Tryz.func50 (entered_of (by kernel_rfl)) rfl rfl ?_
  repeat' (first | refine sA ?_ | ((first | apply kM | apply kN); (iterate 3 (· exact rfl)); (· first | exact ya)) | refine sG ?_ | (refine sK ?_ ?_ <;> intro hc <;> (try simp only [KL, sL, reduceCtorEq] at hc) <;> (try (have hT : True := hc; clear hT hc)) <;> (try (exfalso; omega))))
  refine oturn (turn_dummy eJob 11 71 8 (by omega) rfl) ?_
  refine zcall (fun i => ρj i) (clO_Job B.all hl) rfl rfl leh rfl rfl rfl rfl rfl rfl (fun r h' hR => ?_)
  obtain ⟨rfl, rfl⟩ := hR
  refine ⟨rfl, rfl, ?_⟩
  repeat' (first | refine sA ?_ | ((first | apply kM | apply kN); (iterate 3 (· exact rfl)); (· first | exact ya)) | refine sG ?_ | (refine sK ?_ ?_ <;> intro hc <;> (try simp only [KL, sL, reduceCtorEq] at hc) <;> (try (have hT : True := hc; clear hT hc)) <;> (try (exfalso; omega))))
  refine retT (fun _ => turn_freeze (t := 2) rfl rfl rfl) ?_
  exact reth (h' := ldH l B) rfl leh ⟨rfl, rfl⟩
theorem getJ_fn (l : List Task) (B : Bk) (n : Nat) (h : GoodB l n B) (i : Int) : FnH Tryz.prog 44 [.ptr 0 0, .int .i64 i] (ldH l B)
    (fun r h' => r = .tup [.agg (eJob (if hasN B.act i then jobAt B i else default)), .bool (hasN B.act i)] ∧ h' = ldH l B) := by
  refine FnH.drop' (fnhb Tryz.func44 (entered_of (by kernel_rfl)) rfl rfl ?_)
  have c2 := hasJ_fn l B h.act i
  cases hh : hasN B.act i
  case false =>
    rw [hh] at c2
    repeat' (first | refine sA ?_ | (show O _ _ _ _ _ _ _; first | refine ao_alloc (id := 8) rfl rfl rfl rfl rfl rfl rfl ?_) | ((first | apply kM | apply kN); (iterate 3 (· exact rfl)); (· first | exact ya)) | refine sG ?_ | (refine sK ?_ ?_ <;> intro hc <;> (try simp only [KL, sL, reduceCtorEq] at hc) <;> (try (have hT : True := hc; clear hT hc)) <;> (try (exfalso; omega))))
    refine zcall (fun i => ρi i) (c2) rfl rfl leh rfl rfl rfl rfl rfl rfl (fun r h' hR => ?_)
    obtain ⟨rfl, rfl⟩ := hR
    refine ⟨rfl, rfl, ?_⟩
    repeat' (first | refine sA ?_ | ((first | apply kM | apply kN); (iterate 3 (· exact rfl)); (· first | exact ya)) | refine sG ?_ | (refine sK ?_ ?_ <;> intro hc <;> (try simp only [KL, sL, reduceCtorEq] at hc) <;> (try (have hT : True := hc; clear hT hc)) <;> (try (exfalso; omega))))
    exact retq rfl ⟨ldH l B, leh, rfl, rfl⟩
  obtain ⟨p1, p2, p3, p4⟩ := h.pos hh
  have c3 := jobJ_fn l B i p1 p2
  rw [if_pos rfl, jobAt]
  rw [hh] at c2
  generalize posB B i = p at *
  repeat' (first | refine sA ?_ | (show O _ _ _ _ _ _ _; first | refine ao_alloc (id := 8) rfl rfl rfl rfl rfl rfl rfl ?_) | ((first | apply kM | apply kN); (iterate 3 (· exact rfl)); (· first | exact ya)) | refine sG ?_ | (refine sK ?_ ?_ <;> intro hc <;> (try simp only [KL, sL, reduceCtorEq] at hc) <;> (try (have hT : True := hc; clear hT hc)) <;> (try (exfalso; omega))))
  refine zcall (fun i => ρi i) (c2) rfl rfl leh rfl rfl rfl rfl rfl rfl (fun r h' hR => ?_)
  obtain ⟨rfl, rfl⟩ := hR
  refine ⟨rfl, rfl, ?_⟩
  repeat' (first | refine sA ?_ | ((first | apply kM | apply kN); (iterate 3 (· exact rfl)); (· first | exact ya)) | refine sG ?_ | (refine sK ?_ ?_ <;> intro hc <;> (try simp only [KL, sL, reduceCtorEq] at hc) <;> (try (have hT : True := hc; clear hT hc)) <;> (try (exfalso; omega))))
  refine zcall (fun i => ρi i) (c3) rfl rfl leh rfl rfl rfl rfl rfl rfl (fun r h' hR => ?_)
  obtain ⟨rfl, rfl⟩ := hR
  refine ⟨rfl, rfl, ?_⟩
  repeat' (first | refine sA ?_ | ((first | apply kM | apply kN); (iterate 3 (· exact rfl)); (· first | (show Y _ ⟨_, .load _ _, _, _, _, _⟩ _ _ _; first | exact q_pE' rfl) | exact ya)) | refine sG ?_ | (refine sK ?_ ?_ <;> intro hc <;> (try simp only [KL, sL, reduceCtorEq] at hc) <;> (try (have hT : True := hc; clear hT hc)) <;> (try (exfalso; omega))))
  exact retq rfl ⟨ldH l B, leh, rfl, rfl⟩
theorem late_yes {B : Bk} {t : Int} {ks : List Int} {k : Nat} (h : lateQ t (jobAt (lateBk B t ks k).2 (ks.getD k default)) = true) :
    lateBk B t ks (k + 1) = ((lateBk B t ks k).1 ++ [ks.getD k default], setJ (lateBk B t ks k).2 (ks.getD k default) (missJb (jobAt (lateBk B t ks k).2 (ks.getD k default)))) := by
  rw [lateBk]; exact if_pos h
theorem late_no {B : Bk} {t : Int} {ks : List Int} {k : Nat} (h : ¬ lateQ t (jobAt (lateBk B t ks k).2 (ks.getD k default)) = true) : lateBk B t ks (k + 1) = ((lateBk B t ks k).1, (lateBk B t ks k).2) := by
  rw [lateBk]; exact if_neg h
theorem setL_has {m : Nat} {k : Nat} (h : k < (setL m).length) : hasN m ((setL m).getD k default) = true := by
  rw [hasN_eq, decide_eq_true_eq]; exact getD_mem h
set_option maxHeartbeats 4000000 in
theorem lateJ_fn (l : List Task) (B : Bk) (n : Nat) (h : GoodB l n B) (hn : n ≤ 100000) (t : Int) : FnH Tryz.prog 43 [.ptr 0 0, .int .i64 t] (ldH l B ++ [(7, .sem (thatC tabK))])
    (fun r h' => r = .lst 1 ((lateBk B t (setL B.act) (setL B.act).length).1.map eI) ∧ h' = ldH l (lateBk B t (setL B.act) (setL B.act).length).2 ++ [(7, .sem (thatC tabK))]) := by
  refine FnH.drop' (fnhb Tryz.func43 (entered_of (by kernel_rfl)) rfl rfl ?_)
  have c1 := time_fn t
  have c4 := blist_fn B.act h.act
  have hl64 := setL_len B.act
  repeat' (first | refine sA ?_ | ((first | apply kM | apply kN); (iterate 3 (· exact rfl)); (· first | exact ya)) | refine sG ?_ | (refine sK ?_ ?_ <;> intro hc <;> (try simp only [KL, sL, reduceCtorEq] at hc) <;> (try (have hT : True := hc; clear hT hc)) <;> (try (exfalso; omega))))
  refine zcall (fun i => ρi i) (activeJ_fn l B) rfl rfl leh rfl rfl rfl rfl rfl rfl (fun r h' hR => ?_)
  obtain ⟨rfl, rfl⟩ := hR
  refine ⟨rfl, rfl, ?_⟩
  repeat' (first | refine sA ?_ | ((first | apply kM | apply kN); (iterate 3 (· exact rfl)); (· first | exact ya | exact Y.mk (ok_callT (id := 7) c4 rfl rfl))) | refine sG ?_ | (refine sK ?_ ?_ <;> intro hc <;> (try simp only [KL, sL, reduceCtorEq] at hc) <;> (try (have hT : True := hc; clear hT hc)) <;> (try (exfalso; omega))))
  refine wturn (turn_own eI (t := 5) rfl 10 3 1 (by omega) rfl) ?_
  refine wloop (fun k : Nat => ([(0, .ptr 0 0), (1, .int .i64 t), (5, .own 10), (11, .lst 1 ((setL B.act).map eI)), (12, .int .i64 (setL B.act).length), (13, .int .i64 k)], ldH l (lateBk B t (setL B.act) k).2 ++ [(10, .row 3 1 ((lateBk B t (setL B.act) k).1.map eI)), (7, .sem (thatC tabK))])) (fun k => k ≤ (setL B.act).length) (fun k => (setL B.act).length - k) 0 (Nat.zero_le _) les leh (fun k hk => ?_)
  obtain ⟨g1, g2, g3⟩ := h.late t (setL B.act) k
  rcases Nat.lt_or_eq_of_le hk with hkl | hkl
  · have hh : hasN (lateBk B t (setL B.act) k).2.act ((setL B.act).getD k default) = true := by rw [g2]; exact setL_has hkl
    obtain ⟨i, hi⟩ : ∃ i, (setL B.act).getD k default = i := ⟨_, rfl⟩
    have ey := @late_yes B t (setL B.act) k
    have en := @late_no B t (setL B.act) k
    rw [hi] at hh
    rw [hi] at ey
    rw [hi] at en
    generalize (lateBk B t (setL B.act) k).2 = B2 at *
    generalize (lateBk B t (setL B.act) k).1 = L2 at *
    obtain ⟨p1, p2, p3, p4⟩ := g1.pos hh
    have c3 := jobJ_fn l B2 i p1 p2
    obtain ⟨j, hj⟩ : ∃ j, B2.all.getD (posB B2 i) default = j := ⟨_, rfl⟩
    have ej : jobAt B2 i = j := hj
    rw [ej] at ey en
    rw [setJ] at ey
    generalize posB B2 i = p at *
    repeat' (first | refine sA ?_ | ((first | apply kM | apply kN); (iterate 3 (· exact rfl)); (· first | (show Y _ ⟨_, .indexAddr _ _ _, _, _, _, _⟩ _ _ _; first | exact Y.mk (ok_indexE (hi) rfl rfl rfl rfl rfl (by omega))) | exact ya)) | refine sG ?_ | (refine sK ?_ ?_ <;> intro hc <;> (try simp only [KL, sL, reduceCtorEq] at hc) <;> (try (have hT : True := hc; clear hT hc)) <;> (try (exfalso; omega))))
    refine zcall (fun i => ρi i) (c3) rfl rfl leh rfl rfl rfl rfl rfl rfl (fun r h' hR => ?_)
    obtain ⟨rfl, rfl⟩ := hR
    refine ⟨rfl, rfl, ?_⟩
    repeat' (first | refine sA ?_ | ((first | apply kM | apply kN); (iterate 3 (· exact rfl)); (· first | (show Y _ ⟨_, .load _ _, _, _, _, _⟩ _ _ _; first | exact q_pE' hj) | exact ya | exact q_c (c1) rfl)) | refine sG ?_ | (refine sK ?_ ?_ <;> intro hc <;> (try simp only [KL, sL, reduceCtorEq] at hc) <;> (try (have hT : True := hc; clear hT hc)) <;> (try (exfalso; omega))))
    · have hq : lateQ t j = true := by rw [lateQ, show j.missed = false by assumption, decide_eq_true (show j.deadline ≤ inT t by assumption)]; rfl
      have ey := ey hq
      subst hj
      (refine ao_se (x' := missJb (B2.all.getD p default)) rfl rfl rfl rfl rfl rfl rfl rfl rfl ?_ rfl rfl rfl ?_; (· (first | omega | ((try simp only [List.length_set, List.length_cons, List.length_nil, List.length_append, List.length_map]) <;> omega))))
      repeat' (first | refine sA ?_ | ((first | apply kM | apply kN); (iterate 3 (· exact rfl)); (· first | exact ya)) | refine sG ?_ | (refine sK ?_ ?_ <;> intro hc <;> (try simp only [KL, sL, reduceCtorEq] at hc) <;> (try (have hT : True := hc; clear hT hc)) <;> (try (exfalso; omega))))
      (refine ao_ap (id := 10) (ys := [i]) (by_ := 8) rfl rfl rfl rfl rfl rfl rfl rfl rfl rfl (fun _ _ => rfl) ?_ ?_ rfl rfl rfl rfl rfl ?_; (· (first | omega | ((try simp only [List.length_cons, List.length_nil, List.length_append, List.length_map]) <;> omega))); (· (first | omega | ((try simp only [List.length_cons, List.length_nil, List.length_append, List.length_map]) <;> omega))))
      repeat' (first | refine sA ?_ | ((first | apply kM | apply kN); (iterate 3 (· exact rfl)); (· first | exact ya)) | refine sG ?_ | (refine sK ?_ ?_ <;> intro hc <;> (try simp only [KL, sL, reduceCtorEq] at hc) <;> (try (have hT : True := hc; clear hT hc)) <;> (try (exfalso; omega))))
      exact ⟨k + 1, by omega, by omega, by simp only [ey]; exact les, by simp only [ey]; exact leh⟩
    · have hq : ¬ lateQ t j = true := by rw [lateQ]; intro e; simp at e; omega
      have en := en hq
      exact ⟨k + 1, by omega, by omega, by simp only [en]; exact les, by simp only [en]; exact leh⟩
    · have hq : ¬ lateQ t j = true := by rw [lateQ]; intro e; simp_all
      have en := en hq
      exact ⟨k + 1, by omega, by omega, by simp only [en]; exact les, by simp only [en]; exact leh⟩
  · subst hkl
    repeat' (first | refine sA ?_ | ((first | apply kM | apply kN); (iterate 3 (· exact rfl)); (· first | exact ya)) | refine sG ?_ | (refine sK ?_ ?_ <;> intro hc <;> (try simp only [KL, sL, reduceCtorEq] at hc) <;> (try (have hT : True := hc; clear hT hc)) <;> (try (exfalso; omega))))
    refine retT (fun _ => turn_freeze (t := 4) rfl rfl rfl) ?_
    exact retq rfl ⟨ldH l (lateBk B t (setL B.act) (setL B.act).length).2 ++ [(7, .sem (thatC tabK))], leh, rfl, rfl⟩
end Go.Proofs.YtfjoaeghnfkdlaaGreatDoor
