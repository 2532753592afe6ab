/- A book of jobs, in plain terms: what its calls do, and what stays true of it. No condition. -/
import Derived.Test.YtfjoaeghnfkdlaaA10
import Derived.Test.YtfjoaeghnfkdlaaA14
import Derived.Test.YtfjoaeghnfkdlaaA9
import Derived.Test.YtfjoaeghnfkdlaaA8
import Derived.Test.YtfjoaeghnfkdlaaA11
set_option linter.unusedSimpArgs false
set_option linter.unusedVariables false
set_option maxHeartbeats 1000000
namespace Go.Proofs.Ytfjoaeghnfkdlaa
set_option maxRecDepth 100000
set_option maxRecDepth 100000
open Go.RowKit
structure Bk where
  all : List Job
  now : List (Int × Int)
  cnt : List (Int × Int)
  act : Nat
  overs : List Due
def newB : Bk := ⟨[], [], [], 0, []⟩
def posB (B : Bk) (i : Int) : Nat := ((getM B.now i).getD 0).toNat
def jobAt (B : Bk) (i : Int) : Job := B.all.getD (posB B i) default
def noB (B : Bk) (i : Int) : Int := (getM B.cnt i).getD 0
def newJb (l : List Task) (B : Bk) (i t : Int) : Job := ⟨i, noB B i, inT t, addT (inT t) (l.getD i.toNat default).deadline, -1, -1, 0, false⟩
def stepJb (t : Int) (j : Job) : Job := { j with start := if j.steps = 0 then inT t else j.start, steps := j.steps + 1 }
def endJb (t : Int) (j : Job) : Job := { j with fin := inT t + 1 }
def missJb (j : Job) : Job := { j with missed := true }
def relBk (l : List Task) (B : Bk) (i t : Int) : Bk :=
  if i < 0 ∨ (l.length : Int) ≤ i then B
  else if hasN B.act i then { B with overs := B.overs ++ [⟨inT t, i⟩] }
  else ⟨B.all ++ [newJb l B i t], setM B.now i B.all.length, setM B.cnt i (noB B i + 1), putN B.act i, B.overs⟩
def setJ (B : Bk) (i : Int) (j : Job) : Bk := { B with all := B.all.set (posB B i) j }
def stepBk (B : Bk) (i t : Int) : Bk := if hasN B.act i then setJ B i (stepJb t (jobAt B i)) else B
def endBk (B : Bk) (i t : Int) : Bk := if hasN B.act i then { setJ B i (endJb t (jobAt B i)) with act := dropN B.act i, now := delM B.now i } else B
def lateQ (t : Int) (j : Job) : Bool := !j.missed && decide (j.deadline ≤ inT t)
def lateBk (B : Bk) (t : Int) (ks : List Int) : Nat → List Int × Bk
  | 0 => ([], B)
  | k + 1 =>
    let s := lateBk B t ks k
    let i := ks.getD k default
    if lateQ t (jobAt s.2 i) then (s.1 ++ [i], setJ s.2 i (missJb (jobAt s.2 i))) else s
def cntT (js : List Job) (i : Int) : Int := ((js.filter fun j => decide (j.task = i)).length : Int)
structure GoodB (l : List Task) (n : Nat) (B : Bk) : Prop where
  hl : l.length ≤ 64
  act : B.act < 2 ^ 64
  alen : B.all.length ≤ n
  olen : B.overs.length ≤ n
  now : ∀ i, hasN B.act i = true → ∃ k : Nat, getM B.now i = some (k : Int) ∧ k < B.all.length ∧ (B.all.getD k default).task = i ∧ (B.all.getD k default).fin < 0
  opn : ∀ k : Nat, k < B.all.length → (B.all.getD k default).fin < 0 → hasN B.act (B.all.getD k default).task = true ∧ getM B.now (B.all.getD k default).task = some (k : Int)
  one : ∀ k k' : Nat, k' < k → k < B.all.length → (B.all.getD k' default).task = (B.all.getD k default).task → 0 ≤ (B.all.getD k' default).fin
  task : ∀ k : Nat, k < B.all.length → 0 ≤ (B.all.getD k default).task ∧ (B.all.getD k default).task < l.length
  no : ∀ k : Nat, k < B.all.length → (B.all.getD k default).no = cntT (B.all.take k) (B.all.getD k default).task
  cnt : ∀ i, noB B i = cntT B.all i
  st : ∀ k : Nat, k < B.all.length → 0 ≤ (B.all.getD k default).steps ∧ (B.all.getD k default).steps ≤ n ∧ (0 < (B.all.getD k default).steps ↔ 0 ≤ (B.all.getD k default).start)
theorem cntT_app (a b : List Job) (i : Int) : cntT (a ++ b) i = cntT a i + cntT b i := by
  unfold cntT; rw [List.filter_append, List.length_append]; omega
theorem cntT_le (a : List Job) (i : Int) : 0 ≤ cntT a i ∧ cntT a i ≤ a.length := by
  unfold cntT
  have := List.length_filter_le (fun j : Job => decide (j.task = i)) a
  omega
theorem cntT_one (j : Job) (i : Int) : cntT [j] i = if j.task = i then 1 else 0 := by
  unfold cntT
  by_cases h : j.task = i <;> simp [List.filter_cons, h]
theorem cntT_congr {a b : List Job} (hl : a.length = b.length) (h : ∀ k : Nat, k < a.length → (a.getD k default).task = (b.getD k default).task) (i : Int) : cntT a i = cntT b i := by
  unfold cntT
  have e : a.map (·.task) = b.map (·.task) := by
    refine List.ext_getElem (by simp [hl]) fun k h1 h2 => ?_
    rw [List.length_map] at h1 h2
    have := h k h1
    simpa [h1, h2] using this
  have f : ∀ c : List Job, (c.filter fun j => decide (j.task = i)).length = ((c.map (·.task)).filter fun x => decide (x = i)).length := fun c => by
    rw [List.filter_map, List.length_map]; rfl
  rw [f, f, e]
theorem getD_set {js : List Job} {p : Nat} {j : Job} (k : Nat) (hk : k < js.length) : (js.set p j).getD k default = if p = k then j else js.getD k default := by
  rw [List.getD_eq_getElem?_getD, List.getElem?_set, List.getD_eq_getElem?_getD]
  split
  · rename_i h; subst h; simp [hk]
  · rfl
theorem getD_takeJ {js : List Job} {m k : Nat} (h : k < m) : (js.take m).getD k default = js.getD k default := by
  rw [List.getD, List.getElem?_take, if_pos h]; rfl
theorem GoodB.mono {l : List Task} {n : Nat} {B : Bk} (h : GoodB l n B) : GoodB l (n + 1) B :=
  { h with alen := Nat.le_succ_of_le h.alen, olen := Nat.le_succ_of_le h.olen, st := fun k hk => by have := h.st k hk; omega }
theorem good_new {l : List Task} (hl : l.length ≤ 64) : GoodB l 0 newB :=
  ⟨hl, by decide, Nat.le_refl _, Nat.le_refl _, fun i h => by simp [newB, hasN] at h, fun k h => by simp [newB] at h, fun k k' h1 h => by simp [newB] at h, fun k h => by simp [newB] at h, fun k h => by simp [newB] at h, fun i => rfl, fun k h => by simp [newB] at h⟩
theorem GoodB.set {l : List Task} {n : Nat} {B : Bk} (h : GoodB l n B) (p : Nat) (j : Job) (h1 : p < B.all.length → j.task = (B.all.getD p default).task ∧ j.no = (B.all.getD p default).no ∧ j.fin = (B.all.getD p default).fin)
    (h2 : p < B.all.length → 0 ≤ j.steps ∧ j.steps ≤ n + 1 ∧ (0 < j.steps ↔ 0 ≤ j.start)) : GoodB l (n + 1) { B with all := B.all.set p j } := by
  have e : ∀ k : Nat, k < B.all.length → ((B.all.set p j).getD k default).task = (B.all.getD k default).task ∧ ((B.all.set p j).getD k default).no = (B.all.getD k default).no ∧ ((B.all.set p j).getD k default).fin = (B.all.getD k default).fin := fun k hk => by
    rw [getD_set k hk]
    split
    · rename_i e; subst e; exact h1 hk
    · exact ⟨rfl, rfl, rfl⟩
  have hlen : (B.all.set p j).length = B.all.length := List.length_set
  refine ⟨h.hl, h.act, ?_, Nat.le_succ_of_le h.olen, fun i hi => ?_, fun k hk hf => ?_, fun k k' h3 hk ht => ?_, fun k hk => ?_, fun k hk => ?_, fun i => ?_, fun k hk => ?_⟩
  · simp only [hlen]; exact Nat.le_succ_of_le h.alen
  · obtain ⟨k, g1, g2, g3, g4⟩ := h.now i hi
    exact ⟨k, g1, by simp only [hlen]; exact g2, by rw [(e k g2).1]; exact g3, by rw [(e k g2).2.2]; exact g4⟩
  · simp only [hlen] at hk hf ⊢
    rw [(e k hk).2.2] at hf
    rw [(e k hk).1]
    exact h.opn k hk hf
  · simp only [hlen] at hk ht ⊢
    rw [(e k hk).1, (e k' (by omega)).1] at ht
    rw [(e k' (by omega)).2.2]
    exact h.one k k' h3 hk ht
  · simp only [hlen] at hk ⊢
    rw [(e k hk).1]; exact h.task k hk
  · simp only [hlen] at hk ⊢
    rw [(e k hk).1, (e k hk).2.1, h.no k hk]
    refine cntT_congr (by simp only [List.length_take, hlen]) (fun q hq => ?_) _
    rw [List.length_take] at hq
    have := (e q (by omega)).1
    rw [getD_takeJ (by omega), getD_takeJ (by omega), this]
  · exact (h.cnt i).trans (cntT_congr hlen.symm (fun q hq => ((e q hq).1).symm) i)
  · simp only [hlen] at hk ⊢
    rw [getD_set k hk]
    split
    · rename_i e; subst e; exact h2 hk
    · have := h.st k hk; omega
theorem GoodB.pos {l : List Task} {n : Nat} {B : Bk} (h : GoodB l n B) {i : Int} (hi : hasN B.act i = true) : getM B.now i = some (posB B i : Int) ∧ posB B i < B.all.length ∧ (jobAt B i).task = i ∧ (jobAt B i).fin < 0 := by
  obtain ⟨k, g1, g2, g3, g4⟩ := h.now i hi
  have e : posB B i = k := by rw [posB, g1]; rfl
  rw [jobAt, e]
  exact ⟨g1, g2, g3, g4⟩
theorem GoodB.step {l : List Task} {n : Nat} {B : Bk} (h : GoodB l n B) (i t : Int) : GoodB l (n + 1) (stepBk B i t) := by
  rw [stepBk]
  split
  · rename_i hi
    refine h.set _ _ (fun _ => ⟨rfl, rfl, rfl⟩) (fun hp => ?_)
    have : 0 ≤ (jobAt B i).steps ∧ (jobAt B i).steps ≤ n ∧ (0 < (jobAt B i).steps ↔ 0 ≤ (jobAt B i).start) := h.st _ hp
    have h0 := inT_le t
    simp only [stepJb]
    by_cases hz : (jobAt B i).steps = 0
    · rw [if_pos hz]; omega
    · rw [if_neg hz]; omega
  · exact h.mono
theorem hasN_range {m : Nat} {i : Int} (h : hasN m i = true) : 0 ≤ i ∧ i ≤ 63 := by
  rw [hasN_eq, decide_eq_true_eq, mem_setL] at h; omega
theorem hasN_drop {m : Nat} {i k : Int} (h : hasN (dropN m k) i = true) : hasN m i = true ∧ i ≠ k := by
  have h0 := hasN_range h
  rw [hasN_eq, decide_eq_true_eq, mem_setL, dropN_bit] at h
  rw [hasN_eq, decide_eq_true_eq, mem_setL]
  obtain ⟨_, _, h⟩ := h
  simp only [Bool.and_eq_true, Bool.not_eq_true', decide_eq_false_iff_not] at h
  exact ⟨⟨h0.1, h0.2, h.1⟩, fun e => h.2.2 ⟨by omega, by omega, by omega⟩⟩
theorem drop_hasN {m : Nat} {i k : Int} (h : hasN m i = true) (hk : i ≠ k) : hasN (dropN m k) i = true := by
  have h0 := hasN_range h
  rw [hasN_eq, decide_eq_true_eq, mem_setL] at h
  rw [hasN_eq, decide_eq_true_eq, mem_setL, dropN_bit]
  obtain ⟨_, _, h⟩ := h
  refine ⟨h0.1, h0.2, ?_⟩
  simp only [h, Bool.true_and, Bool.and_eq_true, decide_eq_true_eq, Bool.not_eq_true', decide_eq_false_iff_not]
  omega
theorem hasN_put {m : Nat} {i k : Int} (hk : 0 ≤ k ∧ k ≤ 63) : hasN (putN m k) i = true ↔ (i = k ∨ hasN m i = true) := by
  rw [hasN_eq, hasN_eq, decide_eq_true_eq, decide_eq_true_eq, mem_setL, mem_setL, putN_bit]
  simp only [Bool.or_eq_true, decide_eq_true_eq]
  constructor
  · rintro ⟨h1, h2, h3 | h3⟩
    · exact .inr ⟨h1, h2, h3⟩
    · exact .inl (by omega)
  · rintro (rfl | ⟨h1, h2, h3⟩)
    · exact ⟨hk.1, hk.2, .inr (by omega)⟩
    · exact ⟨h1, h2, .inl h3⟩
theorem getM_del_ne {α : Type} {m : List (Int × α)} {k i : Int} (h : i ≠ k) : getM (delM m k) i = getM m i := by
  induction m with
  | nil => rfl
  | cons p r ih =>
    obtain ⟨k', v⟩ := p
    rw [delM, getM]
    by_cases h1 : k' = k
    · rw [if_pos h1, if_neg (by omega)]
    · rw [if_neg h1, getM, ih]
theorem getM_set {α : Type} {m : List (Int × α)} {k i : Int} {x : α} : getM (setM m k x) i = if i = k then some x else getM m i := by
  induction m with
  | nil =>
    rw [setM, getM, getM]
    by_cases h : i = k
    · rw [if_pos h, if_pos h.symm]
    · rw [if_neg h, if_neg (Ne.symm h), getM]
  | cons p r ih =>
    obtain ⟨k', v⟩ := p
    rw [setM]
    by_cases h1 : k' = k
    · subst h1
      rw [if_pos rfl, getM, getM]
      by_cases h : i = k'
      · rw [if_pos h, if_pos h.symm]
      · rw [if_neg h, if_neg (Ne.symm h), if_neg (Ne.symm h)]
    · rw [if_neg h1, getM, getM, ih]
      by_cases h : k' = i
      · rw [if_pos h, if_pos h, if_neg (by omega)]
      · rw [if_neg h, if_neg h]
theorem GoodB.fin {l : List Task} {n : Nat} {B : Bk} (h : GoodB l n B) (i t : Int) : GoodB l (n + 1) (endBk B i t) := by
  rw [endBk]
  split
  case isFalse => exact h.mono
  rename_i hi
  obtain ⟨p1, p2, p3, p4⟩ := h.pos hi
  have h0 := inT_le t
  rw [setJ]
  have e : ∀ k : Nat, k < B.all.length → ((B.all.set (posB B i) (endJb t (jobAt B i))).getD k default).task = (B.all.getD k default).task ∧ ((B.all.set (posB B i) (endJb t (jobAt B i))).getD k default).no = (B.all.getD k default).no ∧
      ((B.all.set (posB B i) (endJb t (jobAt B i))).getD k default).fin = (if posB B i = k then inT t + 1 else (B.all.getD k default).fin) ∧ ((B.all.set (posB B i) (endJb t (jobAt B i))).getD k default).steps = (B.all.getD k default).steps ∧ ((B.all.set (posB B i) (endJb t (jobAt B i))).getD k default).start = (B.all.getD k default).start := fun k hk => by
    rw [getD_set k hk]
    split
    · rename_i e; subst e; exact ⟨rfl, rfl, rfl, rfl, rfl⟩
    · exact ⟨rfl, rfl, rfl, rfl, rfl⟩
  have hlen : (B.all.set (posB B i) (endJb t (jobAt B i))).length = B.all.length := List.length_set
  refine ⟨h.hl, dropN_lt h.act i, ?_, Nat.le_succ_of_le h.olen, fun i' hi' => ?_, fun k hk hf => ?_, fun k k' h3 hk ht => ?_, fun k hk => ?_, fun k hk => ?_, fun i => ?_, fun k hk => ?_⟩
  · simp only [hlen]; exact Nat.le_succ_of_le h.alen
  · obtain ⟨h1, h2⟩ := hasN_drop hi'
    obtain ⟨k, g1, g2, g3, g4⟩ := h.now i' h1
    have hne : posB B i ≠ k := fun e => by rw [← e] at g3; exact h2 (g3.symm.trans p3)
    refine ⟨k, by simp only [getM_del_ne h2]; exact g1, by simp only [hlen]; exact g2, by rw [(e k g2).1]; exact g3, by rw [(e k g2).2.2.1, if_neg hne]; exact g4⟩
  · simp only [hlen] at hk hf ⊢
    rw [(e k hk).2.2.1] at hf
    split at hf
    · omega
    rename_i hne
    rw [(e k hk).1]
    obtain ⟨g1, g2⟩ := h.opn k hk hf
    have h2 : (B.all.getD k default).task ≠ i := fun e2 => by
      rw [e2, p1] at g2
      exact hne (Int.ofNat.inj (Option.some.inj g2))
    exact ⟨drop_hasN g1 h2, by rw [getM_del_ne h2]; exact g2⟩
  · simp only [hlen] at hk ht ⊢
    rw [(e k hk).1, (e k' (by omega)).1] at ht
    rw [(e k' (by omega)).2.2.1]
    split
    · omega
    · exact h.one k k' h3 hk ht
  · simp only [hlen] at hk ⊢
    rw [(e k hk).1]; exact h.task k hk
  · simp only [hlen] at hk ⊢
    rw [(e k hk).1, (e k hk).2.1, h.no k hk]
    refine cntT_congr (by simp only [List.length_take, hlen]) (fun q hq => ?_) _
    rw [List.length_take] at hq
    have := (e q (by omega)).1
    rw [getD_takeJ (by omega), getD_takeJ (by omega), this]
  · exact (h.cnt i).trans (cntT_congr hlen.symm (fun q hq => ((e q hq).1).symm) i)
  · simp only [hlen] at hk ⊢
    rw [(e k hk).2.2.2.1, (e k hk).2.2.2.2]
    have := h.st k hk; omega
theorem getD_app {js : List Job} {j : Job} (k : Nat) : (js ++ [j]).getD k default = if k < js.length then js.getD k default else if k = js.length then j else default := by
  rw [List.getD_eq_getElem?_getD]
  by_cases h : k < js.length
  · rw [if_pos h, List.getElem?_append_left h, List.getD_eq_getElem?_getD]
  · rw [if_neg h, List.getElem?_append_right (by omega)]
    by_cases h2 : k = js.length
    · rw [if_pos h2, h2, Nat.sub_self]; rfl
    · rw [if_neg h2]
      obtain ⟨m, hm⟩ : ∃ m, k - js.length = m + 1 := ⟨k - js.length - 1, by omega⟩
      rw [hm]; rfl
theorem GoodB.rel {l : List Task} {n : Nat} {B : Bk} (h : GoodB l n B) (i t : Int) : GoodB l (n + 1) (relBk l B i t) := by
  have hl := h.hl
  rw [relBk]
  split
  · exact h.mono
  rename_i hr
  split
  · exact { h.mono with olen := by have := h.olen; simp only [List.length_append, List.length_cons, List.length_nil]; omega }
  rename_i hi
  have hlen : (B.all ++ [newJb l B i t]).length = B.all.length + 1 := by simp
  have hno : ∀ k : Nat, k < B.all.length → (B.all.getD k default).task = i → 0 ≤ (B.all.getD k default).fin := fun k hk ht => by
    rcases Int.lt_or_le (B.all.getD k default).fin 0 with hf | hf
    · have := (h.opn k hk hf).1
      rw [ht] at this
      exact absurd this hi
    · exact hf
  refine ⟨hl, putN_lt h.act i, ?_, Nat.le_succ_of_le h.olen, fun i' hi' => ?_, fun k hk hf => ?_, fun k k' h3 hk ht => ?_, fun k hk => ?_, fun k hk => ?_, fun i' => ?_, fun k hk => ?_⟩
  · have := h.alen; simp only [hlen]; omega
  · simp only [hlen]
    rcases (hasN_put (by omega)).1 hi' with e | h1
    · subst e
      exact ⟨B.all.length, by simp only [getM_set, if_pos], by omega, by rw [getD_app, if_neg (by omega), if_pos rfl]; rfl, by rw [getD_app, if_neg (by omega), if_pos rfl]; simp [newJb]⟩
    · obtain ⟨k, g1, g2, g3, g4⟩ := h.now i' h1
      have hne : i' ≠ i := fun e => hi (by rw [← e]; exact h1)
      exact ⟨k, by simp only [getM_set, if_neg hne]; exact g1, by omega, by rw [getD_app, if_pos g2]; exact g3, by rw [getD_app, if_pos g2]; exact g4⟩
  · simp only [hlen] at hk hf ⊢
    rw [getD_app] at hf ⊢
    by_cases hk2 : k < B.all.length
    · rw [if_pos hk2] at hf ⊢
      obtain ⟨g1, g2⟩ := h.opn k hk2 hf
      have hne : (B.all.getD k default).task ≠ i := fun e => hi (by rw [← e]; exact g1)
      exact ⟨(hasN_put (by omega)).2 (.inr g1), by rw [getM_set, if_neg hne]; exact g2⟩
    · obtain rfl : k = B.all.length := by omega
      rw [if_neg hk2, if_pos rfl]
      exact ⟨(hasN_put (by omega)).2 (.inl rfl), by rw [getM_set]; exact if_pos rfl⟩
  · simp only [hlen] at hk ht ⊢
    rw [getD_app, if_pos (show k' < B.all.length by omega)] at ht ⊢
    rw [getD_app] at ht
    by_cases hk2 : k < B.all.length
    · rw [if_pos hk2] at ht
      exact h.one k k' h3 hk2 ht
    · rw [if_neg hk2, if_pos (by omega)] at ht
      exact hno k' (by omega) ht
  · simp only [hlen] at hk ⊢
    rw [getD_app]
    by_cases hk2 : k < B.all.length
    · rw [if_pos hk2]; exact h.task k hk2
    · rw [if_neg hk2, if_pos (by omega)]; simp only [newJb]; omega
  · simp only [hlen] at hk ⊢
    rw [getD_app]
    by_cases hk2 : k < B.all.length
    · rw [if_pos hk2, h.no k hk2, List.take_append_of_le_length (by omega)]
    · obtain rfl : k = B.all.length := by omega
      rw [if_neg hk2, if_pos rfl, List.take_left']
      · exact h.cnt i
      · rfl
  · rw [cntT_app, cntT_one, ← h.cnt i']
    simp only [noB, getM_set]
    by_cases he : i' = i
    · subst he
      rw [if_pos rfl, if_pos (show (newJb l B i' t).task = i' from rfl)]; rfl
    · rw [if_neg he, if_neg (fun e => he e.symm)]; omega
  · simp only [hlen] at hk ⊢
    rw [getD_app]
    by_cases hk2 : k < B.all.length
    · rw [if_pos hk2]; have := h.st k hk2; omega
    · rw [if_neg hk2, if_pos (by omega)]; simp only [newJb]; omega
theorem GoodB.set0 {l : List Task} {n : Nat} {B : Bk} (h : GoodB l n B) (i : Int) : GoodB l n (setJ B i (missJb (jobAt B i))) := by
  have h2 := h.set (posB B i) (missJb (jobAt B i)) (fun _ => ⟨rfl, rfl, rfl⟩) (fun hp => by have := h.st _ hp; simp only [missJb, jobAt]; omega)
  refine { h2 with alen := ?_, olen := h.olen, st := fun k hk => ?_ }
  · rw [setJ]; simp only [List.length_set]; exact h.alen
  · rw [setJ] at hk ⊢
    simp only [List.length_set] at hk
    rw [getD_set k hk]
    split
    · rename_i e; subst e
      exact h.st _ hk
    · exact h.st k hk
theorem GoodB.late {l : List Task} {n : Nat} {B : Bk} (h : GoodB l n B) (t : Int) (ks : List Int) : ∀ k, GoodB l n (lateBk B t ks k).2 ∧ (lateBk B t ks k).2.act = B.act ∧ (lateBk B t ks k).1.length ≤ k
  | 0 => ⟨h, rfl, Nat.le_refl _⟩
  | k + 1 => by
    obtain ⟨h1, h2, h3⟩ := GoodB.late h t ks k
    rw [lateBk]
    split
    · exact ⟨h1.set0 _, h2, by simp only [List.length_append, List.length_cons, List.length_nil]; omega⟩
    · exact ⟨h1, h2, by omega⟩
end Go.Proofs.Ytfjoaeghnfkdlaa
namespace Go.Proofs.Ytfjoaeghnfkdlaa
set_option maxRecDepth 100000
set_option maxRecDepth 100000
open Go.RowKit
def relOk (l : List Task) (B : Bk) (i : Int) : Bool := !decide (i < 0 ∨ (l.length : Int) ≤ i) && !hasN B.act i
end Go.Proofs.Ytfjoaeghnfkdlaa
namespace Go.Proofs.Ytfjoaeghnfkdlaa
set_option maxRecDepth 100000
set_option maxRecDepth 100000
open Go.RowKit
end Go.Proofs.Ytfjoaeghnfkdlaa
namespace Go.Proofs.Ytfjoaeghnfkdlaa
set_option maxRecDepth 100000
set_option maxRecDepth 100000
open Go.RowKit
end Go.Proofs.Ytfjoaeghnfkdlaa
namespace Go.Proofs.Ytfjoaeghnfkdlaa
set_option maxRecDepth 100000
set_option maxRecDepth 100000
open Go.RowKit
def fewQ (l : List Task) (m : Int) : Bool := decide ((l.length : Int) ≤ m) && l.all fun t => decide (t.code.length ≤ 200)
theorem few_fn (l : List Task) (m : Int) (hm : m ≤ 1000000) : Fn Try.prog 16 [.lst 7 (l.map eTask), .int .i64 m] (.bool (fewQ l m)) := by
  refine fnb Try.func16 (entered_of (by kernel_rfl)) rfl rfl rfl ?_
  by_cases hlm : (l.length : Int) ≤ m
  · repeat' (first | refine sA ?_ | ((first | apply kM | apply kN); (iterate 3 (· exact rfl)); (· first | exact ya)) | refine sG ?_ | (refine sK ?_ ?_ <;> intro hc <;> (try simp only [KL, sL, reduceCtorEq] at hc) <;> (try (have hT : True := hc; clear hT hc)) <;> (try (exfalso; omega))))
    all_goals first | (exfalso; omega) | skip
    refine wloop (fun k : Nat => ([(11, .lst 7 (l.map eTask)), (12, .int .i64 l.length), (13, .int .i64 k)], [])) (fun k => k ≤ l.length ∧ ∀ j, j < k → (l.getD j default).code.length ≤ 200) (fun k => l.length - k) 0 ⟨Nat.zero_le _, fun j h => absurd h (Nat.not_lt_zero _)⟩ les leh (fun k hk => ?_)
    obtain ⟨hk, hp⟩ := hk
    repeat' (first | refine sA ?_ | (show O _ _ _ _ _ _ _; first | refine ao_alloc (id := 16) rfl rfl rfl rfl rfl rfl rfl ?_) | ((first | apply kM | apply kN); (iterate 3 (· exact rfl)); (· first | exact ya)) | refine sG ?_ | (refine sK ?_ ?_ <;> intro hc <;> (try simp only [KL, sL, reduceCtorEq] at hc) <;> (try (have hT : True := hc; clear hT hc)) <;> (try (exfalso; omega))))
    · refine retq rfl (congrArg AV.bool ?_)
      symm
      rw [fewQ, Bool.and_eq_false_iff]
      refine .inr (List.all_eq_false.2 ⟨l.getD k default, getD_mem (by omega), ?_⟩)
      simp only [decide_eq_true_eq]; omega
    · exact ⟨k + 1, ⟨by omega, fun j hj => by
        by_cases e : j = k
        · subst e; omega
        · exact hp j (by omega)⟩, by omega, les, leh⟩
    · obtain rfl : k = l.length := by omega
      refine retq rfl (congrArg AV.bool ?_)
      symm
      rw [fewQ, Bool.and_eq_true]
      refine ⟨decide_eq_true hlm, List.all_eq_true.2 fun t ht => ?_⟩
      obtain ⟨j, hj, rfl⟩ := List.getElem_of_mem ht
      have := hp j hj
      simpa [hj] using this
  · repeat' (first | refine sA ?_ | ((first | apply kM | apply kN); (iterate 3 (· exact rfl)); (· first | exact ya)) | refine sG ?_ | (refine sK ?_ ?_ <;> intro hc <;> (try simp only [KL, sL, reduceCtorEq] at hc) <;> (try (have hT : True := hc; clear hT hc)) <;> (try (exfalso; omega))))
    all_goals first | (exfalso; omega) | skip
    exact retq rfl (congrArg AV.bool (by rw [fewQ, decide_eq_false hlm]; rfl))
end Go.Proofs.Ytfjoaeghnfkdlaa
namespace Go.Proofs.Ytfjoaeghnfkdlaa
set_option maxRecDepth 100000
set_option maxRecDepth 100000
open Go.RowKit
def LeV0 (x y : AV) : Prop := ∀ σ v, VR0 σ x v → VR0 σ y v
theorem LeV0.refl (x : AV) : LeV0 x x := fun _ _ h => h
theorem LeV0.nils (sz : Nat) : LeV0 .nils (.lst sz []) := fun σ v h => by
  cases h; exact .empty sz none 0 (by simp)
theorem LeV0.lst {sz : Nat} {xs ys : List (List AV)} (hl : xs.map (·.length) = ys.map (·.length)) (h : L2 LeV0 xs.flatten ys.flatten) : LeV0 (.lst sz xs) (.lst sz ys) := fun σ v h0 => by
  have hlen : xs.length = ys.length := by have := congrArg List.length hl; simpa using this
  cases h0 with
  | empty _ A cap hc =>
    have : ys = [] := List.eq_nil_of_length_eq_zero (by rw [← hlen]; rfl)
    subst this
    exact .empty sz A cap hc
  | lst _ _ b off cap g h1 h2 h3 h4 h5 =>
    rw [hlen] at h1 ⊢
    have hx : ∀ (j : Nat) (c : AV), ys.flatten[j]? = some c → ∃ c', xs.flatten[j]? = some c' ∧ LeV0 c' c := fun j c hc => by
      have hj : j < xs.flatten.length := by rw [h.1]; exact (List.getElem?_eq_some_iff.1 hc).1
      exact ⟨_, List.getElem?_eq_getElem hj, h.2 j _ c (List.getElem?_eq_getElem hj) hc⟩
    refine .lst sz ys b off cap g h1 h2 (fun c hc => ?_) (fun j c hc => ?_) (fun j c hc => ?_)
    · obtain ⟨i, hi, rfl⟩ := List.getElem_of_mem hc
      have e : (xs.map (·.length))[i]? = (ys.map (·.length))[i]? := by rw [hl]
      have hi' : i < xs.length := by omega
      simp [hi, hi'] at e
      rw [← e]; exact h3 _ (List.getElem_mem hi')
    · obtain ⟨c', e1, _⟩ := hx j c hc
      exact h4 j c' e1
    · obtain ⟨c', e1, e2⟩ := hx j c hc
      exact e2 _ _ (h5 j c' e1)
def flatLst : AV → Bool
  | .lst _ _ | .nils => true
  | _ => false
theorem LeV.of0 {x y : AV} (hx : flatLst x = true) (h : LeV0 x y) : LeV x y := fun σ ι v hv => by
  cases hv with
  | base _ _ h0 => exact .base _ _ (h σ v h0)
  | own => cases hx
  | ptr => cases hx
  | eptr => cases hx
  | part => cases hx
  | pptr => cases hx
  | agg => cases hx
  | tup => cases hx
  | fn => cases hx
theorem lelst {sz : Nat} {xs ys : List (List AV)} (hl : xs.map (·.length) = ys.map (·.length) := by rfl) (h : L2 LeV0 xs.flatten ys.flatten := by (simp only [List.flatten, List.map, List.cons_append, List.nil_append]; repeat' (first | exact L2.nil _ | refine L2.cons ?_ ?_ | exact LeV0.refl _ | exact LeV0.nils _ | refine LeV0.lst rfl ?_))) : LeV (.lst sz xs) (.lst sz ys) := LeV.of0 rfl (LeV0.lst hl h)
end Go.Proofs.Ytfjoaeghnfkdlaa
namespace Go.Proofs.Ytfjoaeghnfkdlaa
set_option maxRecDepth 100000
set_option maxRecDepth 100000
open Go.RowKit
def hd64 (l : List Task) : List Task := l.take (min l.length 64)
theorem cntJ_next (js : List Job) (i : Int) (k : Nat) (h : k < js.length) : cntT (js.take (k + 1)) i = cntT (js.take k) i + if (js.getD k default).task = i then 1 else 0 := by
  have e : js.getD k default = js[k] := by simp [h]
  rw [List.take_succ_eq_append_getElem h, cntT_app, cntT_one, e]
end Go.Proofs.Ytfjoaeghnfkdlaa
