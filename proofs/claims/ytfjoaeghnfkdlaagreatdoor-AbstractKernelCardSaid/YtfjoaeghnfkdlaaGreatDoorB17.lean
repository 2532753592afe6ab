/- A book of jobs, in plain terms: what its calls do, and what stays true of it. No condition. -/
import Derived.Test.YtfjoaeghnfkdlaaGreatDoorB12
import Derived.Test.YtfjoaeghnfkdlaaGreatDoorB15
import Derived.Test.YtfjoaeghnfkdlaaGreatDoorB16
import Derived.Test.YtfjoaeghnfkdlaaGreatDoorB11
import Derived.Test.YtfjoaeghnfkdlaaGreatDoorB10
import Derived.Test.YtfjoaeghnfkdlaaGreatDoorB13
set_option linter.unusedSimpArgs false
set_option linter.unusedVariables false
set_option maxHeartbeats 1000000
set_option maxRecDepth 100000
namespace Go.Proofs.YtfjoaeghnfkdlaaGreatDoor
open Go.RowKit
structure Bk where
 all : List Job
 now : List (Int × Int)
 cnt : List (Int × Int)
 act : Nat
 overs : List Due
def xg : Bk := ⟨[], [], [], 0, []⟩
def qh (B : Bk) (i : Int) : Nat := ((jw B.now i).getD 0).toNat
def jH (B : Bk) (i : Int) : Job := B.all.getD (qh B i) default
def noB (B : Bk) (i : Int) : Int := (jw B.cnt i).getD 0
def wK (l : List Task) (B : Bk) (i t : Int) : Job := ⟨i, noB B i, inT t, Vc (inT t) (l.getD i.toNat default).deadline, -1, -1, 0, false⟩
def qn (t : Int) (j : Job) : Job := { j with start := if j.steps = 0 then inT t else j.start, steps := j.steps + 1 }
def vQ (t : Int) (j : Job) : Job := { j with fin := inT t + 1 }
def vZ (j : Job) : Job := { j with missed := true }
def jv (l : List Task) (B : Bk) (i t : Int) : Bk :=
 if i < 0 ∨ (l.length : Int) <= i then B
 else if jm B.act i then { B with overs := B.overs ++ [⟨inT t, i⟩] }
 else ⟨B.all ++ [wK l B i t], jq B.now i B.all.length, jq B.cnt i (noB B i + 1), Qq B.act i, B.overs⟩
def yz (B : Bk) (i : Int) (j : Job) : Bk := { B with all := B.all.set (qh B i) j }
def jc (B : Bk) (i t : Int) : Bk := if jm B.act i then yz B i (qn t (jH B i)) else B
def vk (B : Bk) (i t : Int) : Bk := if jm B.act i then { yz B i (vQ t (jH B i)) with act := zh B.act i, now := Js B.now i } else B
def wh (t : Int) (j : Job) : Bool := !j.missed && decide (j.deadline <= inT t)
def jN (B : Bk) (t : Int) (ks : List Int) : Nat -> List Int × Bk
 | 0 => ([], B)
 | k + 1 =>
  let s := jN B t ks k
  let i := ks.getD k default
  if wh t (jH s.2 i) then (s.1 ++ [i], yz s.2 i (vZ (jH s.2 i))) else s
def yZ (js : List Job) (i : Int) : Int := ((js.filter fun j => decide (j.task = i)).length : Int)
structure GoodB (l : List Task) (n : Nat) (B : Bk) : Prop where
 hl : l.length <= 64
 act : B.act < 2 ^ 64
 alen : B.all.length <= n
 olen : B.overs.length <= n
 now : ∀ i, jm B.act i = true -> ∃ k : Nat, jw B.now i = some (k : Int) ∧ k < B.all.length ∧ (B.all.getD k default).task = i ∧ (B.all.getD k default).fin < 0
 opn : ∀ k : Nat, k < B.all.length -> (B.all.getD k default).fin < 0 -> jm B.act (B.all.getD k default).task = true ∧ jw B.now (B.all.getD k default).task = some (k : Int)
 one : ∀ k k' : Nat, k' < k -> k < B.all.length -> (B.all.getD k' default).task = (B.all.getD k default).task -> 0 <= (B.all.getD k' default).fin
 task : ∀ k : Nat, k < B.all.length -> 0 <= (B.all.getD k default).task ∧ (B.all.getD k default).task < l.length
 no : ∀ k : Nat, k < B.all.length -> (B.all.getD k default).no = yZ (B.all.take k) (B.all.getD k default).task
 cnt : ∀ i, noB B i = yZ B.all i
 st : ∀ k : Nat, k < B.all.length -> 0 <= (B.all.getD k default).steps ∧ (B.all.getD k default).steps <= n ∧ (0 < (B.all.getD k default).steps ↔ 0 <= (B.all.getD k default).start)
theorem j3n (a b : List Job) (i : Int) : yZ (a ++ b) i = yZ a i + yZ b i := by
 unfold yZ; rw [List.filter_append, List.length_append]; omega
theorem j07 (a : List Job) (i : Int) : 0 <= yZ a i ∧ yZ a i <= a.length := by
 unfold yZ
 have := List.length_filter_le (fun j : Job => decide (j.task = i)) a
 omega
theorem j1p (j : Job) (i : Int) : yZ [j] i = if j.task = i then 1 else 0 := by
 unfold yZ
 by_cases h : j.task = i <;> simp [List.filter_cons, h]
theorem yW {a b : List Job} (hl : a.length = b.length) (h : ∀ k : Nat, k < a.length -> (a.getD k default).task = (b.getD k default).task) (i : Int) : yZ a i = yZ b i := by
 unfold yZ
 have e : a.map (·.task) = b.map (·.task) := by
  refine List.ext_getElem (by simp [hl]) fun k h1 h2 => ?_
  rw [List.length_map] at h1 h2
  have := h k h1
  simpa [h1, h2] using this
 have f : ∀ c : List Job, (c.filter fun j => decide (j.task = i)).length = ((c.map (·.task)).filter fun x => decide (x = i)).length := fun c => by
  rw [List.filter_map, List.length_map]; rfl
 rw [f, f, e]
theorem vS {js : List Job} {p : Nat} {j : Job} (k : Nat) (hk : k < js.length) : (js.set p j).getD k default = if p = k then j else js.getD k default := by
 rw [List.getD_eq_getElem?_getD, List.getElem?_set, List.getD_eq_getElem?_getD]
 split
 ·rename_i h; subst h; simp [hk]
 ·rfl
theorem yQ {js : List Job} {m k : Nat} (h : k < m) : (js.take m).getD k default = js.getD k default := by
 rw [List.getD, List.getElem?_take, if_pos h]; rfl
theorem GoodB.mono {l : List Task} {n : Nat} {B : Bk} (h : GoodB l n B) : GoodB l (n + 1) B :=
 { h with alen := Nat.le_succ_of_le h.alen, olen := Nat.le_succ_of_le h.olen, st := fun k hk => by have := h.st k hk; omega }
theorem VB {l : List Task} (hl : l.length <= 64) : GoodB l 0 xg :=
 ⟨hl, by decide, Nat.le_refl _, Nat.le_refl _, fun i h => by simp [xg, jm] at h, fun k h => by simp [xg] at h, fun k k' h1 h => by simp [xg] at h, fun k h => by simp [xg] at h, fun k h => by simp [xg] at h, fun i => rfl, fun k h => by simp [xg] at h⟩
theorem GoodB.set {l : List Task} {n : Nat} {B : Bk} (h : GoodB l n B) (p : Nat) (j : Job) (h1 : p < B.all.length -> j.task = (B.all.getD p default).task ∧ j.no = (B.all.getD p default).no ∧ j.fin = (B.all.getD p default).fin)
  (h2 : p < B.all.length -> 0 <= j.steps ∧ j.steps <= n + 1 ∧ (0 < j.steps ↔ 0 <= j.start)) : GoodB l (n + 1) { B with all := B.all.set p j } := by
 have e : ∀ k : Nat, k < B.all.length -> ((B.all.set p j).getD k default).task = (B.all.getD k default).task ∧ ((B.all.set p j).getD k default).no = (B.all.getD k default).no ∧ ((B.all.set p j).getD k default).fin = (B.all.getD k default).fin := fun k hk => by
  rw [vS k hk]
  split
  ·rename_i e; subst e; exact h1 hk
  ·exact ⟨rfl, rfl, rfl⟩
 have hlen : (B.all.set p j).length = B.all.length := List.length_set
 refine ⟨h.hl, h.act, ?_, Nat.le_succ_of_le h.olen, fun i hi => ?_, fun k hk hf => ?_, fun k k' h3 hk ht => ?_, fun k hk => ?_, fun k hk => ?_, fun i => ?_, fun k hk => ?_⟩
 ·simp only [hlen]; exact Nat.le_succ_of_le h.alen
 ·obtain ⟨k, g1, g2, g3, g4⟩ := h.now i hi
  exact ⟨k, g1, by simp only [hlen]; exact g2, by rw [(e k g2).1]; exact g3, by rw [(e k g2).2.2]; exact g4⟩
 ·simp only [hlen] at hk hf ⊢
  rw [(e k hk).2.2] at hf
  rw [(e k hk).1]
  exact h.opn k hk hf
 ·simp only [hlen] at hk ht ⊢
  rw [(e k hk).1, (e k' (by omega)).1] at ht
  rw [(e k' (by omega)).2.2]
  exact h.one k k' h3 hk ht
 ·simp only [hlen] at hk ⊢
  rw [(e k hk).1]; exact h.task k hk
 ·simp only [hlen] at hk ⊢
  rw [(e k hk).1, (e k hk).2.1, h.no k hk]
  refine yW (by simp only [List.length_take, hlen]) (fun q hq => ?_) _
  rw [List.length_take] at hq
  have := (e q (by omega)).1
  rw [yQ (by omega), yQ (by omega), this]
 ·exact (h.cnt i).trans (yW hlen.symm (fun q hq => ((e q hq).1).symm) i)
 ·simp only [hlen] at hk ⊢
  rw [vS k hk]
  split
  ·rename_i e; subst e; exact h2 hk
  ·have := h.st k hk; omega
theorem GoodB.pos {l : List Task} {n : Nat} {B : Bk} (h : GoodB l n B) {i : Int} (hi : jm B.act i = true) : jw B.now i = some (qh B i : Int) ∧ qh B i < B.all.length ∧ (jH B i).task = i ∧ (jH B i).fin < 0 := by
 obtain ⟨k, g1, g2, g3, g4⟩ := h.now i hi
 have e : qh B i = k := by rw [qh, g1]; rfl
 rw [jH, e]
 exact ⟨g1, g2, g3, g4⟩
theorem GoodB.step {l : List Task} {n : Nat} {B : Bk} (h : GoodB l n B) (i t : Int) : GoodB l (n + 1) (jc B i t) := by
 rw [jc]
 split
 ·rename_i hi
  refine h.set _ _ (fun _ => ⟨rfl, rfl, rfl⟩) (fun hp => ?_)
  have : 0 <= (jH B i).steps ∧ (jH B i).steps <= n ∧ (0 < (jH B i).steps ↔ 0 <= (jH B i).start) := h.st _ hp
  have h0 := zk t
  simp only [qn]
  by_cases hz : (jH B i).steps = 0
  ·rw [if_pos hz]; omega
  ·rw [if_neg hz]; omega
 ·exact h.mono
theorem Qx {m : Nat} {i : Int} (h : jm m i = true) : 0 <= i ∧ i <= 63 := by
 rw [vx, decide_eq_true_eq, we] at h; omega
theorem Vz {m : Nat} {i k : Int} (h : jm (zh m k) i = true) : jm m i = true ∧ i ≠ k := by
 have h0 := Qx h
 rw [vx, decide_eq_true_eq, we, Vr] at h
 rw [vx, decide_eq_true_eq, we]
 obtain ⟨_, _, h⟩ := h
 simp only [Bool.and_eq_true, Bool.not_eq_true', decide_eq_false_iff_not] at h
 exact ⟨⟨h0.1, h0.2, h.1⟩, fun e => h.2.2 ⟨by omega, by omega, by omega⟩⟩
theorem X8 {m : Nat} {i k : Int} (h : jm m i = true) (hk : i ≠ k) : jm (zh m k) i = true := by
 have h0 := Qx h
 rw [vx, decide_eq_true_eq, we] at h
 rw [vx, decide_eq_true_eq, we, Vr]
 obtain ⟨_, _, h⟩ := h
 refine ⟨h0.1, h0.2, ?_⟩
 simp only [h, Bool.true_and, Bool.and_eq_true, decide_eq_true_eq, Bool.not_eq_true', decide_eq_false_iff_not]
 omega
theorem J1 {m : Nat} {i k : Int} (hk : 0 <= k ∧ k <= 63) : jm (Qq m k) i = true ↔ (i = k ∨ jm m i = true) := by
 rw [vx, vx, decide_eq_true_eq, decide_eq_true_eq, we, we, j2D]
 simp only [Bool.or_eq_true, decide_eq_true_eq]
 constructor
 ·rintro ⟨h1, h2, h3 | h3⟩
  ·exact .inr ⟨h1, h2, h3⟩
  ·exact .inl (by omega)
 ·rintro (rfl | ⟨h1, h2, h3⟩)
  ·exact ⟨hk.1, hk.2, .inr (by omega)⟩
  ·exact ⟨h1, h2, .inl h3⟩
theorem Q5 {α : Type} {m : List (Int × α)} {k i : Int} (h : i ≠ k) : jw (Js m k) i = jw m i := by
 induction m with
 | nil => rfl
 | cons p r ih =>
  obtain ⟨k', v⟩ := p
  rw [Js, jw]
  by_cases h1 : k' = k
  ·rw [if_pos h1, if_neg (by omega)]
  ·rw [if_neg h1, jw, ih]
theorem wO {α : Type} {m : List (Int × α)} {k i : Int} {x : α} : jw (jq m k x) i = if i = k then some x else jw m i := by
 induction m with
 | nil =>
  rw [jq, jw, jw]
  by_cases h : i = k
  ·rw [if_pos h, if_pos h.symm]
  ·rw [if_neg h, if_neg (Ne.symm h), jw]
 | cons p r ih =>
  obtain ⟨k', v⟩ := p
  rw [jq]
  by_cases h1 : k' = k
  ·subst h1
   rw [if_pos rfl, jw, jw]
   by_cases h : i = k'
   ·rw [if_pos h, if_pos h.symm]
   ·rw [if_neg h, if_neg (Ne.symm h), if_neg (Ne.symm h)]
  ·rw [if_neg h1, jw, jw, ih]
   by_cases h : k' = i
   ·rw [if_pos h, if_pos h, if_neg (by omega)]
   ·rw [if_neg h, if_neg h]
theorem GoodB.fin {l : List Task} {n : Nat} {B : Bk} (h : GoodB l n B) (i t : Int) : GoodB l (n + 1) (vk B i t) := by
 rw [vk]
 split
 case isFalse => exact h.mono
 rename_i hi
 obtain ⟨p1, p2, p3, p4⟩ := h.pos hi
 have h0 := zk t
 rw [yz]
 have e : ∀ k : Nat, k < B.all.length -> ((B.all.set (qh B i) (vQ t (jH B i))).getD k default).task = (B.all.getD k default).task ∧ ((B.all.set (qh B i) (vQ t (jH B i))).getD k default).no = (B.all.getD k default).no ∧
   ((B.all.set (qh B i) (vQ t (jH B i))).getD k default).fin = (if qh B i = k then inT t + 1 else (B.all.getD k default).fin) ∧ ((B.all.set (qh B i) (vQ t (jH B i))).getD k default).steps = (B.all.getD k default).steps ∧ ((B.all.set (qh B i) (vQ t (jH B i))).getD k default).start = (B.all.getD k default).start := fun k hk => by
  rw [vS k hk]
  split
  ·rename_i e; subst e; exact ⟨rfl, rfl, rfl, rfl, rfl⟩
  ·exact ⟨rfl, rfl, rfl, rfl, rfl⟩
 have hlen : (B.all.set (qh B i) (vQ t (jH B i))).length = B.all.length := List.length_set
 refine ⟨h.hl, j1i h.act i, ?_, Nat.le_succ_of_le h.olen, fun i' hi' => ?_, fun k hk hf => ?_, fun k k' h3 hk ht => ?_, fun k hk => ?_, fun k hk => ?_, fun i => ?_, fun k hk => ?_⟩
 ·simp only [hlen]; exact Nat.le_succ_of_le h.alen
 ·obtain ⟨h1, h2⟩ := Vz hi'
  obtain ⟨k, g1, g2, g3, g4⟩ := h.now i' h1
  have hne : qh B i ≠ k := fun e => by rw [<- e] at g3; exact h2 (g3.symm.trans p3)
  refine ⟨k, by simp only [Q5 h2]; exact g1, by simp only [hlen]; exact g2, by rw [(e k g2).1]; exact g3, by rw [(e k g2).2.2.1, if_neg hne]; exact g4⟩
 ·simp only [hlen] at hk hf ⊢
  rw [(e k hk).2.2.1] at hf
  split at hf
  ·omega
  rename_i hne
  rw [(e k hk).1]
  obtain ⟨g1, g2⟩ := h.opn k hk hf
  have h2 : (B.all.getD k default).task ≠ i := fun e2 => by
   rw [e2, p1] at g2
   exact hne (Int.ofNat.inj (Option.some.inj g2))
  exact ⟨X8 g1 h2, by rw [Q5 h2]; exact g2⟩
 ·simp only [hlen] at hk ht ⊢
  rw [(e k hk).1, (e k' (by omega)).1] at ht
  rw [(e k' (by omega)).2.2.1]
  split
  ·omega
  ·exact h.one k k' h3 hk ht
 ·simp only [hlen] at hk ⊢
  rw [(e k hk).1]; exact h.task k hk
 ·simp only [hlen] at hk ⊢
  rw [(e k hk).1, (e k hk).2.1, h.no k hk]
  refine yW (by simp only [List.length_take, hlen]) (fun q hq => ?_) _
  rw [List.length_take] at hq
  have := (e q (by omega)).1
  rw [yQ (by omega), yQ (by omega), this]
 ·exact (h.cnt i).trans (yW hlen.symm (fun q hq => ((e q hq).1).symm) i)
 ·simp only [hlen] at hk ⊢
  rw [(e k hk).2.2.2.1, (e k hk).2.2.2.2]
  have := h.st k hk; omega
theorem vw {js : List Job} {j : Job} (k : Nat) : (js ++ [j]).getD k default = if k < js.length then js.getD k default else if k = js.length then j else default := by
 rw [List.getD_eq_getElem?_getD]
 by_cases h : k < js.length
 ·rw [if_pos h, List.getElem?_append_left h, List.getD_eq_getElem?_getD]
 ·rw [if_neg h, List.getElem?_append_right (by omega)]
  by_cases h2 : k = js.length
  ·rw [if_pos h2, h2, Nat.sub_self]; rfl
  ·rw [if_neg h2]
   obtain ⟨m, hm⟩ : ∃ m, k - js.length = m + 1 := ⟨k - js.length - 1, by omega⟩
   rw [hm]; rfl
theorem GoodB.rel {l : List Task} {n : Nat} {B : Bk} (h : GoodB l n B) (i t : Int) : GoodB l (n + 1) (jv l B i t) := by
 have hl := h.hl
 rw [jv]
 split
 ·exact h.mono
 rename_i hr
 split
 ·exact { h.mono with olen := by have := h.olen; simp only [List.length_append, List.length_cons, List.length_nil]; omega }
 rename_i hi
 have hlen : (B.all ++ [wK l B i t]).length = B.all.length + 1 := by simp
 have hno : ∀ k : Nat, k < B.all.length -> (B.all.getD k default).task = i -> 0 <= (B.all.getD k default).fin := fun k hk ht => by
  rcases Int.lt_or_le (B.all.getD k default).fin 0 with hf | hf
  ·have := (h.opn k hk hf).1
   rw [ht] at this
   exact absurd this hi
  ·exact hf
 refine ⟨hl, j51 h.act i, ?_, Nat.le_succ_of_le h.olen, fun i' hi' => ?_, fun k hk hf => ?_, fun k k' h3 hk ht => ?_, fun k hk => ?_, fun k hk => ?_, fun i' => ?_, fun k hk => ?_⟩
 ·have := h.alen; simp only [hlen]; omega
 ·simp only [hlen]
  rcases (J1 (by omega)).1 hi' with e | h1
  ·subst e
   exact ⟨B.all.length, by simp only [wO, if_pos], by omega, by rw [vw, if_neg (by omega), if_pos rfl]; rfl, by rw [vw, if_neg (by omega), if_pos rfl]; simp [wK]⟩
  ·obtain ⟨k, g1, g2, g3, g4⟩ := h.now i' h1
   have hne : i' ≠ i := fun e => hi (by rw [<- e]; exact h1)
   exact ⟨k, by simp only [wO, if_neg hne]; exact g1, by omega, by rw [vw, if_pos g2]; exact g3, by rw [vw, if_pos g2]; exact g4⟩
 ·simp only [hlen] at hk hf ⊢
  rw [vw] at hf ⊢
  by_cases hk2 : k < B.all.length
  ·rw [if_pos hk2] at hf ⊢
   obtain ⟨g1, g2⟩ := h.opn k hk2 hf
   have hne : (B.all.getD k default).task ≠ i := fun e => hi (by rw [<- e]; exact g1)
   exact ⟨(J1 (by omega)).2 (.inr g1), by rw [wO, if_neg hne]; exact g2⟩
  ·obtain rfl : k = B.all.length := by omega
   rw [if_neg hk2, if_pos rfl]
   exact ⟨(J1 (by omega)).2 (.inl rfl), by rw [wO]; exact if_pos rfl⟩
 ·simp only [hlen] at hk ht ⊢
  rw [vw, if_pos (show k' < B.all.length by omega)] at ht ⊢
  rw [vw] at ht
  by_cases hk2 : k < B.all.length
  ·rw [if_pos hk2] at ht
   exact h.one k k' h3 hk2 ht
  ·rw [if_neg hk2, if_pos (by omega)] at ht
   exact hno k' (by omega) ht
 ·simp only [hlen] at hk ⊢
  rw [vw]
  by_cases hk2 : k < B.all.length
  ·rw [if_pos hk2]; exact h.task k hk2
  ·rw [if_neg hk2, if_pos (by omega)]; simp only [wK]; omega
 ·simp only [hlen] at hk ⊢
  rw [vw]
  by_cases hk2 : k < B.all.length
  ·rw [if_pos hk2, h.no k hk2, List.take_append_of_le_length (by omega)]
  ·obtain rfl : k = B.all.length := by omega
   rw [if_neg hk2, if_pos rfl, List.take_left']
   ·exact h.cnt i
   ·rfl
 ·rw [j3n, j1p, <- h.cnt i']
  simp only [noB, wO]
  by_cases he : i' = i
  ·subst he
   rw [if_pos rfl, if_pos (show (wK l B i' t).task = i' from rfl)]; rfl
  ·rw [if_neg he, if_neg (fun e => he e.symm)]; omega
 ·simp only [hlen] at hk ⊢
  rw [vw]
  by_cases hk2 : k < B.all.length
  ·rw [if_pos hk2]; have := h.st k hk2; omega
  ·rw [if_neg hk2, if_pos (by omega)]; simp only [wK]; omega
theorem GoodB.set0 {l : List Task} {n : Nat} {B : Bk} (h : GoodB l n B) (i : Int) : GoodB l n (yz B i (vZ (jH B i))) := by
 have h2 := h.set (qh B i) (vZ (jH B i)) (fun _ => ⟨rfl, rfl, rfl⟩) (fun hp => by have := h.st _ hp; simp only [vZ, jH]; omega)
 refine { h2 with alen := ?_, olen := h.olen, st := fun k hk => ?_ }
 ·rw [yz]; simp only [List.length_set]; exact h.alen
 ·rw [yz] at hk ⊢
  simp only [List.length_set] at hk
  rw [vS k hk]
  split
  ·rename_i e; subst e
   exact h.st _ hk
  ·exact h.st k hk
theorem GoodB.late {l : List Task} {n : Nat} {B : Bk} (h : GoodB l n B) (t : Int) (ks : List Int) : ∀ k, GoodB l n (jN B t ks k).2 ∧ (jN B t ks k).2.act = B.act ∧ (jN B t ks k).1.length <= k
 | 0 => ⟨h, rfl, Nat.le_refl _⟩
 | k + 1 => by
  obtain ⟨h1, h2, h3⟩ := GoodB.late h t ks k
  rw [jN]
  split
  ·exact ⟨h1.set0 _, h2, by simp only [List.length_append, List.length_cons, List.length_nil]; omega⟩
  ·exact ⟨h1, h2, by omega⟩
def x6 (l : List Task) (B : Bk) (i : Int) : Bool := !decide (i < 0 ∨ (l.length : Int) <= i) && !jm B.act i
abbrev ldH (l : List Task) (B : Bk) : j8 :=
 [(0, .blk 127 [.lst 7 (l.map jJ), .own 5, .own 2, .own 3, .int .u64 B.act, .own 6]), (5, .row 71 8 (B.all.map vX)), (2, mI B.now), (3, mI B.cnt), (6, .row 60 2 (B.overs.map jD))]
theorem QH (t : Int) : Fn Tryz.prog 77 [.int .i64 t] (.int .i64 (inT t)) := by
 refine fnb Tryz.func77 (j5 (by kernel_rfl)) rfl rfl rfl ?_
 repeat' (first | refine sT ?_ | refine sC (Vs _ _ _) ?_ | refine sQ ?_ ?_ | intro hc | exact trivial)
 exact jK rfl rfl
theorem QL (l : List Task) (B : Bk) (hm : B.act < 2 ^ 64) (i : Int) : FnH Tryz.prog 78 [.ptr 0 0, .int .i64 i] (ldH l B) (fun r h' => r = .bool (jm B.act i) ∧ h' = ldH l B) := by
 refine qo Tryz.func78 (j5 (by kernel_rfl)) rfl rfl ?_
 repeat' (first | refine sT ?_ | refine sC (j6K B.act hm i) ?_ | refine sQ ?_ ?_ | intro hc | exact trivial)
 exact jK rfl ⟨rfl, rfl⟩
theorem QY (l : List Task) (B : Bk) (i : Int) (hg : jw B.now i = some (qh B i : Int)) (hp : qh B i < B.all.length) : FnH Tryz.prog 76 [.ptr 0 0, .int .i64 i] (ldH l B) (fun r h' => r = .eptr 5 8 (qh B i) 0 ∧ h' = ldH l B) := by
 refine qo Tryz.func76 (j5 (by kernel_rfl)) rfl rfl ?_
 have e : (jw B.now i).getD 0 = (qh B i : Int) := by rw [hg]; rfl
 generalize qh B i = p at *
 repeat' (first | refine sA ?_ | ((first | apply kM | apply kN); (iterate 3 (· exact rfl)); (· first | (show Y _ ⟨_, .indexAddr _ _ _, _, _, _, _⟩ _ _ _; first | exact jP (p) rfl rfl rfl rfl rfl rfl (by omega) (by omega)))) | refine sY ?_ | ((first | apply kM | apply kN); (iterate 3 (· exact rfl)); (· first | exact Y.mk (Y7 Yt rfl rfl rfl rfl rfl))) | refine sG ?_ | refine sQ ?_ ?_ | intro hc | exact trivial)
 exact jK rfl ⟨rfl, rfl⟩
def ρi (i : Nat) : Nat := i
set_option maxHeartbeats 4000000 in
theorem j4Z (l : List Task) (B : Bk) (n : Nat) (h : GoodB l n B) (hn : n <= 100000) (i t : Int) : FnH Tryz.prog 81 [.ptr 0 0, .int .i64 i, .int .i64 t] (ldH l B)
  (fun r h' => r = .tup [.int .i64 (if x6 l B i then noB B i else 0), .bool (x6 l B i)] ∧ h' = ldH l (jv l B i t)) := by
 refine qo Tryz.func81 (j5 (by kernel_rfl)) rfl rfl ?_
 have hl := h.hl
 have hact := h.act
 have halen := h.alen
 have holen := h.olen
 have hno : 0 <= noB B i ∧ noB B i <= B.all.length := by rw [h.cnt]; exact j07 _ _
 have c1 := QH t
 have c2 := QL l B hact i
 have ht := zk t
 by_cases h0 : i < 0 ∨ (l.length : Int) <= i
 ·have e1 : x6 l B i = false := by rw [x6, decide_eq_true h0]; rfl
  have e2 : jv l B i t = B := by rw [jv, if_pos h0]
  rw [e1, e2]
  repeat' (first | refine sT ?_ | refine sQ ?_ ?_ | intro hc | exact trivial)
  all_goals first | (exfalso; omega) | exact jK rfl ⟨rfl, rfl⟩
 have hr : 0 <= i ∧ i < l.length := by omega
 cases hh : jm B.act i
 case true =>
  have e1 : x6 l B i = false := by rw [x6, hh, Bool.not_true, Bool.and_false]
  have e2 : jv l B i t = { B with overs := B.overs ++ [⟨inT t, i⟩] } := by rw [jv, if_neg h0, if_pos hh]
  rw [e1, e2]
  rw [hh] at c2
  repeat' (first | refine sT ?_ | refine sC (c1) ?_ | refine sQ ?_ ?_ | intro hc | exact trivial)
  all_goals first | (exfalso; omega) | skip
  refine jL (fun i => ρi i) (c2) rfl rfl leh rfl rfl rfl rfl rfl rfl (fun r h' hR => ?_)
  obtain ⟨rfl, rfl⟩ := hR
  refine ⟨rfl, rfl, ?_⟩
  repeat' (first | refine sT ?_ | refine sQ ?_ ?_ | intro hc | exact trivial)
  refine jh (yL [false, false, false, false, false, true] (id := 0) rfl) ?_
  refine ole (h' := [(6, .row 60 2 (B.overs.map jD)), (0, .blk 127 [.lst 7 (l.map jJ), .own 5, .own 2, .own 3, .int .u64 B.act, .undef]), (5, .row 71 8 (B.all.map vX)), (2, mI B.now), (3, mI B.cnt)]) (LeS.refl _) leh ?_
  (refine v7 (id := 6) (ys := [(⟨inT t, i⟩ : Due)]) (by_ := 16) rfl rfl rfl rfl rfl rfl rfl rfl rfl rfl (fun _ _ => rfl) ?_ ?_ rfl rfl rfl rfl rfl ?_; (· (first | omega | ((try simp only [List.length_cons, List.length_nil, List.length_append, List.length_map]) <;> omega))); (· (first | omega | ((try simp only [List.length_cons, List.length_nil, List.length_append, List.length_map]) <;> omega))))
  repeat' (first | refine sT ?_ | refine sQ ?_ ?_ | intro hc | exact trivial)
  exact JU (h' := ldH l { B with overs := B.overs ++ [⟨inT t, i⟩] }) rfl leh ⟨rfl, rfl⟩
 case false =>
  have e1 : x6 l B i = true := by rw [x6, decide_eq_false h0, hh]; rfl
  have e2 : jv l B i t = ⟨B.all ++ [wK l B i t], jq B.now i B.all.length, jq B.cnt i (noB B i + 1), Qq B.act i, B.overs⟩ := by rw [jv, if_neg h0, if_neg (by rw [hh]; exact Bool.false_ne_true)]
  rw [e1, e2, if_pos rfl]
  rw [hh] at c2
  have c5 := j5e B.act hact i
  repeat' (first | refine sT ?_ | refine sC (c1) ?_ | refine sQ ?_ ?_ | intro hc | exact trivial)
  all_goals first | (exfalso; omega) | skip
  refine jL (fun i => ρi i) (c2) rfl rfl leh rfl rfl rfl rfl rfl rfl (fun r h' hR => ?_)
  obtain ⟨rfl, rfl⟩ := hR
  refine ⟨rfl, rfl, ?_⟩
  have enb : noB B i = (jw B.cnt i).getD 0 := rfl
  rw [enb] at hno ⊢
  generalize hnb : (jw B.cnt i).getD 0 = no at *
  repeat' (first | refine sA ?_ | refine sY ?_ | ((first | apply kM | apply kN); (iterate 3 (· exact rfl)); (· first | exact Y.mk (hnb ▸ Y7 Yt rfl rfl rfl rfl rfl))) | refine sG ?_ | refine sQ ?_ ?_ | intro hc | exact trivial)
  refine j5S (xV (QZ (no + 1) rfl rfl rfl rfl rfl rfl rfl) rfl) rfl rfl rfl ?_
  repeat' (first | refine sU ?_ | refine sQ ?_ ?_ | intro hc | exact trivial)
  refine wle (s' := [(0, .ptr 0 0), (1, .int .i64 i), (2, .int .i64 (inT t)), (8, .int .i64 no)]) (h' := ldH l { B with cnt := jq B.cnt i (no + 1) }) les leh ?_
  refine zt (H := fun y : List (Int × Int) => ldH l { B with now := y, cnt := jq B.cnt i (no + 1) }) (ok := fun _ => True) (tn := [10]) (ln := []) B.now leh (by kernel_rfl) (by kernel_rfl) (by kernel_rfl) trivial ?_
  repeat' (first | refine sA ?_ | refine sY ?_ | (show C _ _ _ _ _ _ _ _ _ _ _; first | refine JZ ?_ | (apply xj; (· exact rfl); (· exact rfl); (· intro y' hy'; first | exact ya)) | (apply JI; (· exact rfl); (· exact rfl); (· exact rfl); (· first | exact ya)) | refine wP rfl rfl rfl ?_) | refine sG ?_ | ((first | refine kQ rfl rfl ?_ ?_ | refine kR rfl rfl rfl rfl rfl ?_ ?_ | refine kS rfl rfl rfl ?_ ?_ | refine xh rfl rfl rfl ?_ ?_) <;> intro hc <;> (try simp only [KL, sL, reduceCtorEq] at hc) <;> (try (have hT : True := hc; clear hT hc)) <;> (try (exfalso; omega))))
  refine Yl (x' := jq B.now i B.all.length) rfl rfl trivial (TuO.post (xV (QZ (B.all.length : Int) rfl rfl rfl rfl rfl rfl rfl) rfl) leh) ?_
  repeat' (first | refine sB ?_ | refine sY ?_ | refine sC (c5) ?_ | (show C _ _ _ _ _ _ _ _ _ _ _; first | refine JZ ?_ | (apply xj; (· exact rfl); (· exact rfl); (· intro y' hy'; first | exact ya | exact q_c (c5) rfl)) | (apply JI; (· exact rfl); (· exact rfl); (· exact rfl); (· first | exact ya | exact q_c (c5) rfl)) | refine wP rfl rfl rfl ?_) | refine sG ?_ | ((first | refine kQ rfl rfl ?_ ?_ | refine kR rfl rfl rfl rfl rfl ?_ ?_ | refine kS rfl rfl rfl ?_ ?_ | refine xh rfl rfl rfl ?_ ?_) <;> intro hc <;> (try simp only [KL, sL, reduceCtorEq] at hc) <;> (try (have hT : True := hc; clear hT hc)) <;> (try (exfalso; omega))))
  refine wle (s' := [(0, .ptr 0 0), (1, .int .i64 i), (2, .int .i64 (inT t)), (8, .int .i64 no)]) (h' := ldH l { B with now := jq B.now i B.all.length, cnt := jq B.cnt i (no + 1), act := Qq B.act i }) les leh ?_
  refine ZK (H := fun y : List Job × AV => [(5, .row 71 8 (y.1.map vX)), (0, .blk 127 [.lst 7 (l.map jJ), y.2, .own 2, .own 3, .int .u64 (Qq B.act i), .own 6]), (2, mI (jq B.now i B.all.length)), (3, mI (jq B.cnt i (no + 1))), (6, .row 60 2 (B.overs.map jD))]) (ok := fun _ => True) (tn := [20, 23]) (ln := [4]) (c := 20) (R := 5) (B.all, .own 5) leh (by kernel_rfl) (by kernel_rfl) (by kernel_rfl) trivial ?_
  repeat' (first | refine sA ?_ | refine sY ?_ | refine sC (Jf _ _) ?_ | (show KW _ _ _ _ _ _ _ _ _ _ _ _ _; first | refine Xk rfl ?_ | (apply J3; (· exact rfl); (· exact rfl); (· exact rfl); (· intro y' hy'; first | exact ya | exact q_c (Jf _ _) rfl); (· first | exact rfl | kernel_rfl)) | (apply Xs; (· exact rfl); (· exact rfl); (· exact rfl); (· exact rfl); (· first | exact ya | exact q_c (Jf _ _) rfl); (· first | exact rfl | kernel_rfl))) | refine sG ?_ | refine sQ ?_ ?_ | intro hc | exact trivial)
  refine j5t (x' := (B.all ++ [(⟨i, no, inT t, Vc (inT t) (l.getD i.toNat default).deadline, -1, -1, 0, false⟩ : Job)], .undef)) rfl rfl rfl trivial
   (TuK.post (TuK.pre (Qu (h2 := [(5, .row 71 8 (B.all.map vX)), (0, .blk 127 [.lst 7 (l.map jJ), .undef, .own 2, .own 3, .int .u64 (Qq B.act i), .own 6]), (2, mI (jq B.now i B.all.length)), (3, mI (jq B.cnt i (no + 1))), (6, .row 60 2 (B.overs.map jD))]) [false, true] (id := 0) rfl leh)
     (Jx (ys := [(⟨i, no, inT t, Vc (inT t) (l.getD i.toNat default).deadline, -1, -1, 0, false⟩ : Job)]) (by_ := 64) rfl rfl rfl rfl rfl rfl rfl rfl rfl rfl (fun _ _ => rfl) (by simp only [List.length_cons, List.length_nil]; omega) (by simp only [List.length_cons, List.length_nil]; omega) rfl rfl)) leh) ?_
  repeat' (first | refine sA ?_ | refine sY ?_ | (show KW _ _ _ _ _ _ _ _ _ _ _ _ _; first | refine Xk rfl ?_ | (apply J3; (· exact rfl); (· exact rfl); (· exact rfl); (· intro y' hy'; first | exact ya); (· first | exact rfl | kernel_rfl)) | (apply Xs; (· exact rfl); (· exact rfl); (· exact rfl); (· exact rfl); (· first | exact ya); (· first | exact rfl | kernel_rfl))) | refine sG ?_ | refine sQ ?_ ?_ | intro hc | exact trivial)
  refine j68 (x' := (B.all ++ [(⟨i, no, inT t, Vc (inT t) (l.getD i.toNat default).deadline, -1, -1, 0, false⟩ : Job)], .own 5)) rfl rfl rfl trivial ((xV (VP rfl rfl rfl rfl rfl rfl (Nat.le_of_ble_eq_true rfl)) rfl).post leh) (by kernel_rfl) ?_
  repeat' (first | refine sA ?_ | refine sY ?_ | (show KW _ _ _ _ _ _ _ _ _ _ _ _ _; first | refine Xk rfl ?_ | (apply J3; (· exact rfl); (· exact rfl); (· exact rfl); (· intro y' hy'; first | exact ya); (· first | exact rfl | kernel_rfl)) | (apply Xs; (· exact rfl); (· exact rfl); (· exact rfl); (· exact rfl); (· first | exact ya); (· first | exact rfl | kernel_rfl))) | refine sG ?_ | refine sQ ?_ ?_ | intro hc | exact trivial)
  have ej : wK l B i t = ⟨i, no, inT t, Vc (inT t) (l.getD i.toNat default).deadline, -1, -1, 0, false⟩ := by rw [wK, enb]
  rw [ej]
  exact JU (h' := ldH l ⟨B.all ++ [(⟨i, no, inT t, Vc (inT t) (l.getD i.toNat default).deadline, -1, -1, 0, false⟩ : Job)], jq B.now i B.all.length, jq B.cnt i (no + 1), Qq B.act i, B.overs⟩) rfl leh ⟨rfl, rfl⟩
theorem j3o (l : List Task) (B : Bk) (n : Nat) (h : GoodB l n B) (hn : n <= 100000) (i t : Int) : FnH Tryz.prog 82 [.ptr 0 0, .int .i64 i, .int .i64 t] (ldH l B)
  (fun r h' => r = .bool (jm B.act i) ∧ h' = ldH l (jc B i t)) := by
 refine qo Tryz.func82 (j5 (by kernel_rfl)) rfl rfl ?_
 have c1 := QH t
 have c2 := QL l B h.act i
 cases hh : jm B.act i
 case false =>
  have e2 : jc B i t = B := by rw [jc, if_neg (by rw [hh]; exact Bool.false_ne_true)]
  rw [e2]
  rw [hh] at c2
  repeat' (first | refine sT ?_ | refine sQ ?_ ?_ | intro hc | exact trivial)
  refine jL (fun i => ρi i) (c2) rfl rfl leh rfl rfl rfl rfl rfl rfl (fun r h' hR => ?_)
  obtain ⟨rfl, rfl⟩ := hR
  refine ⟨rfl, rfl, ?_⟩
  repeat' (first | refine sT ?_ | refine sQ ?_ ?_ | intro hc | exact trivial)
  exact jK rfl ⟨rfl, rfl⟩
 obtain ⟨p1, p2, p3, p4⟩ := h.pos hh
 have hst := h.st _ p2
 have c3 := QY l B i p1 p2
 have e2 : jc B i t = { B with all := B.all.set (qh B i) (qn t (B.all.getD (qh B i) default)) } := by rw [jc, if_pos hh]; rfl
 rw [e2]
 rw [hh] at c2
 generalize qh B i = p at *
 repeat' (first | refine sT ?_ | refine sQ ?_ ?_ | intro hc | exact trivial)
 refine jL (fun i => ρi i) (c2) rfl rfl leh rfl rfl rfl rfl rfl rfl (fun r h' hR => ?_)
 obtain ⟨rfl, rfl⟩ := hR
 refine ⟨rfl, rfl, ?_⟩
 repeat' (first | refine sT ?_ | refine sQ ?_ ?_ | intro hc | exact trivial)
 refine jL (fun i => ρi i) (c3) rfl rfl leh rfl rfl rfl rfl rfl rfl (fun r h' hR => ?_)
 obtain ⟨rfl, rfl⟩ := hR
 refine ⟨rfl, rfl, ?_⟩
 by_cases hz : (B.all.getD p default).steps = 0
 ·have hs1 : (B.all.set p { B.all.getD p default with start := inT t }).getD p default = { B.all.getD p default with start := inT t } := by rw [vS p p2, if_pos rfl]
  have hln : (B.all.set p { B.all.getD p default with start := inT t }).length = B.all.length := List.length_set
  have e3 : ((B.all.set p { B.all.getD p default with start := inT t }).set p { (B.all.set p { B.all.getD p default with start := inT t }).getD p default with steps := (B.all.getD p default).steps + 1 }) = B.all.set p (qn t (B.all.getD p default)) := by rw [List.set_set, hs1, qn, if_pos hz]
  repeat' (first | refine sA ?_ | ((first | apply kM | apply kN); (iterate 3 (· exact rfl)); (· first | (show Y _ ⟨_, .load _ _, _, _, _, _⟩ _ _ _; first | exact jn hs1))) | refine sY ?_ | refine sC (c1) ?_ | refine sG ?_ | refine sQ ?_ ?_ | intro hc | exact trivial)
  all_goals first | (exfalso; omega) | skip
  (refine yc (x' := { B.all.getD p default with start := inT t }) rfl rfl rfl rfl rfl rfl rfl rfl rfl ?_ rfl rfl rfl ?_; (· (first | omega | ((try simp only [List.length_set, List.length_cons, List.length_nil, List.length_append, List.length_map]) <;> omega))))
  repeat' (first | refine sA ?_ | ((first | apply kM | apply kN); (iterate 3 (· exact rfl)); (· first | (show Y _ ⟨_, .load _ _, _, _, _, _⟩ _ _ _; first | exact jn hs1))) | refine sY ?_ | refine sC (c1) ?_ | refine sG ?_ | refine sQ ?_ ?_ | intro hc | exact trivial)
  (refine yc (x' := { (B.all.set p { B.all.getD p default with start := inT t }).getD p default with steps := (B.all.getD p default).steps + 1 }) rfl rfl rfl rfl rfl rfl rfl rfl rfl ?_ rfl rfl rfl ?_; (· (first | omega | ((try simp only [List.length_set, List.length_cons, List.length_nil, List.length_append, List.length_map]) <;> omega))))
  repeat' (first | refine sT ?_ | refine sQ ?_ ?_ | intro hc | exact trivial)
  rw [e3]
  exact JU (h' := ldH l { B with all := B.all.set p (qn t (B.all.getD p default)) }) rfl leh ⟨rfl, rfl⟩
 ·have e3 : B.all.set p { B.all.getD p default with steps := (B.all.getD p default).steps + 1 } = B.all.set p (qn t (B.all.getD p default)) := by rw [qn, if_neg hz]
  repeat' (first | refine sT ?_ | refine sC (c1) ?_ | refine sQ ?_ ?_ | intro hc | exact trivial)
  all_goals first | (exfalso; omega) | skip
  (refine yc (x' := { B.all.getD p default with steps := (B.all.getD p default).steps + 1 }) rfl rfl rfl rfl rfl rfl rfl rfl rfl ?_ rfl rfl rfl ?_; (· (first | omega | ((try simp only [List.length_set, List.length_cons, List.length_nil, List.length_append, List.length_map]) <;> omega))))
  repeat' (first | refine sT ?_ | refine sQ ?_ ?_ | intro hc | exact trivial)
  rw [e3]
  exact JU (h' := ldH l { B with all := B.all.set p (qn t (B.all.getD p default)) }) rfl leh ⟨rfl, rfl⟩
set_option maxHeartbeats 4000000 in
theorem j53 (l : List Task) (B : Bk) (n : Nat) (h : GoodB l n B) (hn : n <= 100000) (i t : Int) : FnH Tryz.prog 83 [.ptr 0 0, .int .i64 i, .int .i64 t] (ldH l B)
  (fun r h' => r = .tup [.agg (vX (if jm B.act i then vQ t (jH B i) else default)), .bool (jm B.act i)] ∧ h' = ldH l (vk B i t)) := by
 refine FnH.drop' (qo Tryz.func83 (j5 (by kernel_rfl)) rfl rfl ?_)
 have c1 := QH t
 have c2 := QL l B h.act i
 cases hh : jm B.act i
 case false =>
  have e2 : vk B i t = B := by rw [vk, if_neg (by rw [hh]; exact Bool.false_ne_true)]
  rw [e2]
  rw [hh] at c2
  repeat' (first | refine sA ?_ | (show O _ _ _ _ _ _ _; first | refine jR (id := 8) rfl rfl rfl rfl rfl rfl rfl ?_) | refine sY ?_ | refine sG ?_ | refine sQ ?_ ?_ | intro hc | exact trivial)
  refine jL (fun i => ρi i) (c2) rfl rfl leh rfl rfl rfl rfl rfl rfl (fun r h' hR => ?_)
  obtain ⟨rfl, rfl⟩ := hR
  refine ⟨rfl, rfl, ?_⟩
  repeat' (first | refine sT ?_ | refine sQ ?_ ?_ | intro hc | exact trivial)
  exact jK rfl ⟨ldH l B, leh, rfl, rfl⟩
 obtain ⟨p1, p2, p3, p4⟩ := h.pos hh
 have c3 := QY l B i p1 p2
 have hd := j52 B.act h.act i
 have e2 : vk B i t = ⟨B.all.set (qh B i) (vQ t (B.all.getD (qh B i) default)), Js B.now i, B.cnt, zh B.act i, B.overs⟩ := by rw [vk, if_pos hh]; rfl
 rw [e2, if_pos rfl, jH]
 rw [hh] at c2
 have ht := zk t
 generalize qh B i = p at *
 have hs : (B.all.set p (vQ t (B.all.getD p default))).getD p default = vQ t (B.all.getD p default) := by rw [vS p p2, if_pos rfl]
 have hln : (B.all.set p (vQ t (B.all.getD p default))).length = B.all.length := List.length_set
 repeat' (first | refine sA ?_ | (show O _ _ _ _ _ _ _; first | refine jR (id := 8) rfl rfl rfl rfl rfl rfl rfl ?_) | refine sY ?_ | refine sG ?_ | refine sQ ?_ ?_ | intro hc | exact trivial)
 refine jL (fun i => ρi i) (c2) rfl rfl leh rfl rfl rfl rfl rfl rfl (fun r h' hR => ?_)
 obtain ⟨rfl, rfl⟩ := hR
 refine ⟨rfl, rfl, ?_⟩
 repeat' (first | refine sT ?_ | refine sQ ?_ ?_ | intro hc | exact trivial)
 refine jL (fun i => ρi i) (c3) rfl rfl leh rfl rfl rfl rfl rfl rfl (fun r h' hR => ?_)
 obtain ⟨rfl, rfl⟩ := hR
 refine ⟨rfl, rfl, ?_⟩
 repeat' (first | refine sT ?_ | refine sC (c1) ?_ | refine sC (hd) ?_ | refine sQ ?_ ?_ | intro hc | exact trivial)
 (refine yc (x' := vQ t (B.all.getD p default)) rfl rfl rfl rfl rfl rfl rfl rfl rfl ?_ rfl rfl rfl ?_; (· (first | omega | ((try simp only [List.length_set, List.length_cons, List.length_nil, List.length_append, List.length_map]) <;> omega))))
 repeat' (first | refine sA ?_ | ((first | apply kM | apply kN); (iterate 3 (· exact rfl)); (· first | (show Y _ ⟨_, .load _ _, _, _, _, _⟩ _ _ _; first | exact jn hs))) | refine sY ?_ | refine sC (hd) ?_ | refine sG ?_ | refine sQ ?_ ?_ | intro hc | exact trivial)
 refine j5S (j1f rfl rfl rfl rfl rfl) rfl rfl rfl ?_
 repeat' (first | refine sA ?_ | ((first | apply kM | apply kN); (iterate 3 (· exact rfl)); (· first | (show Y _ ⟨_, .load _ _, _, _, _, _⟩ _ _ _; first | exact jn hs))) | refine sY ?_ | refine sG ?_ | refine sQ ?_ ?_ | intro hc | exact trivial)
 exact jK rfl ⟨ldH l ⟨B.all.set p (vQ t (B.all.getD p default)), Js B.now i, B.cnt, zh B.act i, B.overs⟩, leh, rfl, rfl⟩
theorem VF (l : List Task) (B : Bk) : FnH Tryz.prog 42 [.ptr 0 0] (ldH l B) (fun r h' => r = .int .u64 B.act ∧ h' = ldH l B) := by
 refine qo Tryz.func42 (j5 (by kernel_rfl)) rfl rfl ?_
 repeat' (first | refine sT ?_ | refine sQ ?_ ?_ | intro hc | exact trivial)
 exact jK rfl ⟨rfl, rfl⟩
theorem XY (l : List Task) (B : Bk) (n : Nat) (h : GoodB l n B) (i : Int) : FnH Tryz.prog 44 [.ptr 0 0, .int .i64 i] (ldH l B)
  (fun r h' => r = .tup [.agg (vX (if jm B.act i then jH B i else default)), .bool (jm B.act i)] ∧ h' = ldH l B) := by
 refine FnH.drop' (qo Tryz.func44 (j5 (by kernel_rfl)) rfl rfl ?_)
 have c2 := QL l B h.act i
 cases hh : jm B.act i
 case false =>
  rw [hh] at c2
  repeat' (first | refine sA ?_ | (show O _ _ _ _ _ _ _; first | refine jR (id := 8) rfl rfl rfl rfl rfl rfl rfl ?_) | refine sY ?_ | refine sG ?_ | refine sQ ?_ ?_ | intro hc | exact trivial)
  refine jL (fun i => ρi i) (c2) rfl rfl leh rfl rfl rfl rfl rfl rfl (fun r h' hR => ?_)
  obtain ⟨rfl, rfl⟩ := hR
  refine ⟨rfl, rfl, ?_⟩
  repeat' (first | refine sT ?_ | refine sQ ?_ ?_ | intro hc | exact trivial)
  exact jK rfl ⟨ldH l B, leh, rfl, rfl⟩
 obtain ⟨p1, p2, p3, p4⟩ := h.pos hh
 have c3 := QY l B i p1 p2
 rw [if_pos rfl, jH]
 rw [hh] at c2
 generalize qh B i = p at *
 repeat' (first | refine sA ?_ | (show O _ _ _ _ _ _ _; first | refine jR (id := 8) rfl rfl rfl rfl rfl rfl rfl ?_) | refine sY ?_ | refine sG ?_ | refine sQ ?_ ?_ | intro hc | exact trivial)
 refine jL (fun i => ρi i) (c2) rfl rfl leh rfl rfl rfl rfl rfl rfl (fun r h' hR => ?_)
 obtain ⟨rfl, rfl⟩ := hR
 refine ⟨rfl, rfl, ?_⟩
 repeat' (first | refine sT ?_ | refine sQ ?_ ?_ | intro hc | exact trivial)
 refine jL (fun i => ρi i) (c3) rfl rfl leh rfl rfl rfl rfl rfl rfl (fun r h' hR => ?_)
 obtain ⟨rfl, rfl⟩ := hR
 refine ⟨rfl, rfl, ?_⟩
 repeat' (first | refine sA ?_ | ((first | apply kM | apply kN); (iterate 3 (· exact rfl)); (· first | (show Y _ ⟨_, .load _ _, _, _, _, _⟩ _ _ _; first | exact jn rfl))) | refine sY ?_ | refine sG ?_ | refine sQ ?_ ?_ | intro hc | exact trivial)
 exact jK rfl ⟨ldH l B, leh, rfl, rfl⟩
theorem j2K {B : Bk} {t : Int} {ks : List Int} {k : Nat} (h : wh t (jH (jN B t ks k).2 (ks.getD k default)) = true) :
  jN B t ks (k + 1) = ((jN B t ks k).1 ++ [ks.getD k default], yz (jN B t ks k).2 (ks.getD k default) (vZ (jH (jN B t ks k).2 (ks.getD k default)))) := by
 rw [jN]; exact if_pos h
theorem j4W {B : Bk} {t : Int} {ks : List Int} {k : Nat} (h : ¬ wh t (jH (jN B t ks k).2 (ks.getD k default)) = true) : jN B t ks (k + 1) = ((jN B t ks k).1, (jN B t ks k).2) := by
 rw [jN]; exact if_neg h
theorem Z8 {m : Nat} {k : Nat} (h : k < (jV m).length) : jm m ((jV m).getD k default) = true := by
 rw [vx, decide_eq_true_eq]; exact qN h
set_option maxHeartbeats 4000000 in
theorem j3W (l : List Task) (B : Bk) (n : Nat) (h : GoodB l n B) (hn : n <= 100000) (t : Int) : FnH Tryz.prog 43 [.ptr 0 0, .int .i64 t] (ldH l B ++ [(7, .sem (qT tabK))])
  (fun r h' => r = .lst 1 ((jN B t (jV B.act) (jV B.act).length).1.map eI) ∧ h' = ldH l (jN B t (jV B.act) (jV B.act).length).2 ++ [(7, .sem (qT tabK))]) := by
 refine FnH.drop' (qo Tryz.func43 (j5 (by kernel_rfl)) rfl rfl ?_)
 have c1 := QH t
 have c4 := j2E B.act h.act
 have hl64 := J9 B.act
 repeat' (first | refine sT ?_ | refine sQ ?_ ?_ | intro hc | exact trivial)
 refine jL (fun i => ρi i) (VF l B) rfl rfl leh rfl rfl rfl rfl rfl rfl (fun r h' hR => ?_)
 obtain ⟨rfl, rfl⟩ := hR
 refine ⟨rfl, rfl, ?_⟩
 repeat' (first | refine sA ?_ | refine sY ?_ | ((first | apply kM | apply kN); (iterate 3 (· exact rfl)); (· first | exact Y.mk (xU (id := 7) c4 rfl rfl))) | refine sG ?_ | refine sQ ?_ ?_ | intro hc | exact trivial)
 refine va (vN eI (t := 5) rfl 10 3 1 (by omega) rfl) ?_
 refine jk (fun k : Nat => ([(0, .ptr 0 0), (1, .int .i64 t), (5, .own 10), (11, .lst 1 ((jV B.act).map eI)), (12, .int .i64 (jV B.act).length), (13, .int .i64 k)], ldH l (jN B t (jV B.act) k).2 ++ [(10, .row 3 1 ((jN B t (jV B.act) k).1.map eI)), (7, .sem (qT tabK))])) (fun k => k <= (jV B.act).length) (fun k => (jV B.act).length - k) 0 (Nat.zero_le _) les leh (fun k hk => ?_)
 obtain ⟨g1, g2, g3⟩ := h.late t (jV B.act) k
 rcases Nat.lt_or_eq_of_le hk with hkl | hkl
 ·have hh : jm (jN B t (jV B.act) k).2.act ((jV B.act).getD k default) = true := by rw [g2]; exact Z8 hkl
  obtain ⟨i, hi⟩ : ∃ i, (jV B.act).getD k default = i := ⟨_, rfl⟩
  have ey := @j2K B t (jV B.act) k
  have en := @j4W B t (jV B.act) k
  rw [hi] at hh
  rw [hi] at ey
  rw [hi] at en
  generalize (jN B t (jV B.act) k).2 = B2 at *
  generalize (jN B t (jV B.act) k).1 = L2 at *
  obtain ⟨p1, p2, p3, p4⟩ := g1.pos hh
  have c3 := QY l B2 i p1 p2
  obtain ⟨j, hj⟩ : ∃ j, B2.all.getD (qh B2 i) default = j := ⟨_, rfl⟩
  have ej : jH B2 i = j := hj
  rw [ej] at ey en
  rw [yz] at ey
  generalize qh B2 i = p at *
  repeat' (first | refine sA ?_ | ((first | apply kM | apply kN); (iterate 3 (· exact rfl)); (· first | (show Y _ ⟨_, .indexAddr _ _ _, _, _, _, _⟩ _ _ _; first | exact Y.mk (qe (hi) rfl rfl rfl rfl rfl (by omega))))) | refine sY ?_ | refine sG ?_ | refine sQ ?_ ?_ | intro hc | exact trivial)
  refine jL (fun i => ρi i) (c3) rfl rfl leh rfl rfl rfl rfl rfl rfl (fun r h' hR => ?_)
  obtain ⟨rfl, rfl⟩ := hR
  refine ⟨rfl, rfl, ?_⟩
  repeat' (first | refine sA ?_ | ((first | apply kM | apply kN); (iterate 3 (· exact rfl)); (· first | (show Y _ ⟨_, .load _ _, _, _, _, _⟩ _ _ _; first | exact jn hj))) | refine sY ?_ | refine sC (c1) ?_ | refine sG ?_ | refine sQ ?_ ?_ | intro hc | exact trivial)
  ·have hq : wh t j = true := by rw [wh, show j.missed = false by assumption, decide_eq_true (show j.deadline <= inT t by assumption)]; rfl
   have ey := ey hq
   subst hj
   (refine yc (x' := vZ (B2.all.getD p default)) rfl rfl rfl rfl rfl rfl rfl rfl rfl ?_ rfl rfl rfl ?_; (· (first | omega | ((try simp only [List.length_set, List.length_cons, List.length_nil, List.length_append, List.length_map]) <;> omega))))
   repeat' (first | refine sT ?_ | refine sQ ?_ ?_ | intro hc | exact trivial)
   (refine v7 (id := 10) (ys := [i]) (by_ := 8) rfl rfl rfl rfl rfl rfl rfl rfl rfl rfl (fun _ _ => rfl) ?_ ?_ rfl rfl rfl rfl rfl ?_; (· (first | omega | ((try simp only [List.length_cons, List.length_nil, List.length_append, List.length_map]) <;> omega))); (· (first | omega | ((try simp only [List.length_cons, List.length_nil, List.length_append, List.length_map]) <;> omega))))
   repeat' (first | refine sT ?_ | refine sQ ?_ ?_ | intro hc | exact trivial)
   exact ⟨k + 1, by omega, by omega, by simp only [ey]; exact les, by simp only [ey]; exact leh⟩
  ·have hq : ¬ wh t j = true := by rw [wh]; intro e; simp at e; omega
   have en := en hq
   exact ⟨k + 1, by omega, by omega, by simp only [en]; exact les, by simp only [en]; exact leh⟩
  ·have hq : ¬ wh t j = true := by rw [wh]; intro e; simp_all
   have en := en hq
   exact ⟨k + 1, by omega, by omega, by simp only [en]; exact les, by simp only [en]; exact leh⟩
 ·subst hkl
  repeat' (first | refine sT ?_ | refine sQ ?_ ?_ | intro hc | exact trivial)
  refine ww (fun _ => jf (t := 4) rfl rfl rfl) ?_
  exact jK rfl ⟨ldH l (jN B t (jV B.act) (jV B.act).length).2 ++ [(7, .sem (qT tabK))], leh, rfl, rfl⟩
theorem Yu (l : List Task) (hn : l.length <= 1000000) : Fn Tryz.prog 35 [.lst 7 (l.map jJ)] (.lst 7 (l.map jJ)) := by
 refine fnb Tryz.func35 (j5 (by kernel_rfl)) rfl rfl rfl ?_
 repeat' (first | refine sT ?_ | refine sQ ?_ ?_ | intro hc | exact trivial)
 refine j0H rfl rfl rfl rfl rfl rfl rfl (fun b hb => ?_)
 cases b
 ·repeat' (first | refine sA ?_ | ((first | apply kM | apply kN); (iterate 3 (· exact rfl)); (· first | exact yag)) | refine sG ?_ | refine sQ ?_ ?_ | intro hc | exact trivial)
  refine VM (f := jJ) (l := []) (id := 10) (sz := 7) rfl rfl rfl rfl rfl rfl rfl rfl rfl rfl rfl rfl rfl rfl ?_
  repeat' (first | refine sT ?_ | refine sQ ?_ ?_ | intro hc | exact trivial)
  (refine v7 (id := 10) (ys := l) (by_ := 72) rfl rfl rfl rfl rfl rfl rfl rfl rfl rfl (fun _ _ => rfl) ?_ ?_ rfl rfl rfl rfl rfl ?_; (· (first | omega | ((try simp only [List.length_cons, List.length_nil, List.length_append, List.length_map]) <;> omega))); (· (first | omega | ((try simp only [List.length_cons, List.length_nil, List.length_append, List.length_map]) <;> omega))))
  repeat' (first | refine sT ?_ | refine sQ ?_ ?_ | intro hc | exact trivial)
  refine ww (fun _ => jf (t := 2) rfl rfl rfl) ?_
  exact jK rfl rfl
 ·have h0 : l = [] := by simpa using hb rfl
  subst h0
  repeat' (first | refine sT ?_ | refine sQ ?_ ?_ | intro hc | exact trivial)
  refine ww (fun _ => V8 7 (t := 2) rfl) ?_
  exact jK rfl rfl
def Yk (l : List Task) (m : Int) : Bool := decide ((l.length : Int) <= m) && l.all fun t => decide (t.code.length <= 200)
theorem j5v (l : List Task) (m : Int) (hm : m <= 1000000) : Fn Tryz.prog 6 [.lst 7 (l.map jJ), .int .i64 m] (.bool (Yk l m)) := by
 refine fnb Tryz.func6 (j5 (by kernel_rfl)) rfl rfl rfl ?_
 by_cases hlm : (l.length : Int) <= m
 ·repeat' (first | refine sT ?_ | refine sQ ?_ ?_ | intro hc | exact trivial)
  all_goals first | (exfalso; omega) | skip
  refine jk (fun k : Nat => ([(11, .lst 7 (l.map jJ)), (12, .int .i64 l.length), (13, .int .i64 k)], [])) (fun k => k <= l.length ∧ ∀ j, j < k -> (l.getD j default).code.length <= 200) (fun k => l.length - k) 0 ⟨Nat.zero_le _, fun j h => absurd h (Nat.not_lt_zero _)⟩ les leh (fun k hk => ?_)
  obtain ⟨hk, hp⟩ := hk
  repeat' (first | refine sA ?_ | (show O _ _ _ _ _ _ _; first | refine jR (id := 16) rfl rfl rfl rfl rfl rfl rfl ?_) | refine sY ?_ | refine sG ?_ | refine sQ ?_ ?_ | intro hc | exact trivial)
  ·refine jK rfl (congrArg AV.bool ?_)
   symm
   rw [Yk, Bool.and_eq_false_iff]
   refine .inr (List.all_eq_false.2 ⟨l.getD k default, qN (by omega), ?_⟩)
   simp only [decide_eq_true_eq]; omega
  ·exact ⟨k + 1, ⟨by omega, fun j hj => by
    by_cases e : j = k
    ·subst e; omega
    ·exact hp j (by omega)⟩, by omega, les, leh⟩
  ·obtain rfl : k = l.length := by omega
   refine jK rfl (congrArg AV.bool ?_)
   symm
   rw [Yk, Bool.and_eq_true]
   refine ⟨decide_eq_true hlm, List.all_eq_true.2 fun t ht => ?_⟩
   obtain ⟨j, hj, rfl⟩ := List.getElem_of_mem ht
   have := hp j hj
   simpa [hj] using this
 ·repeat' (first | refine sT ?_ | refine sQ ?_ ?_ | intro hc | exact trivial)
  all_goals first | (exfalso; omega) | skip
  exact jK rfl (congrArg AV.bool (by rw [Yk, decide_eq_false hlm]; rfl))
def LeV0 (x y : AV) : Prop := ∀ σ v, VR0 σ x v -> VR0 σ y v
theorem LeV0.refl (x : AV) : LeV0 x x := fun _ _ h => h
theorem LeV0.nils (sz : Nat) : LeV0 .nils (.lst sz []) := fun σ v h => by
 cases h; exact .empty sz none 0 (by simp)
theorem LeV0.lst {sz : Nat} {xs ys : List (List AV)} (hl : xs.map (·.length) = ys.map (·.length)) (h : L2 LeV0 xs.flatten ys.flatten) : LeV0 (.lst sz xs) (.lst sz ys) := fun σ v h0 => by
 have hlen : xs.length = ys.length := by have := congrArg List.length hl; simpa using this
 cases h0 with
 | empty _ A cap hc =>
  have : ys = [] := List.eq_nil_of_length_eq_zero (by rw [<- hlen]; rfl)
  subst this
  exact .empty sz A cap hc
 | lst _ _ b off cap g h1 h2 h3 h4 h5 =>
  rw [hlen] at h1 ⊢
  have hx : ∀ (j : Nat) (c : AV), ys.flatten[j]? = some c -> ∃ c', xs.flatten[j]? = some c' ∧ LeV0 c' c := fun j c hc => by
   have hj : j < xs.flatten.length := by rw [h.1]; exact (List.getElem?_eq_some_iff.1 hc).1
   exact ⟨_, List.getElem?_eq_getElem hj, h.2 j _ c (List.getElem?_eq_getElem hj) hc⟩
  refine .lst sz ys b off cap g h1 h2 (fun c hc => ?_) (fun j c hc => ?_) (fun j c hc => ?_)
  ·obtain ⟨i, hi, rfl⟩ := List.getElem_of_mem hc
   have e : (xs.map (·.length))[i]? = (ys.map (·.length))[i]? := by rw [hl]
   have hi' : i < xs.length := by omega
   simp [hi, hi'] at e
   rw [<- e]; exact h3 _ (List.getElem_mem hi')
  ·obtain ⟨c', e1, _⟩ := hx j c hc
   exact h4 j c' e1
  ·obtain ⟨c', e1, e2⟩ := hx j c hc
   exact e2 _ _ (h5 j c' e1)
def j4y : AV -> Bool
 | .lst _ _ | .nils => true
 | _ => false
theorem LeV.of0 {x y : AV} (hx : j4y x = true) (h : LeV0 x y) : LeV x y := fun σ ι v hv => by
 cases hv with
 | base _ _ h0 => exact .base _ _ (h σ v h0)
 | own => cases hx
 | ptr => cases hx
 | eptr => cases hx
 | part => cases hx
 | pptr => cases hx
 | agg => cases hx
 | tup => cases hx
 | fn => cases hx
theorem j6c {sz : Nat} {xs ys : List (List AV)} (hl : xs.map (·.length) = ys.map (·.length) := by rfl) (h : L2 LeV0 xs.flatten ys.flatten := by (simp only [List.flatten, List.map, List.cons_append, List.nil_append]; repeat' (first | exact L2.nil _ | refine L2.cons ?_ ?_ | exact LeV0.refl _ | exact LeV0.nils _ | refine LeV0.lst rfl ?_))) : LeV (.lst sz xs) (.lst sz ys) := LeV.of0 rfl (LeV0.lst hl h)
def YG (l : List Task) : List Task := l.take (min l.length 64)
theorem j1y (l : List Task) : (YG l).length <= 64 ∧ (YG l).length <= l.length := by unfold YG; rw [List.length_take]; omega
theorem j2j (l : List Task) (hl : l.length <= 1000000) : FnH Tryz.prog 36 [.lst 7 (l.map jJ)] [(5, .row 3 1 []), (6, .row 3 1 []), (7, .row 3 1 [])]
  (fun r h' => r = .ptr 5 0 ∧ h' = [(5, .blk 127 [.lst 7 ((YG l).map jJ), .nils, .own 6, .own 7, .int .u64 0, .nils]), (6, mI []), (7, mI [])]) := by
 refine qo Tryz.func36 (j5 (by kernel_rfl)) rfl rfl ?_
 refine wle (s' := [(0, .lst 7 (l.map jJ))]) (h' := []) les (LeH.nil _) ?_
 have hh := j1y l
 have c1 := Yu (YG l) (by omega)
 repeat' (first | refine sT ?_ | refine sQ ?_ ?_ | intro hc | exact trivial)
 refine ole (s' := [(3, .lst 7 (l.map jJ)), (6, .int .i64 (min l.length 64 : Nat))]) (h' := []) les (LeH.nil _) ?_
 repeat' (first | refine sT ?_ | refine sC (c1) ?_ | refine sQ ?_ ?_ | intro hc | exact trivial)
 refine j3t 6 (fun n : Int => AV.int .i64 n) rfl rfl rfl rfl ?_
 repeat' (first | refine sT ?_ | refine sQ ?_ ?_ | intro hc | exact trivial)
 refine j3t 7 (fun n : Int => AV.int .i64 n) rfl rfl rfl rfl ?_
 repeat' (first | refine sA ?_ | (show O _ _ _ _ _ _ _; first | (show O _ _ _ _ (⟨_, .box _ _, _, _, _, _⟩ :: _) _ _; first | refine wx (id := 5) rfl rfl rfl rfl rfl rfl rfl rfl ?_)) | ((first | apply kM | apply kN); (iterate 3 (· exact rfl)); (· first | exact yab)) | refine sG ?_ | refine sQ ?_ ?_ | intro hc | exact trivial)
 exact JU (h' := [(5, .blk 127 [.lst 7 ((YG l).map jJ), .nils, .own 6, .own 7, .int .u64 0, .nils]), (6, mI []), (7, mI [])]) rfl leh ⟨rfl, rfl⟩
end Go.Proofs.YtfjoaeghnfkdlaaGreatDoor
