/- Releases of a run, in plain: what is let through, what is refused, and that it lies a period apart. No condition. -/
import Derived.Test.YtfjoaeghnfkdlaaRel3
import Derived.Test.YtfjoaeghnfkdlaaStDue
namespace Go.Proofs.Ytfjoaeghnfkdlaa
set_option linter.unusedSimpArgs false
set_option linter.unusedVariables false
set_option maxRecDepth 100000
set_option linter.unusedSimpArgs false
set_option linter.unusedVariables false
open Go.RowKit
--BEGIN
/-- Dues in order. -/
def ltD (a b : Due) : Bool := decide (a.at_ < b.at_ ∨ a.at_ = b.at_ ∧ a.task < b.task)
def leD (a b : Due) : Prop := a.at_ < b.at_ ∨ a.at_ = b.at_ ∧ a.task ≤ b.task
theorem leD_anti {a b : Due} (h1 : leD a b) (h2 : leD b a) : a = b := by
  apply Due.ext_
  unfold leD at h1 h2
  omega
def putD : List Due → Due → List Due
  | [], d => [d]
  | x :: r, d => if ltD d x then d :: x :: r else x :: putD r d
def sortD (l : List Due) : List Due := l.foldl putD []
theorem putD_at : ∀ (l : List Due) (d : Due) (k : Nat), (∀ j, j < k → ltD d (l.getD j default) = false) → (k = l.length ∨ k < l.length ∧ ltD d (l.getD k default) = true) → putD l d = l.take k ++ d :: l.drop k
  | [], d, k, _, h => by
    rcases h with rfl | ⟨h, _⟩
    · rfl
    · simp at h
  | x :: r, d, 0, _, h => by
    rcases h with h | ⟨_, h⟩
    · simp at h
    · rw [putD, if_pos (by simpa using h)]; rfl
  | x :: r, d, k + 1, h1, h => by
    have h0 := h1 0 (by omega)
    simp only [List.getD_cons_zero] at h0
    rw [putD, if_neg (by rw [h0]; exact Bool.false_ne_true), putD_at r d k (fun j hj => by have := h1 (j + 1) (by omega); simpa using this) (by simpa using h)]
    rfl
theorem putD_perm : ∀ (l : List Due) (d : Due), (putD l d).Perm (d :: l)
  | [], d => List.Perm.refl _
  | x :: r, d => by
    rw [putD]
    split
    · exact List.Perm.refl _
    · exact ((putD_perm r d).cons x).trans (List.Perm.swap d x r)
theorem putD_srt : ∀ (l : List Due) (d : Due), l.Pairwise leD → (putD l d).Pairwise leD
  | [], d, _ => by simp [putD]
  | x :: r, d, h => by
    rw [List.pairwise_cons] at h
    rw [putD]
    split
    · rename_i hlt
      simp only [ltD, decide_eq_true_eq] at hlt
      refine List.pairwise_cons.2 ⟨fun y hy => ?_, List.pairwise_cons.2 h⟩
      rcases List.mem_cons.1 hy with rfl | hy
      · unfold leD; omega
      · have := h.1 y hy; unfold leD at *; omega
    · rename_i hlt
      simp only [ltD, decide_eq_true_eq] at hlt
      refine List.pairwise_cons.2 ⟨fun y hy => ?_, putD_srt r d h.2⟩
      rcases List.mem_cons.1 ((putD_perm r d).mem_iff.1 hy) with rfl | hy
      · unfold leD; omega
      · exact h.1 y hy
theorem sortD_fold : ∀ (l a : List Due), a.Pairwise leD → (l.foldl putD a).Perm (l ++ a) ∧ (l.foldl putD a).Pairwise leD
  | [], a, h => ⟨List.Perm.refl _, h⟩
  | x :: l, a, h => by
    obtain ⟨h1, h2⟩ := sortD_fold l (putD a x) (putD_srt a x h)
    refine ⟨h1.trans (((putD_perm a x).append_left l).trans ?_), h2⟩
    exact List.perm_middle
theorem sortD_perm (l : List Due) : (sortD l).Perm l := by simpa [sortD] using (sortD_fold l [] List.Pairwise.nil).1
theorem sortD_srt (l : List Due) : (sortD l).Pairwise leD := (sortD_fold l [] List.Pairwise.nil).2
theorem sortD_eq {l r : List Due} (h1 : r.Perm l) (h2 : r.Pairwise leD) : r = sortD l :=
  List.Perm.eq_of_pairwise (le := leD) (fun a b _ _ h3 h4 => leD_anti h3 h4) h2 (sortD_srt l) (h1.trans (sortD_perm l).symm)
theorem sortD_len (l : List Due) : (sortD l).length = l.length := (sortD_perm l).length_eq
theorem sortD_next (l : List Due) (k : Nat) (h : k < l.length) : sortD (l.take (k + 1)) = putD (sortD (l.take k)) (l.getD k default) := by
  rw [List.take_succ_eq_append_getElem h, sortD, List.foldl_append]
  simp [sortD, h]
/-- A gate. -/
structure Gt where
  per : Int
  last : Int
  op : Bool
instance : Inhabited Gt := ⟨⟨0, 0, false⟩⟩
def perG (t : Task) : Int := if plainB t = true ∧ t.kind = 2 then t.period else 0
def passD (g : Gt) (x : Int) : Bool := decide (0 ≤ x ∧ 1 ≤ g.per) && (!g.op || decide (g.last ≤ x ∧ g.per ≤ x - g.last))
def gates0 (l : List Task) : List Gt := l.map fun t => ⟨perG t, 0, false⟩
structure S27 where
  gs : List Gt
  lt : List Due
  rf : List Due
def okA (ticks : Int) (s : S27) (d : Due) : Bool := decide (0 ≤ d.task ∧ d.task < s.gs.length ∧ d.at_ < ticks) && passD (s.gs.getD d.task.toNat default) d.at_
def stepA (ticks : Int) (s : S27) (d : Due) : S27 := if okA ticks s d then ⟨s.gs.set d.task.toNat ⟨(s.gs.getD d.task.toNat default).per, d.at_, true⟩, s.lt ++ [d], s.rf⟩ else ⟨s.gs, s.lt, s.rf ++ [d]⟩
def timesN (t : Task) (lim : Int) : Nat := if plainB t = true ∧ t.kind = 1 then (ceilZ (lim - t.offset) t.period).toNat else 0
def dueAt (t : Task) (i k : Nat) : Due := ⟨t.offset + k * t.period, i⟩
def letO (t : Task) (i n : Nat) : List Due := (List.range n).map (dueAt t i)
def letT (l : List Task) (lim : Int) (i : Nat) : List Due := (List.range i).flatMap fun j => letO (l.getD j default) j (timesN (l.getD j default) lim)
def runA (l : List Task) (asks : List Due) (ticks : Int) : S27 := asks.foldl (stepA ticks) ⟨gates0 l, letT l ticks l.length, []⟩
def allA (l : List Task) (asks : List Due) (ticks : Int) : List Due × List Due := (sortD (runA l (sortD asks) ticks).lt, (runA l (sortD asks) ticks).rf)
theorem letO_next (t : Task) (i n : Nat) : letO t i (n + 1) = letO t i n ++ [dueAt t i n] := by simp [letO, List.range_succ]
theorem letO_len (t : Task) (i n : Nat) : (letO t i n).length = n := by simp [letO]
theorem letT_next (l : List Task) (lim : Int) (i : Nat) : letT l lim (i + 1) = letT l lim i ++ letO (l.getD i default) i (timesN (l.getD i default) lim) := by simp [letT, List.range_succ]
theorem timesN_pos {t : Task} {lim : Int} (h : plainB t = true) (hk : t.kind = 1) (k : Nat) : k < timesN t lim ↔ t.offset + k * t.period < lim := by
  obtain ⟨_, _, h3, h4, _, _⟩ := plainB_spec h
  rw [timesN, if_pos ⟨h, hk⟩, ceilZ]
  split
  · rename_i hc
    have h5 : 0 ≤ (k : Int) * t.period := Int.mul_nonneg (by omega) (by omega)
    constructor
    · intro h; simp at h
    · intro h; omega
  · rename_i hc
    have h6 := Int.ediv_nonneg (show 0 ≤ lim - t.offset - 1 by omega) (show 0 ≤ t.period by omega)
    have h7 : (k : Int) ≤ (lim - t.offset - 1) / t.period ↔ (k : Int) * t.period ≤ lim - t.offset - 1 := Int.le_ediv_iff_mul_le (by omega)
    omega
theorem timesN_no {t : Task} {lim : Int} (h : ¬(plainB t = true ∧ t.kind = 1)) : timesN t lim = 0 := by rw [timesN, if_neg h]
theorem timesN_le (t : Task) (lim : Int) (m : Nat) (hm : lim ≤ m) : timesN t lim ≤ m := by
  by_cases h : plainB t = true ∧ t.kind = 1
  · have h1 := timesN_pos (lim := lim) h.1 h.2 m
    obtain ⟨_, _, h3, h4, _, _⟩ := plainB_spec h.1
    have h5 : (m : Int) ≤ (m : Int) * t.period := by
      have := Int.mul_le_mul_of_nonneg_left (show (1 : Int) ≤ t.period by omega) (show (0 : Int) ≤ m by omega)
      omega
    omega
  · rw [timesN_no h]; omega
theorem letT_len (l : List Task) (lim : Int) (m : Nat) (hm : lim ≤ m) : ∀ i, (letT l lim i).length ≤ i * m
  | 0 => by simp [letT]
  | i + 1 => by
    have h1 := letT_len l lim m hm i
    have h2 := timesN_le (l.getD i default) lim m hm
    rw [letT_next, List.length_append, letO_len, Nat.add_mul]
    omega
theorem nextZ_at {t : Task} (h : plainB t = true) (hk : t.kind = 1) (k : Nat) (hl : t.offset + k * t.period ≤ 1000000) : nextZ t (t.offset + k * t.period + 1) = t.offset + (k + 1 : Nat) * t.period := by
  obtain ⟨_, _, h3, h4, _, _⟩ := plainB_spec h
  have h5 : 0 ≤ (k : Int) * t.period := Int.mul_nonneg (by omega) (by omega)
  have e1 : ceilZ (t.offset + k * t.period + 1 - t.offset) t.period = k + 1 := by
    rw [ceilZ, if_neg (by omega), show t.offset + k * t.period + 1 - t.offset - 1 = k * t.period by omega, Int.mul_ediv_cancel _ (by omega)]
  have e2 : ((k + 1 : Nat) : Int) * t.period = k * t.period + t.period := by
    rw [show ((k + 1 : Nat) : Int) = (k : Int) + 1 by omega, Int.add_mul, Int.one_mul]
  have e3 : ¬ (t.offset + k * t.period + 1 ≤ t.offset) := by omega
  rw [nextZ, if_pos ⟨h, hk, by omega⟩]
  simp only [if_neg e3]
  rw [e1, show ((k : Int) + 1) * t.period = ((k + 1 : Nat) : Int) * t.period by rfl, e2, if_neg (by omega)]
theorem nextZ_0 {t : Task} (h : plainB t = true) (hk : t.kind = 1) : nextZ t 0 = t.offset := by
  obtain ⟨_, _, h3, h4, _, _⟩ := plainB_spec h
  have e3 : (0 : Int) ≤ t.offset := by omega
  rw [nextZ, if_pos ⟨h, hk, by omega⟩]
  simp only [if_pos e3]
  rw [if_neg (by omega)]
theorem nextZ_no {t : Task} (h : ¬(plainB t = true ∧ t.kind = 1)) (x : Int) : nextZ t x = -1 := by
  rw [nextZ, if_neg fun h' => h ⟨h'.1, h'.2.1⟩]
theorem run_next (l : List Task) (asks : List Due) (ticks : Int) (k : Nat) (h : k < asks.length) : runA l (asks.take (k + 1)) ticks = stepA ticks (runA l (asks.take k) ticks) (asks.getD k default) := by
  rw [List.take_succ_eq_append_getElem h, runA, List.foldl_append]
  simp [runA, h]
theorem step_len (ticks : Int) (s : S27) (d : Due) : (stepA ticks s d).lt.length + (stepA ticks s d).rf.length = s.lt.length + s.rf.length + 1 := by
  unfold stepA; split <;> simp <;> omega
/-- What holds of the gates and of what is let through. -/
structure Inv (l : List Task) (ticks : Int) (s : S27) : Prop where
  len : s.gs.length = l.length
  per : ∀ j, j < l.length → (s.gs.getD j default).per = perG (l.getD j default)
  low : ∀ j, j < l.length → 0 ≤ (s.gs.getD j default).last ∧ ((s.gs.getD j default).op = true → (s.gs.getD j default).last < ticks)
  mem : ∀ d ∈ s.lt, 0 ≤ d.task ∧ d.task < l.length ∧ 0 ≤ d.at_ ∧ d.at_ < ticks ∧ 1 ≤ (l.getD d.task.toNat default).period
  gate : ∀ d ∈ s.lt, 1 ≤ perG (l.getD d.task.toNat default) → (s.gs.getD d.task.toNat default).op = true ∧ d.at_ ≤ (s.gs.getD d.task.toNat default).last
  apart : s.lt.Pairwise fun a b => a.task = b.task → a.at_ + (l.getD a.task.toNat default).period ≤ b.at_
theorem perG_le (t : Task) : perG t = 0 ∨ perG t = t.period ∧ 1 ≤ t.period ∧ t.period ≤ 1048576 ∧ plainB t = true ∧ t.kind = 2 := by
  unfold perG
  split
  · rename_i h; have := plainB_spec h.1; exact .inr ⟨rfl, by omega, by omega, h.1, h.2⟩
  · exact .inl rfl
theorem inv0 (l : List Task) (ticks : Int) : Inv l ticks ⟨gates0 l, letT l ticks l.length, []⟩ := by
  have hg : ∀ j, j < l.length → (gates0 l).getD j default = ⟨perG (l.getD j default), 0, false⟩ := fun j hj => by simp [gates0, hj]
  have hm : ∀ j d, d ∈ letO (l.getD j default) j (timesN (l.getD j default) ticks) → d.task = j ∧ ∃ k, d.at_ = (l.getD j default).offset + (k : Nat) * (l.getD j default).period ∧ (plainB (l.getD j default) = true ∧ (l.getD j default).kind = 1) ∧ d.at_ < ticks := fun j d hd => by
    obtain ⟨k, hk, rfl⟩ := List.mem_map.1 hd
    rw [List.mem_range] at hk
    by_cases hp : plainB (l.getD j default) = true ∧ (l.getD j default).kind = 1
    · exact ⟨rfl, k, rfl, hp, (timesN_pos hp.1 hp.2 k).1 hk⟩
    · rw [timesN_no hp] at hk; omega
  have hmm : ∀ d, d ∈ letT l ticks l.length → ∃ j, j < l.length ∧ d ∈ letO (l.getD j default) j (timesN (l.getD j default) ticks) := fun d hd => by
    obtain ⟨j, hj, hd⟩ := List.mem_flatMap.1 hd
    exact ⟨j, List.mem_range.1 hj, hd⟩
  refine ⟨by simp [gates0], fun j hj => by rw [hg j hj], fun j hj => by rw [hg j hj]; exact ⟨Int.le_refl 0, fun h => by cases h⟩, fun d hd => ?_, fun d hd h1 => ?_, ?_⟩
  · obtain ⟨j, hj, hd⟩ := hmm d hd
    obtain ⟨e1, k, e2, hp, e3⟩ := hm j d hd
    obtain ⟨_, _, h3, h4, _, _⟩ := plainB_spec hp.1
    have h5 : 0 ≤ (k : Int) * (l.getD j default).period := Int.mul_nonneg (by omega) (by omega)
    rw [e1, show ((j : Int).toNat) = j by omega]
    exact ⟨by omega, by omega, by omega, e3, h3.1⟩
  · exfalso
    obtain ⟨j, hj, hd⟩ := hmm d hd
    obtain ⟨e1, k, e2, hp, e3⟩ := hm j d hd
    rw [e1, show ((j : Int).toNat) = j by omega] at h1
    rcases perG_le (l.getD j default) with h2 | h2
    · omega
    · omega
  · show (letT l ticks l.length).Pairwise _
    rw [letT, List.pairwise_flatMap]
    refine ⟨fun j hj => ?_, List.pairwise_lt_range.imp_of_mem fun {a b} ha hb hab x hx y hy he => ?_⟩
    · by_cases hp : plainB (l.getD j default) = true ∧ (l.getD j default).kind = 1
      · obtain ⟨_, _, h3, h4, _, _⟩ := plainB_spec hp.1
        rw [letO, List.pairwise_map]
        refine List.pairwise_lt_range.imp fun {a b} hab _ => ?_
        simp only [dueAt]
        rw [show ((j : Int).toNat) = j by omega]
        have h5 := Int.mul_le_mul_of_nonneg_right (show ((a : Int) + 1) ≤ b by omega) (show 0 ≤ (l.getD j default).period by omega)
        rw [Int.add_mul, Int.one_mul] at h5
        omega
      · rw [timesN_no hp]; simp [letO]
    · have h1 := (hm a x hx).1
      have h2 := (hm b y hy).1
      omega
theorem inv_step {l : List Task} {ticks : Int} {s : S27} (h : Inv l ticks s) (d : Due) : Inv l ticks (stepA ticks s d) := by
  unfold stepA
  split
  case isFalse => exact ⟨h.len, h.per, h.low, h.mem, h.gate, h.apart⟩
  rename_i hok
  simp only [okA, passD, Bool.and_eq_true, decide_eq_true_eq, Bool.or_eq_true, Bool.not_eq_true'] at hok
  obtain ⟨⟨h1, h2, h3⟩, ⟨h4, h5⟩, h6⟩ := hok
  rw [h.len] at h2
  obtain ⟨j, hj⟩ : ∃ j : Nat, d.task = j := ⟨d.task.toNat, by omega⟩
  have hjn : d.task.toNat = j := by omega
  have hjl : j < l.length := by omega
  rw [hjn] at h5 h6 ⊢
  have hp := h.per j hjl
  rw [hp] at h5
  have hset : ∀ i, i < l.length → (s.gs.set j ⟨(s.gs.getD j default).per, d.at_, true⟩).getD i default = if i = j then ⟨(s.gs.getD j default).per, d.at_, true⟩ else s.gs.getD i default := fun i hi => by
    have hi' : i < s.gs.length := by rw [h.len]; exact hi
    simp only [List.getD_eq_getElem?_getD, List.getElem?_set, hi']
    split
    · rename_i e; subst e; simp [hi']
    · rename_i e; rw [if_neg (fun e' => e e'.symm)]
  have hpp : 1 ≤ (l.getD j default).period ∧ perG (l.getD j default) = (l.getD j default).period := by
    rcases perG_le (l.getD j default) with h8 | h8
    · omega
    · exact ⟨h8.2.1, h8.1⟩
  refine ⟨by simp [h.len], fun i hi => ?_, fun i hi => ?_, fun e he => ?_, fun e he h8 => ?_, ?_⟩
  · simp only
    rw [hset i hi]
    split
    · rename_i e; subst e; exact hp
    · exact h.per i hi
  · simp only
    rw [hset i hi]
    split
    · exact ⟨h4, fun _ => h3⟩
    · exact h.low i hi
  · simp only at he
    rcases List.mem_append.1 he with he | he
    · exact h.mem e he
    · rw [List.mem_singleton] at he
      subst he
      rw [hjn]
      exact ⟨h1, by omega, h4, h3, hpp.1⟩
  · simp only at he ⊢
    rcases List.mem_append.1 he with he | he
    · have h9 := h.mem e he
      have h10 := h.gate e he h8
      rw [hset _ (by omega)]
      split
      · rename_i e2
        refine ⟨rfl, ?_⟩
        simp only
        rw [e2] at h10
        rcases h6 with h6 | h6
        · rw [h6] at h10; exact absurd h10.1 Bool.false_ne_true
        · omega
      · exact h10
    · rw [List.mem_singleton] at he
      subst he
      rw [hset _ (by omega), if_pos hjn]
      exact ⟨rfl, Int.le_refl _⟩
  · simp only
    refine List.pairwise_append.2 ⟨h.apart, List.pairwise_singleton _ _, fun a ha b hb hab => ?_⟩
    rw [List.mem_singleton] at hb
    subst hb
    rw [hab, hjn]
    have h9 := h.gate a ha (by rw [hab, hjn]; omega)
    rw [hab, hjn] at h9
    rcases h6 with h6 | h6
    · rw [h6] at h9; exact absurd h9.1 Bool.false_ne_true
    · rw [hp] at h6; omega
theorem inv_fold {l : List Task} {ticks : Int} : ∀ (asks : List Due) (s : S27), Inv l ticks s → Inv l ticks (asks.foldl (stepA ticks) s)
  | [], s, h => h
  | d :: r, s, h => inv_fold r _ (inv_step h d)
theorem inv_run (l : List Task) (asks : List Due) (ticks : Int) : Inv l ticks (runA l asks ticks) := inv_fold asks _ (inv0 l ticks)
theorem run_len (l : List Task) (ticks : Int) : ∀ (asks : List Due) (s : S27), (asks.foldl (stepA ticks) s).lt.length + (asks.foldl (stepA ticks) s).rf.length = s.lt.length + s.rf.length + asks.length
  | [], s => rfl
  | d :: r, s => by
    have h1 := run_len l ticks r (stepA ticks s d)
    have h2 := step_len ticks s d
    rw [List.foldl_cons, h1, List.length_cons]
    omega
/-- A task's releases, in order: a period apart. -/
theorem all_apart (l : List Task) (asks : List Due) (ticks : Int) : (allA l asks ticks).1.Pairwise (fun a b => a.task = b.task → a.at_ + (l.getD a.task.toNat default).period ≤ b.at_) ∧ ∀ d ∈ (allA l asks ticks).1, 0 ≤ d.task ∧ d.task < l.length ∧ 0 ≤ d.at_ ∧ d.at_ < ticks ∧ 1 ≤ (l.getD d.task.toNat default).period := by
  have hi := inv_run l (sortD asks) ticks
  have hp := sortD_perm (runA l (sortD asks) ticks).lt
  have hm : ∀ d ∈ (allA l asks ticks).1, 0 ≤ d.task ∧ d.task < l.length ∧ 0 ≤ d.at_ ∧ d.at_ < ticks ∧ 1 ≤ (l.getD d.task.toNat default).period := fun d hd => hi.mem d (hp.mem_iff.1 hd)
  refine ⟨?_, hm⟩
  have h1 : (runA l (sortD asks) ticks).lt.Pairwise fun a b => a.task = b.task → a.at_ + (l.getD a.task.toNat default).period ≤ b.at_ ∨ b.at_ + (l.getD a.task.toNat default).period ≤ a.at_ := hi.apart.imp fun h e => .inl (h e)
  have h2 := hp.symm.pairwise h1 (fun {a b} h e => by have := h e.symm; rw [e]; exact this.symm)
  refine (h2.and (sortD_srt _)).imp_of_mem fun {a b} ha hb ⟨h3, h4⟩ e => ?_
  have h5 := (hm a ha).2.2.2.2
  have h6 := h3 e
  unfold leD at h4
  omega
theorem count_win (p lo hi : Int) : ∀ (L : List Due), L.Pairwise (fun a b => a.at_ + p ≤ b.at_) → ∀ lo, (∀ d ∈ L, lo ≤ d.at_ ∧ d.at_ < hi) → 1 ≤ p → L = [] ∨ (L.length : Int) * p ≤ hi - lo + p - 1
  | [], _, lo, _, _ => .inl rfl
  | x :: r, h, lo, hm, hp => by
    rw [List.pairwise_cons] at h
    have hx := hm x List.mem_cons_self
    refine .inr ?_
    rw [List.length_cons, show ((r.length + 1 : Nat) : Int) = r.length + 1 by omega, Int.add_mul, Int.one_mul]
    rcases count_win p lo hi r h.2 (x.at_ + p) (fun d hd => ⟨h.1 d hd, (hm d (List.mem_cons_of_mem _ hd)).2⟩) hp with rfl | h1
    · simp only [List.length_nil]; omega
    · omega
theorem count_ceil {p lo wide : Int} {L : List Due} (h : L.Pairwise (fun a b => a.at_ + p ≤ b.at_)) (hm : ∀ d ∈ L, lo ≤ d.at_ ∧ d.at_ - lo < wide) (hp : L ≠ [] → 1 ≤ p) (hw : 0 ≤ wide) : (L.length : Int) ≤ ceilZ wide p := by
  cases L with
  | nil =>
    unfold ceilZ
    split
    · simp
    · have := Int.ediv_nonneg (show 0 ≤ wide - 1 by omega) (show 0 ≤ p by omega)
      simp only [List.length_nil]; omega
  | cons x r =>
    have hp := hp (by simp)
    have hx := hm x List.mem_cons_self
    rcases count_win p lo (lo + wide) (x :: r) h lo (fun d hd => ⟨(hm d hd).1, by have := (hm d hd).2; omega⟩) hp with h1 | h1
    · cases h1
    · rw [ceilZ, if_neg (by omega)]
      have h2 : ((x :: r).length : Int) - 1 ≤ (wide - 1) / p := Int.le_ediv_of_mul_le (by omega) (by rw [Int.sub_mul]; omega)
      omega
--END
end Go.Proofs.Ytfjoaeghnfkdlaa
