/- A task's place in the plan, one tick more: plain. No condition. -/
import Derived.Test.YtfjoaeghnfkdlaaGreatDoorB28
import Derived.Test.YtfjoaeghnfkdlaaGreatDoorB15
import Derived.Test.YtfjoaeghnfkdlaaGreatDoorB21
import Derived.Test.YtfjoaeghnfkdlaaGreatDoorB12
import Derived.Test.YtfjoaeghnfkdlaaGreatDoorB23
set_option linter.unusedSimpArgs false
set_option linter.unusedVariables false
set_option maxHeartbeats 1000000
set_option maxRecDepth 100000
namespace Go.Proofs.YtfjoaeghnfkdlaaGreatDoor
open Go.RowKit
theorem j35 {T : List Int} {x v : Int} {τ : Nat} (h : τ < T.length) : (T ++ [x]).set τ v = T.set τ v ++ [x] := by
 rw [List.set_append, if_pos h]
theorem j10 {T : List Int} {x : Int} {τ : Nat} (h : τ < T.length) : (T ++ [x]).getD τ default = T.getD τ default := by
 simp only [List.getD_eq_getElem?_getD, List.getElem?_append, if_pos h]
theorem yV (most : Int) (x : Int) : ∀ (n : Nat) (T : List Int) (j : Job) (τ : Nat), T.length = τ + n ->
  jy most (n + 1) (T ++ [x]) j τ = if (jy most n T j τ).2.steps < most ∧ x = -1 then ((jy most n T j τ).1 ++ [j.task], qH most (jy most n T j τ).2 (τ + n)) else ((jy most n T j τ).1 ++ [x], (jy most n T j τ).2)
 | 0, T, j, τ, h => by
  show (if j.steps < most then (if (T ++ [x]).getD τ default = -1 then ((T ++ [x]).set τ j.task, qH most j τ) else (T ++ [x], j)) else (T ++ [x], j)) = if j.steps < most ∧ x = -1 then (T ++ [j.task], qH most j (τ + 0)) else (T ++ [x], j)
  have e : (T ++ [x]).getD τ default = x := by
   simp only [List.getD_eq_getElem?_getD, List.getElem?_append]; rw [if_neg (by omega)]; simp [show τ - T.length = 0 by omega]
  rw [e]
  by_cases h1 : j.steps < most
  ·rw [if_pos h1]
   by_cases h2 : x = -1
   ·rw [if_pos h2, if_pos ⟨h1, h2⟩]
    congr 1
    rw [List.set_append, if_neg (by omega), show τ - T.length = 0 by omega]; rfl
   ·rw [if_neg h2, if_neg (fun h => h2 h.2)]
  ·rw [if_neg h1, if_neg (fun h => h1 h.1)]
 | n + 1, T, j, τ, h => by
  have hτ : τ < T.length := by omega
  have u1 : jy most (n + 1 + 1) (T ++ [x]) j τ = if j.steps < most then (if (T ++ [x]).getD τ default = -1 then jy most (n + 1) ((T ++ [x]).set τ j.task) (qH most j τ) (τ + 1) else jy most (n + 1) (T ++ [x]) j (τ + 1)) else (T ++ [x], j) := rfl
  have u2 : jy most (n + 1) T j τ = if j.steps < most then (if T.getD τ default = -1 then jy most n (T.set τ j.task) (qH most j τ) (τ + 1) else jy most n T j (τ + 1)) else (T, j) := rfl
  rw [u1, u2, j10 hτ]
  by_cases h1 : j.steps < most
  ·rw [if_pos h1, if_pos h1]
   by_cases h2 : T.getD τ default = -1
   ·rw [if_pos h2, if_pos h2, j35 hτ, yV most x n (T.set τ j.task) (qH most j τ) (τ + 1) (by rw [List.length_set]; omega)]
    rw [show τ + 1 + n = τ + (n + 1) by omega]
    rfl
   ·rw [if_neg h2, if_neg h2, yV most x n T j (τ + 1) (by omega)]
    rw [show τ + 1 + n = τ + (n + 1) by omega]
  ·rw [if_neg h1, if_neg h1, if_neg (fun h => h1 h.1)]
theorem yB (most : Int) : ∀ (n : Nat) (T : List Int) (j : Job) (τ : Nat), j.steps < most -> j.fin = -1 ->
  ((jy most n T j τ).2.steps < most ∧ (jy most n T j τ).2.fin = -1) ∨ (¬ (jy most n T j τ).2.steps < most ∧ (τ : Int) < (jy most n T j τ).2.fin ∧ (jy most n T j τ).2.fin <= τ + n)
 | 0, T, j, τ, h1, h2 => .inl ⟨h1, h2⟩
 | n + 1, T, j, τ, h1, h2 => by
  rw [jy, if_pos h1]
  split
  ·by_cases h3 : j.steps + 1 = most
   ·refine .inr ?_
    have e : jy most n (T.set τ j.task) (qH most j τ) (τ + 1) = (T.set τ j.task, qH most j τ) := by
     cases n with
     | zero => rfl
     | succ n => rw [jy, if_neg (by simp only [qH]; omega)]
    rw [e]
    simp only [qH, if_pos h3]
    omega
   ·rcases yB most n (T.set τ j.task) (qH most j τ) (τ + 1) (by simp only [qH]; omega) (by simp only [qH, if_neg h3]; exact h2) with h | h
    ·exact .inl h
    ·exact .inr ⟨h.1, by omega, by omega⟩
  ·rcases yB most n T j (τ + 1) h1 h2 with h | h
   ·exact .inl h
   ·exact .inr ⟨h.1, by omega, by omega⟩
theorem yS (most : Int) : ∀ (n : Nat) (T : List Int) (j : Job) (τ : Nat), (jy most n T j τ).2.task = j.task ∧ (jy most n T j τ).2.no = j.no
 | 0, T, j, τ => ⟨rfl, rfl⟩
 | n + 1, T, j, τ => by
  rw [jy]
  split
  ·split
   ·exact yS most n _ _ _
   ·exact yS most n _ _ _
  ·exact ⟨rfl, rfl⟩
structure QS where
 no : Int
 free : Int
 T : List Int
 js : List (Nat × Job)
 cur : Option (Nat × Job)
 ov : List (Nat × Due)
def wF (s : QS) (T : List Int) (k : Nat) (j : Job) : QS := if j.fin < 0 then { s with T := T, free := -1, cur := some (k, j) } else { s with T := T, free := j.fin, js := s.js ++ [(k, j)], cur := none }
def qS (l : List Task) (dm : List (List Int)) (i : Int) (s : QS) (p : Nat × Due) : QS :=
 if s.free < 0 ∨ p.2.at_ < s.free then { s with ov := s.ov ++ [p] }
 else
  let g := jy (ji dm i s.no) (s.T.length - p.2.at_.toNat) s.T (ql l i s.no p.2) p.2.at_.toNat
  wF { s with no := s.no + 1 } g.1 p.1 g.2
def rS (l : List Task) (i : Int) (s : QS) (p : Nat × Due) : QS :=
 if s.free < 0 then { s with ov := s.ov ++ [p] } else { s with no := s.no + 1, free := -1, cur := some (p.1, ql l i s.no p.2) }
def qX (dm : List (List Int)) (i : Int) (t : Nat) (x : Int) (s : QS) : QS :=
 match s.cur with
 | some (k, j) => if x = -1 then wF { s with cur := none } (s.T ++ [i]) k (qH (ji dm i j.no) j t) else { s with T := s.T ++ [x] }
 | none => { s with T := s.T ++ [x] }
structure QI (dm : List (List Int)) (i : Int) (t : Nat) (s : QS) : Prop where
 len : s.T.length = t
 idle : s.cur = none -> 0 <= s.free ∧ s.free <= t
 busy : ∀ k j, s.cur = some (k, j) -> s.free = -1 ∧ j.fin = -1 ∧ j.steps < ji dm i j.no ∧ j.task = i
theorem xd (dm : List (List Int)) (i no : Int) : 1 <= ji dm i no := by
 unfold ji; split <;> omega
theorem QI.qS {l : List Task} {dm : List (List Int)} {i : Int} {t : Nat} {s : QS} (h : QI dm i t s) {p : Nat × Due} (h0 : 0 <= p.2.at_) (h1 : p.2.at_ < t) : QI dm i t (qS l dm i s p) := by
 unfold Go.Proofs.YtfjoaeghnfkdlaaGreatDoor.qS
 split
 ·exact ⟨h.len, h.idle, h.busy⟩
 ·rename_i hc
  have hf := yB (ji dm i s.no) (s.T.length - p.2.at_.toNat) s.T (ql l i s.no p.2) p.2.at_.toNat (by have := xd dm i s.no; simp only [ql]; omega) rfl
  have hk := yS (ji dm i s.no) (s.T.length - p.2.at_.toNat) s.T (ql l i s.no p.2) p.2.at_.toNat
  have hl := zR (ji dm i s.no) (s.T.length - p.2.at_.toNat) s.T (ql l i s.no p.2) p.2.at_.toNat
  have hlen := h.len
  simp only
  generalize jy (ji dm i s.no) (s.T.length - p.2.at_.toNat) s.T (ql l i s.no p.2) p.2.at_.toNat = g at hf hk hl
  unfold wF
  have hno : g.2.no = s.no := hk.2
  rcases hf with ⟨h2, h3⟩ | ⟨h2, h3, h4⟩
  ·rw [if_pos (by omega)]
   refine ⟨by simp only; omega, fun e => (by cases e), fun k j e => ?_⟩
   cases e
   exact ⟨rfl, h3, by rw [hno]; exact h2, hk.1⟩
  ·rw [if_neg (by omega)]
   exact ⟨by simp only; omega, fun _ => ⟨by simp only; omega, by simp only; omega⟩, fun k j e => by cases e⟩
theorem QI.rS {l : List Task} {dm : List (List Int)} {i : Int} {t : Nat} {s : QS} (h : QI dm i t s) (p : Nat × Due) : QI dm i t (rS l i s p) := by
 unfold Go.Proofs.YtfjoaeghnfkdlaaGreatDoor.rS
 split
 ·exact ⟨h.len, h.idle, h.busy⟩
 ·refine ⟨h.len, fun e => (by cases e), fun k j e => ?_⟩
  cases e
  exact ⟨rfl, rfl, by have := xd dm i s.no; simp only [ql]; omega, rfl⟩
theorem QI.tick {dm : List (List Int)} {i : Int} {t : Nat} {s : QS} (h : QI dm i t s) (x : Int) : QI dm i (t + 1) (qX dm i t x s) := by
 obtain ⟨no, free, T, js, cur, ov⟩ := s
 have hlen := h.len
 simp only at hlen
 cases cur with
 | none =>
  have f := h.idle rfl
  simp only at f
  refine ⟨?_, fun _ => ⟨f.1, ?_⟩, fun k j e => (by cases e)⟩
  ·simp only [qX, List.length_append, List.length_cons, List.length_nil]; omega
  ·simp only [qX]; omega
 | some q =>
  obtain ⟨k, j⟩ := q
  obtain ⟨b1, b2, b3, b4⟩ := h.busy k j rfl
  simp only at b1
  unfold qX
  simp only
  split
  ·unfold wF
   by_cases h3 : j.steps + 1 = ji dm i j.no
   ·rw [if_neg (by simp only [qH, if_pos h3]; omega)]
    refine ⟨by simp only [List.length_append, List.length_cons, List.length_nil]; omega, fun _ => ?_, fun k j e => (by cases e)⟩
    simp only [qH, if_pos h3]; omega
   ·rw [if_pos (by simp only [qH, if_neg h3]; omega)]
    refine ⟨by simp only [List.length_append, List.length_cons, List.length_nil]; omega, fun e => (by cases e), fun k' j' e => ?_⟩
    cases e
    exact ⟨rfl, by simp only [qH, if_neg h3]; exact b2, by simp only [qH]; omega, b4⟩
  ·exact ⟨by simp only [List.length_append, List.length_cons, List.length_nil]; omega, fun e => (by cases e), fun k' j' e => (by cases e; exact ⟨b1, b2, b3, b4⟩)⟩
theorem Vk {dm : List (List Int)} {i : Int} {t : Nat} {s : QS} (h : QI dm i t s) {x : Int} {k : Nat} {j : Job} (hc : s.cur = some (k, j)) (a : Int) (ha : a <= t) : (qX dm i t x s).free < 0 ∨ a < (qX dm i t x s).free := by
 obtain ⟨b1, b2, b3, b4⟩ := h.busy k j hc
 unfold qX
 rw [hc]
 simp only
 split
 ·unfold wF
  split
  ·exact .inl (show (-1 : Int) < 0 by decide)
  ·rename_i h1
   refine .inr ?_
   by_cases h3 : j.steps + 1 = ji dm i j.no
   ·simp only [qH, if_pos h3]; omega
   ·simp only [qH, if_neg h3] at h1; omega
 ·exact .inl (by simp only; omega)
theorem j0V (dm : List (List Int)) (i : Int) (t : Nat) (x : Int) (s : QS) (ov : List (Nat × Due)) : qX dm i t x { s with ov := ov } = { qX dm i t x s with ov := ov } := by
 obtain ⟨no, free, T, js, cur, ov0⟩ := s
 unfold qX wF
 cases cur with
 | none => rfl
 | some q =>
  obtain ⟨k, j⟩ := q
  simp only
  split
  ·split <;> rfl
  ·rfl
theorem YZ (dm : List (List Int)) (i : Int) (t : Nat) (x : Int) (s : QS) : (qX dm i t x s).ov = s.ov := by
 obtain ⟨no, free, T, js, cur, ov0⟩ := s
 unfold qX wF
 cases cur with
 | none => rfl
 | some q =>
  obtain ⟨k, j⟩ := q
  simp only
  split
  ·split <;> rfl
  ·rfl
theorem j2q {l : List Task} {dm : List (List Int)} {i : Int} {t : Nat} {s : QS} (h : QI dm i t s) (x : Int) {p : Nat × Due} (h0 : 0 <= p.2.at_) (h1 : p.2.at_ < t) : qS l dm i (qX dm i t x s) p = qX dm i t x (qS l dm i s p) := by
 cases hc : s.cur with
 | some q =>
  obtain ⟨k, j⟩ := q
  obtain ⟨b1, b2, b3, b4⟩ := h.busy k j hc
  have e : qS l dm i s p = { s with ov := s.ov ++ [p] } := by unfold qS; rw [if_pos (.inl (by omega))]
  have e2 := YZ dm i t x s
  have e3 := Vk h hc (x := x) p.2.at_ (by omega)
  have e4 := j0V dm i t x s (s.ov ++ [p])
  rw [e, e4]
  generalize qX dm i t x s = u at e2 e3 ⊢
  obtain ⟨u1, u2, u3, u4, u5, u6⟩ := u
  simp only at e2 e3 ⊢
  subst e2
  unfold qS
  rw [if_pos e3]
  try rfl
 | none =>
  obtain ⟨f1, f2⟩ := h.idle hc
  have hlen := h.len
  obtain ⟨no, free, T, js, cur, ov⟩ := s
  simp only at hc f1 f2 hlen
  subst hc
  by_cases hov : p.2.at_ < free
  ·unfold qS qX
   simp only
   rw [if_pos (.inr hov), if_pos (.inr hov)]
  ·have hj : (ql l i no p.2).steps < ji dm i no := by have := xd dm i no; simp only [ql]; omega
   have hf := yB (ji dm i no) (T.length - p.2.at_.toNat) T (ql l i no p.2) p.2.at_.toNat hj rfl
   have hk := yS (ji dm i no) (T.length - p.2.at_.toNat) T (ql l i no p.2) p.2.at_.toNat
   have hm := yV (ji dm i no) x (T.length - p.2.at_.toNat) T (ql l i no p.2) p.2.at_.toNat (by omega)
   have e1 : (T ++ [x]).length - p.2.at_.toNat = T.length - p.2.at_.toNat + 1 := by rw [List.length_append, List.length_cons, List.length_nil]; omega
   have e2 : p.2.at_.toNat + (T.length - p.2.at_.toNat) = t := by omega
   rw [e2] at hm
   have hcn : ¬ (free < 0 ∨ p.2.at_ < free) := by omega
   have L : qS l dm i (⟨no, free, T ++ [x], js, none, ov⟩ : QS) p = wF ⟨no + 1, free, T ++ [x], js, none, ov⟩ (jy (ji dm i no) ((T ++ [x]).length - p.2.at_.toNat) (T ++ [x]) (ql l i no p.2) p.2.at_.toNat).1 p.1 (jy (ji dm i no) ((T ++ [x]).length - p.2.at_.toNat) (T ++ [x]) (ql l i no p.2) p.2.at_.toNat).2 := by
    unfold qS; rw [if_neg hcn]
   have R : qS l dm i (⟨no, free, T, js, none, ov⟩ : QS) p = wF ⟨no + 1, free, T, js, none, ov⟩ (jy (ji dm i no) (T.length - p.2.at_.toNat) T (ql l i no p.2) p.2.at_.toNat).1 p.1 (jy (ji dm i no) (T.length - p.2.at_.toNat) T (ql l i no p.2) p.2.at_.toNat).2 := by
    unfold qS; rw [if_neg hcn]
   show qS l dm i (⟨no, free, T ++ [x], js, none, ov⟩ : QS) p = qX dm i t x (qS l dm i (⟨no, free, T, js, none, ov⟩ : QS) p)
   rw [L, R, e1, hm]
   clear L R
   generalize jy (ji dm i no) (T.length - p.2.at_.toNat) T (ql l i no p.2) p.2.at_.toNat = g at hf hk
   have hno : g.2.no = no := hk.2
   have htk : (ql l i no p.2).task = i := rfl
   rcases hf with ⟨h2, h3⟩ | ⟨h2, h3, h4⟩
   ·have e3 : wF (⟨no + 1, free, T, js, none, ov⟩ : QS) g.1 p.1 g.2 = ⟨no + 1, -1, g.1, js, some (p.1, g.2), ov⟩ := by unfold wF; rw [if_pos (by omega)]
    rw [e3]
    unfold qX
    by_cases hx : x = -1
    ·rw [if_pos ⟨h2, hx⟩]
     simp only [hx, if_true, hno, htk]
     unfold wF
     split <;> rfl
    ·rw [if_neg (fun c => hx c.2)]
     simp only [if_neg hx]
     unfold wF
     rw [if_pos (by omega)]
   ·rw [if_neg (fun c => h2 c.1)]
    have e4 : ∀ T' : List Int, ∀ T'' : List Int, wF (⟨no + 1, free, T', js, none, ov⟩ : QS) T'' p.1 g.2 = ⟨no + 1, g.2.fin, T'', js ++ [(p.1, g.2)], none, ov⟩ := fun T' T'' => by unfold wF; rw [if_neg (by omega)]
    rw [e4, e4]
    rfl
theorem j2Y {l : List Task} {dm : List (List Int)} {i : Int} {t : Nat} {s : QS} (h : QI dm i t s) (x : Int) {p : Nat × Due} (h1 : p.2.at_ = t) : qS l dm i (qX dm i t x s) p = qX dm i t x (rS l i s p) := by
 cases hc : s.cur with
 | some q =>
  obtain ⟨k, j⟩ := q
  obtain ⟨b1, b2, b3, b4⟩ := h.busy k j hc
  have e : rS l i s p = { s with ov := s.ov ++ [p] } := by unfold rS; rw [if_pos (by omega)]
  have e2 := YZ dm i t x s
  have e3 := Vk h hc (x := x) p.2.at_ (by omega)
  have e4 := j0V dm i t x s (s.ov ++ [p])
  rw [e, e4]
  generalize qX dm i t x s = u at e2 e3 ⊢
  obtain ⟨u1, u2, u3, u4, u5, u6⟩ := u
  simp only at e2 e3 ⊢
  subst e2
  unfold qS
  rw [if_pos e3]
  try rfl
 | none =>
  obtain ⟨f1, f2⟩ := h.idle hc
  have hlen := h.len
  obtain ⟨no, free, T, js, cur, ov⟩ := s
  simp only at hc f1 f2 hlen
  subst hc
  have hj : (ql l i no p.2).steps < ji dm i no := by have := xd dm i no; simp only [ql]; omega
  have hm := yV (ji dm i no) x 0 T (ql l i no p.2) t (by omega)
  have e1 : (T ++ [x]).length - p.2.at_.toNat = 1 := by rw [List.length_append, List.length_cons, List.length_nil]; omega
  have e2 : p.2.at_.toNat = t := by omega
  have htk : (ql l i no p.2).task = i := rfl
  have hno : (ql l i no p.2).no = no := rfl
  have hm' : jy (ji dm i no) 1 (T ++ [x]) (ql l i no p.2) t = if (ql l i no p.2).steps < ji dm i no ∧ x = -1 then (T ++ [i], qH (ji dm i no) (ql l i no p.2) t) else (T ++ [x], ql l i no p.2) := hm
  have L : qS l dm i (⟨no, free, T ++ [x], js, none, ov⟩ : QS) p = wF ⟨no + 1, free, T ++ [x], js, none, ov⟩ (jy (ji dm i no) ((T ++ [x]).length - p.2.at_.toNat) (T ++ [x]) (ql l i no p.2) p.2.at_.toNat).1 p.1 (jy (ji dm i no) ((T ++ [x]).length - p.2.at_.toNat) (T ++ [x]) (ql l i no p.2) p.2.at_.toNat).2 := by
   unfold qS; rw [if_neg (show ¬ (free < 0 ∨ p.2.at_ < free) by omega)]
  have R : rS l i (⟨no, free, T, js, none, ov⟩ : QS) p = ⟨no + 1, -1, T, js, some (p.1, ql l i no p.2), ov⟩ := by
   unfold rS; rw [if_neg (show ¬ free < 0 by omega)]
  show qS l dm i (⟨no, free, T ++ [x], js, none, ov⟩ : QS) p = qX dm i t x (rS l i (⟨no, free, T, js, none, ov⟩ : QS) p)
  rw [L, R, e1, e2, hm']
  clear L R
  unfold qX
  by_cases hx : x = -1
  ·rw [if_pos ⟨hj, hx⟩]
   simp only [hx, if_true, hno]
   unfold wF
   split <;> rfl
  ·rw [if_neg (fun c => hx c.2)]
   simp only [if_neg hx]
   unfold wF
   rw [if_pos (show (ql l i no p.2).fin < 0 from (by simp only [ql]; decide))]
theorem XG {l : List Task} {dm : List (List Int)} {i : Int} {t : Nat} (x : Int) (new : List (Nat × Due)) (hn : ∀ p ∈ new, p.2.at_ = t) : ∀ (old : List (Nat × Due)) (s : QS), QI dm i t s -> (∀ p ∈ old, 0 <= p.2.at_ ∧ p.2.at_ < t) ->
  (old ++ new).foldl (qS l dm i) (qX dm i t x s) = qX dm i t x (new.foldl (rS l i) (old.foldl (qS l dm i) s))
 | [], s, h, _ => by
  rw [List.nil_append, List.foldl_nil]
  induction new generalizing s with
  | nil => rfl
  | cons p r ih =>
   rw [List.foldl_cons, List.foldl_cons, j2Y h x (hn p List.mem_cons_self)]
   exact ih (fun q hq => hn q (List.mem_cons_of_mem _ hq)) _ (h.rS p)
 | p :: r, s, h, ho => by
  have h0 := ho p List.mem_cons_self
  rw [List.cons_append, List.foldl_cons, List.foldl_cons, j2q h x h0.1 h0.2]
  exact XG x new hn r _ (h.qS h0.1 h0.2) fun q hq => ho q (List.mem_cons_of_mem _ hq)
def jE (l : List Task) : List Int := l.map (·.prio)
theorem j3N (l : List Task) (hn : l.length <= 1000000) : Fn Tryz.prog 125 [.lst 7 (l.map jJ)] (.lst 1 ((jE l).map eI)) := by
 refine fnb Tryz.func125 (j5 (by kernel_rfl)) rfl rfl rfl ?_
 repeat' (first | refine sT ?_ | refine sQ ?_ ?_ | intro hc | exact trivial)
 refine va (vN eI (t := 3) rfl 10 3 1 (by omega) rfl) ?_
 refine jk (fun k : Nat => ([(3, .own 10), (6, .lst 7 (l.map jJ)), (7, .int .i64 l.length), (8, .int .i64 k)], [(10, .row 3 1 ((jE (l.take k)).map eI))])) (fun k => k <= l.length) (fun k => l.length - k) 0 (Nat.zero_le _) les leh (fun k hk => ?_)
 have hl : (jE (l.take k)).length = k := by simp [jE]; omega
 repeat' (first | refine sA ?_ | (show O _ _ _ _ _ _ _; first | refine jR (id := 12) rfl rfl rfl rfl rfl rfl rfl ?_) | refine sY ?_ | refine sG ?_ | refine sQ ?_ ?_ | intro hc | exact trivial)
 ·(refine v7 (id := 10) (ys := [(l.getD k default).prio]) (by_ := 8) rfl rfl rfl rfl rfl rfl rfl rfl rfl rfl (fun _ _ => rfl) ?_ ?_ rfl rfl rfl rfl rfl ?_; (· (first | omega | ((try simp only [List.length_cons, List.length_nil, List.length_append, List.length_map]) <;> omega))); (· (first | omega | ((try simp only [List.length_cons, List.length_nil, List.length_append, List.length_map]) <;> omega))))
  repeat' (first | refine sT ?_ | refine sQ ?_ ?_ | intro hc | exact trivial)
  have e : jE (l.take (k + 1)) = jE (l.take k) ++ [(l.getD k default).prio] := by
   have hkl : k < l.length := by omega
   rw [jE, jE, List.take_succ_eq_append_getElem hkl, List.map_append]
   simp [hkl]
  exact ⟨k + 1, by omega, by omega, les, by simp only [e]; exact leh⟩
 ·obtain rfl : k = l.length := by omega
  rw [List.take_length]
  refine ww (fun _ => jf (t := 2) rfl rfl rfl) ?_
  exact jK rfl rfl
theorem j1W (l : List Task) (hn : l.length <= 1000000) : Fn Tryz.prog 99 [.lst 7 (l.map jJ)] (.lst 1 ((rkL (jE l) l.length).map eI)) := by
 have c1 := j3N l hn
 have hl : (jE l).length = l.length := by simp [jE]
 have c2 := j2r (jE l) (by rw [hl]; exact hn)
 rw [hl] at c2
 refine fnb Tryz.func99 (j5 (by kernel_rfl)) rfl rfl rfl ?_
 repeat' (first | refine sT ?_ | refine sC (c1) ?_ | refine sC (c2) ?_ | refine sQ ?_ ?_ | intro hc | exact trivial)
 exact jK rfl rfl
def jF : List Int -> Int -> Nat -> Int
 | [], _, _ => -1
 | y :: r, x, k => if x = y then (k : Int) else jF r x (k + 1)
theorem zL : ∀ (l : List Int) (x : Int) (k : Nat), x ∈ l -> (k : Int) <= jF l x k ∧ jF l x k < k + l.length
 | [], x, k, h => by cases h
 | y :: r, x, k, h => by
  rw [jF]
  split
  ·simp only [List.length_cons]; omega
  ·rename_i hne
   rcases List.mem_cons.1 h with h | h
   ·exact absurd h hne
   ·have := zL r x (k + 1) h
    simp only [List.length_cons]; omega
theorem j3l {l : List Int} {x : Int} {k : Nat} (h : k < l.length) : jF (l.drop k) x k = if x = l.getD k default then (k : Int) else jF (l.drop (k + 1)) x (k + 1) := by
 have e : l.getD k default = l[k] := by simp [h]
 rw [e, <- List.getElem_cons_drop h, jF]
theorem j2U (l : List Int) (x : Int) (hn : l.length <= 1000000) : Fn Tryz.prog 101 [.lst 1 (l.map eI), .int .i64 x] (.int .i64 (jF l x 0)) := by
 refine fnb Tryz.func101 (j5 (by kernel_rfl)) rfl rfl rfl ?_
 repeat' (first | refine sT ?_ | refine sQ ?_ ?_ | intro hc | exact trivial)
 refine jk (fun k : Nat => ([(0, .lst 1 (l.map eI)), (1, .int .i64 x), (6, .lst 1 (l.map eI)), (7, .int .i64 l.length), (8, .int .i64 k)], [])) (fun k => k <= l.length ∧ jF (l.drop k) x k = jF l x 0) (fun k => l.length - k) 0 ⟨Nat.zero_le _, rfl⟩ les leh (fun k hk => ?_)
 obtain ⟨h1, h2⟩ := hk
 rcases Nat.lt_or_eq_of_le h1 with h3 | h3
 ·rw [j3l h3] at h2
  by_cases hx : x = l.getD k default
  ·rw [if_pos hx] at h2
   repeat' (first | refine sT ?_ | refine sQ ?_ ?_ | intro hc | exact trivial)
   all_goals first | (exfalso; omega) | exact jK rfl (by rw [h2])
  ·rw [if_neg hx] at h2
   repeat' (first | refine sT ?_ | refine sQ ?_ ?_ | intro hc | exact trivial)
   all_goals first | (exfalso; omega) | exact ⟨k + 1, ⟨by omega, h2⟩, by omega, les, leh⟩
 ·subst h3
  rw [List.drop_length] at h2
  repeat' (first | refine sT ?_ | refine sQ ?_ ?_ | intro hc | exact trivial)
  all_goals first | (exfalso; omega) | exact jK rfl (by rw [<- h2]; rfl)
def j1R (n : Nat) (ticks : Int) (d : Due) : Bool := decide ((0 <= d.task ∧ d.task < n) ∧ 0 <= d.at_ ∧ d.at_ < ticks)
def yC (n : Nat) (lt : List Due) (ticks : Int) : List Due := lt.filter (j1R n ticks)
theorem j17 (n : Nat) (lt : List Due) (ticks : Int) (k : Nat) (h : k < lt.length) : yC n (lt.take (k + 1)) ticks = yC n (lt.take k) ticks ++ (if j1R n ticks (lt.getD k default) then [lt.getD k default] else []) := by
 unfold yC
 rw [List.take_succ_eq_append_getElem h, List.filter_append]
 simp [h, List.filter_cons]
theorem j4O (x y : Due) : Fn Tryz.prog 123 ([.agg (jD x), .agg (jD y)] ++ []) (.int .i64 (Yz x y)) := by
 refine fnb Tryz.func123 (j5 (by kernel_rfl)) rfl rfl rfl ?_
 have c1 := VE x.at_ y.at_
 have c2 := VE x.task y.task
 have c3 := j5P (zW x.at_ y.at_) (zW x.task y.task)
 repeat' (first | refine sT ?_ | refine sC (c1) ?_ | refine sC (c2) ?_ | refine sC (c3) ?_ | refine sQ ?_ ?_ | intro hc | exact trivial)
 exact jK rfl rfl
theorem Z5 (l : List Task) (lt : List Due) (ticks : Int) (hl : l.length <= 1000000) (hn : lt.length <= 1000000) : Fn Tryz.prog 98 [.lst 7 (l.map jJ), .lst 2 (lt.map jD), .int .i64 ticks] (.lst 2 ((jO (yC l.length lt ticks)).map jD)) := by
 refine fnb Tryz.func98 (j5 (by kernel_rfl)) rfl rfl rfl ?_
 repeat' (first | refine sT ?_ | refine sQ ?_ ?_ | intro hc | exact trivial)
 refine va (vN jD (t := 7) rfl 12 60 2 (by omega) rfl) ?_
 refine jk (fun k : Nat => ([(0, .lst 7 (l.map jJ)), (2, .int .i64 ticks), (7, .own 12), (10, .lst 2 (lt.map jD)), (11, .int .i64 lt.length), (12, .int .i64 k)], [(12, .row 60 2 ((yC l.length (lt.take k) ticks).map jD))])) (fun k => k <= lt.length) (fun k => lt.length - k) 0 (Nat.zero_le _) les leh (fun k hk => ?_)
 have hlen : (yC l.length (lt.take k) ticks).length <= k := by
  refine Nat.le_trans (List.length_filter_le _ _) ?_
  rw [List.length_take]; omega
 rcases Nat.lt_or_eq_of_le hk with hkl | hkl
 ·obtain ⟨d, hd⟩ : ∃ d, lt.getD k default = d := ⟨_, rfl⟩
  have hnx := j17 l.length lt ticks k hkl
  rw [hd] at hnx
  by_cases hb : (0 <= d.task ∧ d.task < l.length) ∧ 0 <= d.at_ ∧ d.at_ < ticks
  ·rw [j1R, decide_eq_true hb, if_pos rfl] at hnx
   repeat' (first | refine sA ?_ | (show O _ _ _ _ _ _ _; first | refine jR (id := 13) rfl rfl rfl rfl rfl rfl rfl ?_) | ((first | apply kM | apply kN); (iterate 3 (· exact rfl)); (· first | (show Y _ ⟨_, .indexAddr _ _ _, _, _, _, _⟩ _ _ _; first | exact Y.mk (qe (hd) rfl rfl rfl rfl rfl (by omega))))) | refine sY ?_ | refine sG ?_ | refine sQ ?_ ?_ | intro hc | exact trivial)
   all_goals first | (exfalso; omega) | skip
   (refine v7 (id := 12) (ys := [d]) (by_ := 16) rfl rfl rfl rfl rfl rfl rfl rfl rfl rfl (fun _ _ => rfl) ?_ ?_ rfl rfl rfl rfl rfl ?_; (· (first | omega | ((try simp only [List.length_cons, List.length_nil, List.length_append, List.length_map]) <;> omega))); (· (first | omega | ((try simp only [List.length_cons, List.length_nil, List.length_append, List.length_map]) <;> omega))))
   repeat' (first | refine sT ?_ | refine sQ ?_ ?_ | intro hc | exact trivial)
   exact ⟨k + 1, by omega, by omega, les, by simp only [hnx]; exact leh⟩
  ·rw [j1R, decide_eq_false hb, if_neg Bool.false_ne_true, List.append_nil] at hnx
   repeat' (first | refine sA ?_ | (show O _ _ _ _ _ _ _; first | refine jR (id := 13) rfl rfl rfl rfl rfl rfl rfl ?_) | ((first | apply kM | apply kN); (iterate 3 (· exact rfl)); (· first | (show Y _ ⟨_, .indexAddr _ _ _, _, _, _, _⟩ _ _ _; first | exact Y.mk (qe (hd) rfl rfl rfl rfl rfl (by omega))))) | refine sY ?_ | refine sG ?_ | refine sQ ?_ ?_ | intro hc | exact trivial)
   all_goals first | (exfalso; omega) | skip
   all_goals exact ⟨k + 1, by omega, by omega, les, by simp only [hnx]; exact leh⟩
 ·subst hkl
  rw [List.take_length] at *
  repeat' (first | refine sT ?_ | refine sQ ?_ ?_ | intro hc | exact trivial)
  all_goals first | (exfalso; omega) | skip
  refine jL (fun i => i + 8) (YS 123 Yz (fun x => True) j6Y (fun x y hx hy => j4O x y) (yC l.length lt ticks) (fun x hx => trivial) (by omega)) rfl rfl leh rfl rfl rfl rfl rfl rfl (fun r h' hR => ?_)
  obtain ⟨rfl, o, ho, rfl⟩ := hR
  refine ⟨rfl, rfl, ?_⟩
  have h1 := Yd ho
  subst h1
  repeat' (first | refine sT ?_ | refine sQ ?_ ?_ | intro hc | exact trivial)
  refine ww (fun _ => jf (t := 6) rfl rfl rfl) ?_
  exact jK rfl rfl
structure LS where
 T : List Int
 m1 : List (Int × Job)
 m2 : List (Int × Due)
def vu (l : List Task) (dm : List (List Int)) (lt : List Due) (rk : List Int) (s : LS) : Nat -> LS
 | 0 => s
 | r + 1 =>
  let s' := vu l dm lt rk s r
  let p := qV l dm (jF rk r 0) lt ⟨0, 0, s'.T, s'.m1, s'.m2⟩ lt.length
  ⟨p.T, p.m1, p.m2⟩
theorem Jq (l : List Task) (dm : List (List Int)) (lt : List Due) (rk : List Int) (s : LS) : ∀ r, (vu l dm lt rk s r).T.length = s.T.length
 | 0 => rfl
 | r + 1 => by simp only [vu]; rw [yk]; exact Jq l dm lt rk s r
def qY (ticks : Int) : Nat := (max 0 (min ticks 65536)).toNat
def yA (l : List Task) (lt : List Due) (dm : List (List Int)) (ticks : Int) : LS := vu l dm (jO (yC l.length lt (qY ticks))) (rkL (jE l) l.length) ⟨List.replicate (qY ticks) (-1), [], []⟩ l.length
theorem ZZ (l : List Task) {r : Nat} (h : r < l.length) : (r : Int) ∈ rkL (jE l) l.length := by
 obtain ⟨o, ho⟩ := ZE (jE l) l.length
 have h1 := ho.rank h
 have h2 := ho.at h
 have h3 := j2u (jE l) (n := l.length) (k := (o.getD r default).toNat) (by omega)
 rw [show (((o.getD r default).toNat : Nat) : Int) = o.getD r default by omega, h1] at h3
 rw [<- h3]
 exact qN (by rw [JO]; omega)
def ρL3 (i : Nat) : Nat := [5, 1, 7, 8, 6].getD i i
set_option maxHeartbeats 4000000 in
theorem Ys (l : List Task) (lt : List Due) (dm : List (List Int)) (ticks : Int) (hl : l.length <= 100000) (hlt : lt.length <= 100000) : FnH Tryz.prog 67 [.lst 7 (l.map jJ), .lst 2 (lt.map jD), .lst 1 (dm.map eLI), .int .i64 ticks]
  [(5, .row 3 1 (([] : List Int).map eI)), (6, .row 3 1 (([] : List Int).map eI)), (7, .row 3 1 (([] : List Int).map eI)), (8, .row 3 1 (([] : List Int).map eI))]
  (fun r h' => r = .ptr 5 0 ∧ h' = [(6, .row 3 1 ((yA l lt dm ticks).T.map eI)), (5, .blk 120 [.lst 7 (l.map jJ), .lst 1 (dm.map eLI), .own 6, .own 7, .own 8]), (7, mJ (yA l lt dm ticks).m1), (8, mD (yA l lt dm ticks).m2)]) := by
 refine qo Tryz.func67 (j5 (by kernel_rfl)) rfl rfl ?_
 refine wle (s' := [(0, .lst 7 (l.map jJ)), (1, .lst 2 (lt.map jD)), (2, .lst 1 (dm.map eLI)), (3, .int .i64 ticks)]) (h' := []) les (LeH.nil _) ?_
 repeat' (first | refine sT ?_ | refine sQ ?_ ?_ | intro hc | exact trivial)
 refine j3e 7 (fun j : Job => AV.agg (vX j)) rfl rfl rfl rfl ?_
 repeat' (first | refine sT ?_ | refine sQ ?_ ?_ | intro hc | exact trivial)
 refine j3e 8 (fun d : Due => AV.agg (jD d)) rfl rfl rfl rfl ?_
 repeat' (first | refine sA ?_ | (show O _ _ _ _ _ _ _; first | (show O _ _ _ _ (⟨_, .box _ _, _, _, _, _⟩ :: _) _ _; first | refine wx (id := 5) rfl rfl rfl rfl rfl rfl rfl rfl ?_)) | ((first | apply kM | apply kN); (iterate 3 (· exact rfl)); (· first | exact yab)) | refine sG ?_ | refine sQ ?_ ?_ | intro hc | exact trivial)
 refine wle (s' := [(0, .lst 7 (l.map jJ)), (1, .lst 2 (lt.map jD)), (2, .lst 1 (dm.map eLI)), (3, .int .i64 (qY ticks)), (9, .ptr 5 0), (22, .int .i64 (qY ticks)), (23, .int .i64 0)]) (h' := [(5, .blk 120 [.lst 7 (l.map jJ), .lst 1 (dm.map eLI), .nils, .own 7, .own 8]), (7, mJ []), (8, mD [])]) (by unfold qY; exact les) leh ?_
 obtain ⟨N, hN⟩ : ∃ N, N = qY ticks := ⟨_, rfl⟩
 have hN2 : N <= 65536 := by rw [hN]; unfold qY; omega
 rw [yA, <- hN]
 refine va (w8 eI (b := 5) 2 rfl rfl 6 3 1 (by omega) rfl) ?_
 refine jk (fun k : Nat => ([(0, .lst 7 (l.map jJ)), (1, .lst 2 (lt.map jD)), (2, .lst 1 (dm.map eLI)), (3, .int .i64 N), (9, .ptr 5 0), (22, .int .i64 N), (23, .int .i64 k)], [(6, .row 3 1 ((List.replicate k (-1 : Int)).map eI)), (5, .blk 120 [.lst 7 (l.map jJ), .lst 1 (dm.map eLI), .own 6, .own 7, .own 8]), (7, mJ []), (8, mD [])]))
  (fun k => k <= N) (fun k => N - k) 0 (Nat.zero_le _) les leh (fun k hk => ?_)
 have hrl : (List.replicate k (-1 : Int)).length = k := List.length_replicate ..
 rcases Nat.lt_or_eq_of_le hk with hkl | hkl
 ·repeat' (first | refine sT ?_ | refine sQ ?_ ?_ | intro hc | exact trivial)
  all_goals first | (exfalso; omega) | skip
  refine jh (yL [false, false, true] (id := 5) rfl) ?_
  refine ole (h' := [(6, .row 3 1 ((List.replicate k (-1 : Int)).map eI)), (5, .blk 120 [.lst 7 (l.map jJ), .lst 1 (dm.map eLI), .undef, .own 7, .own 8]), (7, mJ []), (8, mD [])]) (LeS.refl _) leh ?_
  (refine v7 (id := 6) (ys := [(-1 : Int)]) (by_ := 8) rfl rfl rfl rfl rfl rfl rfl rfl rfl rfl (fun _ _ => rfl) ?_ ?_ rfl rfl rfl rfl rfl ?_; (· (first | omega | ((try simp only [List.length_cons, List.length_nil, List.length_append, List.length_map]) <;> omega))); (· (first | omega | ((try simp only [List.length_cons, List.length_nil, List.length_append, List.length_map]) <;> omega))))
  repeat' (first | refine sT ?_ | refine sQ ?_ ?_ | intro hc | exact trivial)
  have e : List.replicate k (-1 : Int) ++ [-1] = List.replicate (k + 1) (-1) := by rw [List.replicate_succ']
  exact ⟨k + 1, by omega, by omega, les, by simp only [<- e]; exact leh⟩
 ·subst hkl
  have c1 := Z5 l lt k (by omega) (by omega)
  have c2 := j1W l (by omega)
  obtain ⟨S, hS⟩ : ∃ S, S = jO (yC l.length lt k) := ⟨_, rfl⟩
  have hSl : S.length <= 100000 := by
   rw [hS, wC]
   exact Nat.le_trans (List.length_filter_le _ _) (by omega)
  have hSd : ∀ d ∈ S, 0 <= d.at_ ∧ d.at_ <= k := fun d hd => by
   rw [hS] at hd
   have := List.mem_filter.1 ((qK _).mem_iff.1 hd)
   have h2 := this.2
   simp only [j1R, decide_eq_true_eq] at h2
   omega
  rw [<- hS] at c1 ⊢
  clear hS
  repeat' (first | refine sT ?_ | refine sC (c1) ?_ | refine sC (c2) ?_ | refine sQ ?_ ?_ | intro hc | exact trivial)
  all_goals first | (exfalso; omega) | skip
  refine jk (fun r : Nat => ([(0, .lst 7 (l.map jJ)), (9, .ptr 5 0), (10, .lst 2 (S.map jD)), (11, .lst 1 ((rkL (jE l) l.length).map eI)), (42, .int .i64 l.length), (43, .int .i64 r)],
    [(6, .row 3 1 ((vu l dm S (rkL (jE l) l.length) ⟨List.replicate k (-1), [], []⟩ r).T.map eI)), (5, .blk 120 [.lst 7 (l.map jJ), .lst 1 (dm.map eLI), .own 6, .own 7, .own 8]), (7, mJ (vu l dm S (rkL (jE l) l.length) ⟨List.replicate k (-1), [], []⟩ r).m1), (8, mD (vu l dm S (rkL (jE l) l.length) ⟨List.replicate k (-1), [], []⟩ r).m2)]))
   (fun r => r <= l.length) (fun r => l.length - r) 0 (Nat.zero_le _) les leh (fun r hr => ?_)
  rcases Nat.lt_or_eq_of_le hr with hrl2 | hrl2
  ·have hmem := zL (rkL (jE l) l.length) r 0 (ZZ l hrl2)
   rw [JO] at hmem
   have c3 := j2U (rkL (jE l) l.length) r (by rw [JO]; omega)
   have hTl := Jq l dm S (rkL (jE l) l.length) ⟨List.replicate k (-1), [], []⟩ r
   rw [hrl] at hTl
   have hnx : vu l dm S (rkL (jE l) l.length) ⟨List.replicate k (-1), [], []⟩ (r + 1) = ⟨(qV l dm (jF (rkL (jE l) l.length) r 0) S ⟨0, 0, (vu l dm S (rkL (jE l) l.length) ⟨List.replicate k (-1), [], []⟩ r).T, (vu l dm S (rkL (jE l) l.length) ⟨List.replicate k (-1), [], []⟩ r).m1, (vu l dm S (rkL (jE l) l.length) ⟨List.replicate k (-1), [], []⟩ r).m2⟩ S.length).T, (qV l dm (jF (rkL (jE l) l.length) r 0) S ⟨0, 0, (vu l dm S (rkL (jE l) l.length) ⟨List.replicate k (-1), [], []⟩ r).T, (vu l dm S (rkL (jE l) l.length) ⟨List.replicate k (-1), [], []⟩ r).m1, (vu l dm S (rkL (jE l) l.length) ⟨List.replicate k (-1), [], []⟩ r).m2⟩ S.length).m1, (qV l dm (jF (rkL (jE l) l.length) r 0) S ⟨0, 0, (vu l dm S (rkL (jE l) l.length) ⟨List.replicate k (-1), [], []⟩ r).T, (vu l dm S (rkL (jE l) l.length) ⟨List.replicate k (-1), [], []⟩ r).m1, (vu l dm S (rkL (jE l) l.length) ⟨List.replicate k (-1), [], []⟩ r).m2⟩ S.length).m2⟩ := rfl
   generalize vu l dm S (rkL (jE l) l.length) ⟨List.replicate k (-1), [], []⟩ r = s' at *
   repeat' (first | refine sT ?_ | refine sC (c3) ?_ | refine sQ ?_ ?_ | intro hc | exact trivial)
   all_goals first | (exfalso; omega) | skip
   refine jL (fun i => ρL3 i) (ZL l dm (jF (rkL (jE l) l.length) r 0) S s'.T s'.m1 s'.m2 (by omega) (by omega) (by omega) (by omega) (fun d hd => by have := hSd d hd; omega)) rfl rfl leh rfl rfl rfl rfl rfl rfl (fun r h' hR => ?_)
   obtain ⟨rfl, rfl⟩ := hR
   refine ⟨rfl, rfl, ?_⟩
   repeat' (first | refine sT ?_ | refine sQ ?_ ?_ | intro hc | exact trivial)
   exact ⟨r + 1, by omega, by omega, les, by simp only [hnx]; exact leh⟩
  ·subst hrl2
   repeat' (first | refine sT ?_ | refine sQ ?_ ?_ | intro hc | exact trivial)
   all_goals first | (exfalso; omega) | skip
   exact JU rfl leh ⟨rfl, rfl⟩
theorem Jz (l : List Task) (lt : List Due) (dm : List (List Int)) (ticks : Int) (hl : l.length <= 100000) (hlt : lt.length <= 100000) : Fn Tryz.prog 30 [.lst 7 (l.map jJ), .lst 2 (lt.map jD), .lst 1 (dm.map eLI), .int .i64 ticks] (.lst 1 ((yA l lt dm ticks).T.map eI)) := by
 refine fnb Tryz.func30 (j5 (by kernel_rfl)) rfl rfl rfl ?_
 repeat' (first | refine sT ?_ | refine sQ ?_ ?_ | intro hc | exact trivial)
 refine jh (jA eI 10 3 1 (by omega) rfl) ?_
 refine jh (jA eI 11 3 1 (by omega) rfl) ?_
 refine jh (jA eI 12 3 1 (by omega) rfl) ?_
 refine jh (jA eI 13 3 1 (by omega) rfl) ?_
 refine jL (fun i => i + 5) (Ys l lt dm ticks hl hlt) rfl rfl leh rfl rfl rfl rfl rfl rfl (fun r h' hR => ?_)
 obtain ⟨rfl, rfl⟩ := hR
 refine ⟨rfl, rfl, ?_⟩
 repeat' (first | refine sT ?_ | refine sQ ?_ ?_ | intro hc | exact trivial)
 refine ww (fun _ => yL [false, false, true] (id := 10) rfl) ?_
 refine ww (fun _ => jf (t := 8) rfl rfl rfl) ?_
 exact jK rfl rfl
def q0 (T : List Int) : QS := ⟨0, 0, T, [], none, []⟩
theorem QI.q0 {dm : List (List Int)} {i : Int} {t : Nat} {T : List Int} (h : T.length = t) : QI dm i t (q0 T) := ⟨h, fun _ => ⟨Int.le_refl _, by simp only [Go.Proofs.YtfjoaeghnfkdlaaGreatDoor.q0]; omega⟩, fun k j e => (by cases e)⟩
def yP (i : Int) (lt : List Due) (n : Nat) : List (Nat × Due) := ((List.range n).map fun k => (k, lt.getD k default)).filter fun p => decide (p.2.task = i)
theorem j18 (i : Int) (lt : List Due) (n : Nat) : yP i lt (n + 1) = yP i lt n ++ (if (lt.getD n default).task = i then [(n, lt.getD n default)] else []) := by
 unfold yP
 rw [List.range_succ, List.map_append, List.filter_append, List.map_cons, List.map_nil, List.filter_cons]
 congr 1
 by_cases h : (lt.getD n default).task = i
 ·rw [if_pos (by simpa using h), if_pos h]; rfl
 ·rw [if_neg (by simpa using h), if_neg h]; rfl
theorem J0 {i : Int} {lt : List Due} {n : Nat} {p : Nat × Due} (h : p ∈ yP i lt n) : p.1 < n ∧ p.2 = lt.getD p.1 default ∧ p.2.task = i := by
 unfold yP at h
 rw [List.mem_filter, List.mem_map] at h
 obtain ⟨⟨k, hk, rfl⟩, h2⟩ := h
 exact ⟨List.mem_range.1 hk, rfl, by simpa using h2⟩
theorem QI.fold {l : List Task} {dm : List (List Int)} {i : Int} {t : Nat} : ∀ (rs : List (Nat × Due)) {s : QS}, QI dm i t s -> (∀ p ∈ rs, 0 <= p.2.at_ ∧ p.2.at_ < t) -> QI dm i t (rs.foldl (Go.Proofs.YtfjoaeghnfkdlaaGreatDoor.qS l dm i) s)
 | [], s, h, _ => h
 | p :: r, s, h, ho => QI.fold r (h.qS (ho p List.mem_cons_self).1 (ho p List.mem_cons_self).2) fun q hq => ho q (List.mem_cons_of_mem _ hq)
theorem QI.foldR {l : List Task} {dm : List (List Int)} {i : Int} {t : Nat} : ∀ (rs : List (Nat × Due)) {s : QS}, QI dm i t s -> QI dm i t (rs.foldl (Go.Proofs.YtfjoaeghnfkdlaaGreatDoor.rS l i) s)
 | [], s, h => h
 | p :: r, s, h => QI.foldR r (h.rS p)
def j1S (N : Nat) (m : List (Int × Job)) (q : QS) : List (Int × Job) := (q.js ++ q.cur.toList).foldl (fun m p => jq m p.1 (x8 N p.2)) m
def j1V (m : List (Int × Due)) (q : QS) : List (Int × Due) := q.ov.foldl (fun m p => jq m p.1 p.2) m
theorem Vu (l : List Task) (dm : List (List Int)) (i : Int) (lt : List Due) (T : List Int) (m1 : List (Int × Job)) (m2 : List (Int × Due)) (hd : ∀ d ∈ lt, 0 <= d.at_ ∧ d.at_ < T.length) : ∀ n, n <= lt.length ->
  qV l dm i lt ⟨0, 0, T, m1, m2⟩ n = ⟨((yP i lt n).foldl (qS l dm i) (q0 T)).no, ((yP i lt n).foldl (qS l dm i) (q0 T)).free, ((yP i lt n).foldl (qS l dm i) (q0 T)).T, j1S T.length m1 ((yP i lt n).foldl (qS l dm i) (q0 T)), j1V m2 ((yP i lt n).foldl (qS l dm i) (q0 T))⟩
 | 0, _ => rfl
 | n + 1, hn => by
  have ih := Vu l dm i lt T m1 m2 hd n (by omega)
  have hm : lt.getD n default ∈ lt := by
   have e : lt.getD n default = lt[n] := by simp [show n < lt.length by omega]
   rw [e]; exact List.getElem_mem _
  have hq : QI dm i T.length ((yP i lt n).foldl (qS l dm i) (q0 T)) := QI.fold _ (QI.q0 rfl) fun p hp => by
   obtain ⟨h1, h2, h3⟩ := J0 hp
   rw [h2]
   have e : lt.getD p.1 default = lt[p.1] := by simp [show p.1 < lt.length by omega]
   rw [e]; exact hd _ (List.getElem_mem _)
  have hdn := hd _ hm
  rw [qV, ih, j18, List.foldl_append]
  generalize (yP i lt n).foldl (qS l dm i) (q0 T) = q at hq ⊢
  generalize lt.getD n default = d at hdn ⊢
  unfold yx
  by_cases ht : d.task = i
  ·rw [if_neg (by simpa using ht), if_pos ht, List.foldl_cons, List.foldl_nil]
   simp only
   by_cases hc : q.free < 0 ∨ d.at_ < q.free
   ·rw [if_pos hc]
    have e : qS l dm i q (n, d) = { q with ov := q.ov ++ [(n, d)] } := by unfold qS; rw [if_pos hc]
    rw [e]
    simp only [j1S, j1V, List.foldl_append, List.foldl_cons, List.foldl_nil]
   ·rw [if_neg hc]
    have hcur : q.cur = none := by
     cases hq2 : q.cur with
     | none => rfl
     | some z => obtain ⟨k, j⟩ := z; have := (hq.busy k j hq2).1; omega
    have hlen := hq.len
    have e : qS l dm i q (n, d) = wF { q with no := q.no + 1 } (jy (ji dm i q.no) (q.T.length - d.at_.toNat) q.T (ql l i q.no d) d.at_.toNat).1 n (jy (ji dm i q.no) (q.T.length - d.at_.toNat) q.T (ql l i q.no d) d.at_.toNat).2 := by
     unfold qS; rw [if_neg hc]
    have e2 : zc dm q.T (ql l i q.no d) = ((jy (ji dm i q.no) (q.T.length - d.at_.toNat) q.T (ql l i q.no d) d.at_.toNat).1, x8 q.T.length (jy (ji dm i q.no) (q.T.length - d.at_.toNat) q.T (ql l i q.no d) d.at_.toNat).2) := rfl
    have hf := yB (ji dm i q.no) (q.T.length - d.at_.toNat) q.T (ql l i q.no d) d.at_.toNat (by have := xd dm i q.no; simp only [ql]; omega) rfl
    rw [e, e2]
    generalize jy (ji dm i q.no) (q.T.length - d.at_.toNat) q.T (ql l i q.no d) d.at_.toNat = g at hf ⊢
    have hmf : (x8 q.T.length g.2).fin = g.2.fin := rfl
    rw [hlen] at *
    rcases hf with ⟨h2, h3⟩ | ⟨h2, h3, h4⟩
    ·unfold wF
     rw [if_pos (by omega)]
     simp only [j1S, j1V, hcur, hmf, h3, Option.toList, List.append_nil, List.foldl_append, List.foldl_cons, List.foldl_nil]
    ·unfold wF
     rw [if_neg (by omega)]
     simp only [j1S, j1V, hcur, hmf, Option.toList, List.append_nil, List.foldl_append, List.foldl_cons, List.foldl_nil]
  ·rw [if_pos (by simpa using ht), if_neg ht, List.foldl_nil]
/-! Tick by tick. -/
theorem Yf {L : List (Nat × Due)} (t : Int) (h : L.Pairwise fun a b => a.2.at_ <= b.2.at_) : (L.filter fun p => decide (p.2.at_ < t + 1)) = (L.filter fun p => decide (p.2.at_ < t)) ++ L.filter fun p => decide (p.2.at_ = t) := by
 induction L with
 | nil => rfl
 | cons a r ih =>
  rw [List.pairwise_cons] at h
  have ih := ih h.2
  rw [List.filter_cons, List.filter_cons, List.filter_cons]
  by_cases h1 : a.2.at_ < t
  ·rw [if_pos (decide_eq_true (show a.2.at_ < t + 1 by omega)), if_pos (decide_eq_true h1), if_neg (by rw [decide_eq_true_eq]; omega), ih]; rfl
  ·have e0 : (r.filter fun p => decide (p.2.at_ < t)) = [] := List.filter_eq_nil_iff.2 fun p hp => by have := h.1 p hp; rw [decide_eq_true_eq]; omega
   rw [e0, List.nil_append] at ih
   by_cases h2 : a.2.at_ = t
   ·rw [if_pos (decide_eq_true (show a.2.at_ < t + 1 by omega)), if_neg (by rw [decide_eq_true_eq]; omega), if_pos (decide_eq_true h2), e0, List.nil_append, ih]
   ·rw [if_neg (by rw [decide_eq_true_eq]; omega), if_neg (by rw [decide_eq_true_eq]; omega), if_neg (by rw [decide_eq_true_eq]; omega), e0, List.nil_append, ih]
def Xe (i : Int) (S : List Due) (t : Nat) : List (Nat × Due) := (yP i S S.length).filter fun p => decide (p.2.at_ < (t : Int))
def Yv (i : Int) (S : List Due) (t : Nat) : List (Nat × Due) := (yP i S S.length).filter fun p => decide (p.2.at_ = (t : Int))
def plT (l : List Task) (dm : List (List Int)) (S : List Due) (rk : List Int) (t : Nat) : Nat -> List Int
 | 0 => List.replicate t (-1)
 | r + 1 => ((Xe (jF rk r 0) S t).foldl (qS l dm (jF rk r 0)) (q0 (plT l dm S rk t r))).T
def qR (l : List Task) (dm : List (List Int)) (S : List Due) (rk : List Int) (t r : Nat) : QS := (Xe (jF rk r 0) S t).foldl (qS l dm (jF rk r 0)) (q0 (plT l dm S rk t r))
def pR (l : List Task) (dm : List (List Int)) (S : List Due) (rk : List Int) (t r : Nat) : QS := (Yv (jF rk r 0) S t).foldl (rS l (jF rk r 0)) (qR l dm S rk t r)
def xR (l : List Task) (dm : List (List Int)) (S : List Due) (rk : List Int) (t : Nat) : Nat -> Int
 | 0 => -1
 | r + 1 => if (pR l dm S rk t r).cur.isSome = true ∧ xR l dm S rk t r = -1 then jF rk r 0 else xR l dm S rk t r
theorem Yc {i : Int} {S : List Due} (hS : S.Pairwise leD) : (yP i S S.length).Pairwise fun a b => a.2.at_ <= b.2.at_ := by
 unfold yP
 refine List.Pairwise.filter _ ?_
 rw [List.pairwise_map]
 refine (List.pairwise_lt_range).imp_of_mem fun {a b} ha hb hab => ?_
 have ha := List.mem_range.1 ha
 have hb := List.mem_range.1 hb
 have e1 : S.getD a default = S[a] := by simp [ha]
 have e2 : S.getD b default = S[b] := by simp [hb]
 rw [e1, e2]
 have := List.pairwise_iff_getElem.1 hS a b ha hb hab
 unfold leD at this
 show S[a].at_ <= S[b].at_
 omega
theorem j6k (l : List Task) (i : Int) : ∀ (rs : List (Nat × Due)) (s : QS), (rs.foldl (rS l i) s).T = s.T
 | [], s => rfl
 | p :: r, s => by
  rw [List.foldl_cons, j6k l i r]
  unfold rS
  split <;> rfl
theorem j3v (dm : List (List Int)) (i : Int) (t : Nat) (x : Int) (s : QS) : (qX dm i t x s).T = s.T ++ [if s.cur.isSome = true ∧ x = -1 then i else x] := by
 obtain ⟨no, free, T, js, cur, ov⟩ := s
 unfold qX wF
 cases cur with
 | none => simp
 | some q =>
  obtain ⟨k, j⟩ := q
  simp only [Option.isSome_some, true_and]
  by_cases h : x = -1
  ·rw [if_pos h, if_pos h]; split <;> rfl
  ·rw [if_neg h, if_neg h]
theorem Ve {l : List Task} {dm : List (List Int)} {S : List Due} (hS : S.Pairwise leD) (h0 : ∀ d ∈ S, 0 <= d.at_) (rk : List Int) (t : Nat) : ∀ r : Nat,
  (plT l dm S rk t r).length = t ∧ plT l dm S rk (t + 1) r = plT l dm S rk t r ++ [xR l dm S rk t r] ∧ QI dm (jF rk r 0) t (qR l dm S rk t r) ∧ qR l dm S rk (t + 1) r = qX dm (jF rk r 0) t (xR l dm S rk t r) (pR l dm S rk t r) := by
 have key : ∀ r : Nat, (plT l dm S rk t r).length = t -> plT l dm S rk (t + 1) r = plT l dm S rk t r ++ [xR l dm S rk t r] -> QI dm (jF rk r 0) t (qR l dm S rk t r) ∧ qR l dm S rk (t + 1) r = qX dm (jF rk r 0) t (xR l dm S rk t r) (pR l dm S rk t r) := fun r h1 h2 => by
  have hold : ∀ p ∈ Xe (jF rk r 0) S t, 0 <= p.2.at_ ∧ p.2.at_ < t := fun p hp => by
   unfold Xe at hp
   rw [List.mem_filter] at hp
   obtain ⟨a, b, c⟩ := J0 hp.1
   refine ⟨?_, by simpa using hp.2⟩
   rw [b]
   have e : S.getD p.1 default = S[p.1] := by simp [a]
   rw [e]; exact h0 _ (List.getElem_mem _)
  refine ⟨QI.fold _ (QI.q0 h1) hold, ?_⟩
  unfold qR pR
  have e : Xe (jF rk r 0) S (t + 1) = Xe (jF rk r 0) S t ++ Yv (jF rk r 0) S t := by
   unfold Xe Yv
   have := Yf (t : Int) (Yc (i := jF rk r 0) hS)
   simpa using this
  rw [e, h2]
  exact XG (xR l dm S rk t r) _ (fun p hp => by unfold Yv at hp; rw [List.mem_filter] at hp; simpa using hp.2) _ (q0 (plT l dm S rk t r)) (QI.q0 h1) hold
 intro r
 induction r with
 | zero =>
  have h1 : (plT l dm S rk t 0).length = t := by simp [plT]
  have h2 : plT l dm S rk (t + 1) 0 = plT l dm S rk t 0 ++ [xR l dm S rk t 0] := by simp only [plT, xR]; rw [List.replicate_succ']
  exact ⟨h1, h2, key 0 h1 h2⟩
 | succ r ih =>
  obtain ⟨h1, h2, h3, h4⟩ := ih
  have e : ∀ u, plT l dm S rk u (r + 1) = (qR l dm S rk u r).T := fun u => rfl
  have k1 : (plT l dm S rk t (r + 1)).length = t := by rw [e]; exact h3.len
  have k2 : plT l dm S rk (t + 1) (r + 1) = plT l dm S rk t (r + 1) ++ [xR l dm S rk t (r + 1)] := by
   rw [e, e, h4, j3v]
   have : (pR l dm S rk t r).T = (qR l dm S rk t r).T := j6k _ _ _ _
   rw [this]
   rfl
  exact ⟨k1, k2, key (r + 1) k1 k2⟩
end Go.Proofs.YtfjoaeghnfkdlaaGreatDoor
