/- slices.SortStableFunc, with a closure: stable and the function itself. Printed by gensort.py. No condition. -/
import Derived.Test.YtfjoaeghnfkdlaaGreatDoorB14
import Derived.Test.YtfjoaeghnfkdlaaGreatDoorB8
import Derived.Test.YtfjoaeghnfkdlaaGreatDoorB13
import Derived.Test.YtfjoaeghnfkdlaaGreatDoorB10
set_option linter.unusedSimpArgs false
set_option linter.unusedVariables false
set_option maxHeartbeats 1000000
set_option linter.unnecessarySimpa false
set_option maxRecDepth 100000
namespace Go.Proofs.YtfjoaeghnfkdlaaGreatDoor
open Go.RowKit
set_option maxHeartbeats 8000000 in
theorem j49 (fc : FuncId) (prio : List Int) (c : Int -> Int -> Int) (p : Int -> Prop) (hs : SWO (jT c)) (hF : ∀ x y, p x -> p y -> Fn Tryz.prog fc ([(fun x : Int => AV.int .i64 x) x, (fun x : Int => AV.int .i64 x) y] ++ [.ref [.lst 1 (prio.map eI)]]) (.int .i64 (c x y))) (xx : List Int) (hp : ∀ x ∈ xx, p x) (n : Int) (hn : n = xx.length) (hl : xx.length <= 500000000) :
  FnH Tryz.prog 168 [.own 4, .int .i64 n, .fn (.func fc) [] [.ref [.lst 1 (prio.map eI)]]] [(4, .row 3 1 (xx.map eI))]
  (fun r h' => r = .tup [] ∧ ∃ xx', StS (jT c) xx xx' ∧ h' = [(4, .row 3 1 (xx'.map eI))]) := by
 refine qo Tryz.func168 (j5 (by kernel_rfl)) rfl rfl ?_
 subst hn
 repeat' (first | refine sT ?_ | refine sQ ?_ ?_ | intro hc | exact trivial)
 refine jk (fun z : List (List Int) × List Int × List Int => ([(0, .own 4), (1, .int .i64 xx.length), (2, .fn (.func fc) [] [.ref [.lst 1 (prio.map eI)]]), (6, .int .i64 20), (7, .int .i64 z.2.1.length), (8, .int .i64 (z.2.1.length + 20))], [(4, .row 3 1 ((z.2.1 ++ z.2.2).map eI))]))
  (fun z => Rch (jT c) xx (z.2.1 ++ z.2.2) ∧ z.2.1 = z.1.flatten ∧ ∀ x ∈ z.1, x.length = 20 ∧ Srt (jT c) x) (fun z => z.2.2.length) ([], [], xx)
  ⟨.refl, rfl, fun x hx => by cases hx⟩ les leh (fun z hz => ?_)
 obtain ⟨cs, dd, ee⟩ := z
 obtain ⟨k1, k2, k3⟩ := hz
 simp only at k1 k2 k3 ⊢
 have k4 : dd.length + ee.length = xx.length := by have := k1.len; rwa [List.length_append] at this
 have hpe : ∀ x ∈ ee, p x := fun x hx => hp x (k1.mem.1 (List.mem_append_right _ hx))
 rcases Nat.lt_or_ge ee.length 20 with h20 | h20
 ·rw [show dd ++ ee = dd ++ ee ++ [] by simp]
  repeat' (first | refine sT ?_ | refine sQ ?_ ?_ | intro hc | exact trivial)
  all_goals first | (exfalso; omega) | skip
  refine jL (fun i => i) (Zy fc prio c p hs hF dd ee [] hpe _ _ (by omega) (by omega) (by simp only [List.length_nil]; omega)) rfl rfl leh rfl rfl rfl rfl rfl rfl (fun r h' hR => ?_)
  obtain ⟨rfl, e', he', rfl⟩ := hR
  refine ⟨rfl, rfl, ?_⟩
  have l1 := he'.1.len
  repeat' (first | refine sT ?_ | refine sQ ?_ ?_ | intro hc | exact trivial)
  refine jk (fun z : Nat × List (List Int) × List Int × List Int => ([(0, .own 4), (1, .int .i64 xx.length), (2, .fn (.func fc) [] [.ref [.lst 1 (prio.map eI)]]), (6, .int .i64 z.1)], [(4, .row 3 1 (z.2.2.1.map eI))]))
   (fun z => 0 < z.1 ∧ z.1 <= 40 + 2 * xx.length ∧ Rch (jT c) xx z.2.2.1 ∧ BS (jT c) z.1 z.2.2.1 z.2.1 z.2.2.2) (fun z => xx.length - z.1) (20, cs, dd ++ e', e')
   ⟨by simp only; omega, by simp only; omega, k1.trans ((Rch.refl (lt := jT c) (l := dd)).app he'.1), ⟨by rw [<- k2], k3, by simp only; omega, he'.2⟩⟩ les (by dsimp only; rw [List.append_nil]; exact leh) (fun z hz => ?_)
  obtain ⟨k, cs, bb, e'⟩ := z
  obtain ⟨m1, m2, m3, m4⟩ := hz
  simp only at m1 m2 m3 m4 ⊢
  have m5 : bb.length = xx.length := m3.len
  clear k1 k2 k3 k4 hpe he' l1 h20
  rcases Nat.lt_or_ge k xx.length with hk | hk
  ·repeat' (first | refine sT ?_ | refine sQ ?_ ?_ | intro hc | exact trivial)
   all_goals first | (exfalso; omega) | skip
   refine jk (fun z : List (List Int) × List (List Int) × List Int × List Int × List Int => ([(0, .own 4), (1, .int .i64 xx.length), (2, .fn (.func fc) [] [.ref [.lst 1 (prio.map eI)]]), (6, .int .i64 k), (7, .int .i64 z.2.2.1.length), (8, .int .i64 (z.2.2.1.length + 2 * k))], [(4, .row 3 1 ((z.2.2.1 ++ z.2.2.2.1).map eI))]))
    (fun z => Rch (jT c) xx (z.2.2.1 ++ z.2.2.2.1) ∧ z.2.2.1 = z.1.flatten ∧ (∀ x ∈ z.1, x.length = 2 * k ∧ Srt (jT c) x) ∧ BS (jT c) k z.2.2.2.1 z.2.1 z.2.2.2.2) (fun z => z.2.2.2.1.length) ([], cs, [], bb, e')
    ⟨m3, rfl, fun x hx => (by cases hx), m4⟩ les leh (fun z hz => ?_)
   obtain ⟨cs2, cs, dd, bb, e'⟩ := z
   obtain ⟨n1, n2, n3, n4⟩ := hz
   simp only at n1 n2 n3 n4 ⊢
   clear m3 m4 m5
   have n5 : dd.length + bb.length = xx.length := by have := n1.len; rwa [List.length_append] at this
   have hpb : ∀ x ∈ bb, p x := fun x hx => hp x (n1.mem.1 (List.mem_append_right _ hx))
   rcases Nat.lt_or_ge bb.length (2 * k) with h2k | h2k
   ·rcases n4.last m1 h2k with ⟨o1, o2⟩ | ⟨o1, c1, c2, rfl, o2, o3, o4⟩
    ·repeat' (first | refine sT ?_ | refine sQ ?_ ?_ | intro hc | exact trivial)
     all_goals first | (exfalso; omega) | skip
     exact ⟨(k * 2, cs2, dd ++ bb, bb), ⟨by simp only; omega, by simp only; omega, n1, ⟨by rw [n2], fun x hx => by have := n3 x hx; exact ⟨by simp only; omega, this.2⟩, by simp only; omega, o2⟩⟩, by simp only; omega, les, leh⟩
    ·rw [List.length_append] at h2k n5 o1
     rw [show dd ++ (c1 ++ c2) = dd ++ c1 ++ c2 ++ [] by simp]
     repeat' (first | refine sT ?_ | refine sQ ?_ ?_ | intro hc | exact trivial)
     all_goals first | (exfalso; omega) | skip
     refine jL (fun i => i) (j3b fc prio c p hs hF _ dd c1 c2 [] (Nat.le_refl _) (fun x hx => hpb x (List.mem_append_left _ hx)) (fun x hx => hpb x (List.mem_append_right _ hx)) o3 o4 (by omega) (by omega) _ _ _ (by omega) (by omega) (by omega) (by simp only [List.length_nil]; omega)) rfl rfl leh rfl rfl rfl rfl rfl rfl (fun r h' hR => ?_)
     obtain ⟨rfl, mm, hmm, rfl⟩ := hR
     refine ⟨rfl, rfl, ?_⟩
     have l1 := hmm.1.len
     rw [List.length_append] at l1
     repeat' (first | refine sT ?_ | refine sQ ?_ ?_ | intro hc | exact trivial)
     all_goals first | (exfalso; omega) | skip
     exact ⟨(k * 2, cs2, dd ++ mm, mm), ⟨by simp only; omega, by simp only; omega, n1.trans ((Rch.refl (lt := jT c) (l := dd)).app hmm.1), ⟨by rw [n2], fun x hx => by have := n3 x hx; exact ⟨by simp only; omega, this.2⟩, by simp only; omega, hmm.2⟩⟩, by simp only; omega, les, by dsimp only; rw [List.append_nil]; exact leh⟩
   ·obtain ⟨c1, c2, b', cs', c', rfl, o1, o2, o3, o4, o5⟩ := n4.two m1 h2k
    rw [List.length_append, List.length_append] at h2k n5
    rw [show dd ++ (c1 ++ c2 ++ b') = dd ++ c1 ++ c2 ++ b' by simp]
    repeat' (first | refine sT ?_ | refine sQ ?_ ?_ | intro hc | exact trivial)
    all_goals first | (exfalso; omega) | skip
    refine jL (fun i => i) (j3b fc prio c p hs hF _ dd c1 c2 b' (Nat.le_refl _) (fun x hx => hpb x (List.mem_append_left _ (List.mem_append_left _ hx))) (fun x hx => hpb x (List.mem_append_left _ (List.mem_append_right _ hx))) o3 o4 (by omega) (by omega) _ _ _ (by omega) (by omega) (by omega) (by omega)) rfl rfl leh rfl rfl rfl rfl rfl rfl (fun r h' hR => ?_)
    obtain ⟨rfl, mm, hmm, rfl⟩ := hR
    refine ⟨rfl, rfl, ?_⟩
    have l1 := hmm.1.len
    rw [List.length_append] at l1
    repeat' (first | refine sT ?_ | refine sQ ?_ ?_ | intro hc | exact trivial)
    all_goals first | (exfalso; omega) | skip
    have hb := BS.snoc (lt := jT c) (A := dd) (c := mm) n2 n3 (by omega) hmm.2
    exact ⟨(cs2 ++ [mm], cs', dd ++ mm, b', c'), ⟨by
     have := n1.trans (((Rch.refl (lt := jT c) (l := dd)).app hmm.1).app (Rch.refl (lt := jT c) (l := b')) |> fun h => by simpa using h)
     simpa using this, hb.1, hb.2, o5⟩, by simp only [List.length_append]; omega, les, leh⟩
  ·have m6 := m4.whole m1 (by omega)
   repeat' (first | refine sT ?_ | refine sQ ?_ ?_ | intro hc | exact trivial)
   all_goals first | (exfalso; omega) | skip
   first | exact vb rfl ⟨rfl, bb, ⟨m3, m6⟩, rfl⟩ | exact jK rfl ⟨rfl, bb, ⟨m3, m6⟩, rfl⟩
 ·obtain ⟨e1, e2, rfl, he1⟩ : ∃ e1 e2, ee = e1 ++ e2 ∧ e1.length = 20 := ⟨ee.take 20, ee.drop 20, (tdl _ _).symm, by rw [List.length_take]; omega⟩
  rw [List.length_append] at k4
  rw [show dd ++ (e1 ++ e2) = dd ++ e1 ++ e2 by simp]
  repeat' (first | refine sT ?_ | refine sQ ?_ ?_ | intro hc | exact trivial)
  all_goals first | (exfalso; omega) | skip
  refine jL (fun i => i) (Zy fc prio c p hs hF dd e1 e2 (fun x hx => hpe x (List.mem_append_left _ hx)) _ _ (by omega) (by omega) (by omega)) rfl rfl leh rfl rfl rfl rfl rfl rfl (fun r h' hR => ?_)
  obtain ⟨rfl, mm, hmm, rfl⟩ := hR
  refine ⟨rfl, rfl, ?_⟩
  have l1 := hmm.1.len
  repeat' (first | refine sT ?_ | refine sQ ?_ ?_ | intro hc | exact trivial)
  all_goals first | (exfalso; omega) | skip
  have hb := BS.snoc (lt := jT c) (A := dd) (c := mm) k2 k3 (by omega) hmm.2
  exact ⟨(cs ++ [mm], dd ++ mm, e2), ⟨by
   have := k1.trans (((Rch.refl (lt := jT c) (l := dd)).app hmm.1).app (Rch.refl (lt := jT c) (l := e2)) |> fun h => by simpa using h)
   simpa using this, hb.1, hb.2⟩, by simp only [List.length_append]; omega, les, leh⟩
theorem j3H (fc : FuncId) (prio : List Int) (c : Int -> Int -> Int) (p : Int -> Prop) (hs : SWO (jT c)) (hF : ∀ x y, p x -> p y -> Fn Tryz.prog fc ([(fun x : Int => AV.int .i64 x) x, (fun x : Int => AV.int .i64 x) y] ++ [.ref [.lst 1 (prio.map eI)]]) (.int .i64 (c x y))) (xx : List Int) (hp : ∀ x ∈ xx, p x) (hl : xx.length <= 500000000) :
  FnH Tryz.prog 161 [.own 4, .fn (.func fc) [] [.ref [.lst 1 (prio.map eI)]]] [(4, .row 3 1 (xx.map eI))]
  (fun r h' => r = .tup [] ∧ ∃ xx', StS (jT c) xx xx' ∧ h' = [(4, .row 3 1 (xx'.map eI))]) := by
 refine qo Tryz.func161 (j5 (by kernel_rfl)) rfl rfl ?_
 repeat' (first | refine sT ?_ | refine sQ ?_ ?_ | intro hc | exact trivial)
 refine jL (fun i => i) (j49 fc prio c p hs hF xx hp _ rfl hl) rfl rfl leh rfl rfl rfl rfl rfl rfl (fun r h' hR => ?_)
 obtain ⟨rfl, mm, hmm, rfl⟩ := hR
 refine ⟨rfl, rfl, ?_⟩
 repeat' (first | refine sT ?_ | refine sQ ?_ ?_ | intro hc | exact trivial)
 first | exact vb rfl ⟨rfl, mm, hmm, rfl⟩ | exact jK rfl ⟨rfl, mm, hmm, rfl⟩
def zW (a b : Int) : Int := if a < b then -1 else if b < a then 1 else 0
theorem y5 {a b : Int} : zW a b < 0 ↔ a < b := by
 unfold zW; split
 ·omega
 ·split <;> omega
theorem j5d {a b : Int} : zW a b = 0 ↔ a = b := by
 unfold zW; split
 ·omega
 ·split <;> omega
theorem j6O (a : Int) : Fn Tryz.prog 118 [.int .i64 a] (.bool false) := by
 refine fnb Tryz.func118 (j5 (by kernel_rfl)) rfl rfl rfl ?_
 repeat' (first | refine sT ?_ | refine sQ ?_ ?_ | intro hc | exact trivial)
 all_goals exact jK rfl (congrArg AV.bool (by simp))
theorem VE (a b : Int) : Fn Tryz.prog 90 [.int .i64 a, .int .i64 b] (.int .i64 (zW a b)) := by
 refine fnb Tryz.func90 (j5 (by kernel_rfl)) rfl rfl rfl ?_
 repeat' (first | refine sT ?_ | refine sC (j6O _) ?_ | refine sQ ?_ ?_ | intro hc | exact trivial)
 all_goals exact jK rfl (congrArg (AV.int .i64) (by unfold zW; split <;> first | omega | (split <;> omega)))
end Go.Proofs.YtfjoaeghnfkdlaaGreatDoor
namespace Go.Proofs.YtfjoaeghnfkdlaaGreatDoor
def pr (prio : List Int) (i : Int) : Int := prio.getD i.toNat default
def vW (prio : List Int) (a b : Int) : Bool := decide (pr prio b < pr prio a ∨ pr prio a = pr prio b ∧ a < b)
def idx (n : Nat) : List Int := (List.range n).map fun k : Nat => (k : Int)
theorem QX (n : Nat) : (idx n).length = n := by simp [idx]
theorem QK {n : Nat} {i : Int} : i ∈ idx n ↔ 0 <= i ∧ i < n := by
 simp only [idx, List.mem_map, List.mem_range]
 constructor
 ·rintro ⟨k, hk, rfl⟩; omega
 ·intro h; exact ⟨i.toNat, by omega, by omega⟩
theorem j1x (n : Nat) : (idx n).Pairwise (· < ·) := by
 rw [idx, List.pairwise_map]
 exact List.pairwise_lt_range.imp fun h => by omega
def rk (prio : List Int) (n : Nat) (i : Int) : Nat := (idx n).countP fun j => vW prio j i
theorem j74 (prio : List Int) : SWO (fun x y : Int => decide (zW (pr prio y) (pr prio x) < 0)) :=
 ⟨fun x => by simp [y5], fun x y z h1 h2 => by simp only [decide_eq_true_eq, y5] at *; omega, fun x y z h1 h2 => by simp only [decide_eq_false_iff_not, y5] at *; omega⟩
structure Ord (prio : List Int) (n : Nat) (o : List Int) : Prop where
 perm : o.Perm (idx n)
 srt : o.Pairwise fun a b => vW prio a b = true
theorem j5n {prio : List Int} {n : Nat} {o : List Int} (h : StS (fun x y : Int => decide (zW (pr prio y) (pr prio x) < 0)) (idx n) o) : Ord prio n o := by
 refine ⟨h.1.perm, ?_⟩
 have h1 := h.1.pairs (j1x n)
 refine (h1.and h.2).imp fun {a b} ⟨h2, h3⟩ => ?_
 simp only [decide_eq_true_eq, decide_eq_false_iff_not, y5, vW] at *
 omega
theorem Ord.len {prio : List Int} {n : Nat} {o : List Int} (h : Ord prio n o) : o.length = n := by rw [h.perm.length_eq, QX]
theorem Ord.mem {prio : List Int} {n : Nat} {o : List Int} (h : Ord prio n o) {i : Int} : i ∈ o ↔ 0 <= i ∧ i < n := by rw [h.perm.mem_iff, QK]
theorem Ord.at {prio : List Int} {n : Nat} {o : List Int} (h : Ord prio n o) {k : Nat} (hk : k < n) : 0 <= o.getD k default ∧ o.getD k default < n := h.mem.1 (qN (by rw [h.len]; exact hk))
theorem Ord.rank {prio : List Int} {n : Nat} {o : List Int} (h : Ord prio n o) {k : Nat} (hk : k < n) : rk prio n (o.getD k default) = k := by
 obtain ⟨a, x, b, rfl, ha⟩ := V5 (l := o) (k := k) (by rw [h.len]; exact hk)
 have e : (a ++ x :: b).getD k default = x := Zq rfl ha.symm
 rw [e, rk, <- h.perm.countP_eq, List.countP_append, List.countP_cons]
 have hs := h.srt
 rw [List.pairwise_append, List.pairwise_cons] at hs
 obtain ⟨_, ⟨h2, _⟩, h3⟩ := hs
 have c1 : a.countP (fun j => vW prio j x) = a.length := List.countP_eq_length.2 fun j hj => h3 j hj x List.mem_cons_self
 have c2 : b.countP (fun j => vW prio j x) = 0 := List.countP_eq_zero.2 fun j hj => by
  have := h2 j hj
  simp only [vW, decide_eq_true_eq] at *
  omega
 have c3 : vW prio x x = false := by simp [vW]
 rw [c1, c2, c3, ha]; simp
theorem Ord.back {prio : List Int} {n : Nat} {o : List Int} (h : Ord prio n o) {i : Int} (hi : 0 <= i ∧ i < n) : rk prio n i < n ∧ o.getD (rk prio n i) default = i := by
 obtain ⟨k, hk, rfl⟩ := List.getElem_of_mem (h.mem.2 hi)
 have hk' : k < n := by rw [<- h.len]; exact hk
 have e : o.getD k default = o[k] := by simp [hk]
 have := h.rank hk'
 rw [e] at this
 rw [this]
 exact ⟨hk', e⟩
def j4S (prio : List Int) (n : Nat) : List Int := (List.range n).map fun k => ((idx n).find? fun i => rk prio n i == k).getD 0
theorem Ord.eq {prio : List Int} {n : Nat} {o : List Int} (h : Ord prio n o) : o = j4S prio n := by
 refine List.ext_getElem (by rw [h.len]; simp [j4S]) fun k h1 h2 => ?_
 have hk : k < n := by rw [<- h.len]; exact h1
 have hr := h.rank hk
 have hm := h.at hk
 have e : o.getD k default = o[k] := by simp [h1]
 rw [e] at hr hm
 simp only [j4S, List.getElem_map, List.getElem_range]
 cases hf : (idx n).find? fun i => rk prio n i == k with
 | none =>
  have := List.find?_eq_none.1 hf _ (QK.2 hm)
  simp [hr] at this
 | some i =>
  have h3 := List.find?_some hf
  have h4 := QK.1 (List.mem_of_find?_eq_some hf)
  have h5 : rk prio n i = k := by simpa using h3
  have h6 := (h.back h4).2
  rw [h5, e] at h6
  rw [Option.getD_some, h6]
def rkL (prio : List Int) (n : Nat) : List Int := (List.range n).map fun k : Nat => (rk prio n (k : Int) : Int)
theorem JO (prio : List Int) (n : Nat) : (rkL prio n).length = n := by simp [rkL]
theorem j2u (prio : List Int) {n k : Nat} (h : k < n) : (rkL prio n).getD k default = (rk prio n (k : Int) : Int) := by simp [rkL, h]
theorem ZD {prio : List Int} {n : Nat} {o out : List Int} (h : Ord prio n o) {k : Nat} (hk : k < n) (hl : out.length = n) (hj : ∀ j, j < k -> out.getD (o.getD j default).toNat default = (j : Int)) :
  ∀ j, j < k + 1 -> (out.set (o.getD k default).toNat (k : Int)).getD (o.getD j default).toNat default = (j : Int) := by
 intro j hjk
 have hm := h.at hk
 by_cases e : j = k
 ·subst e
  rw [List.getD_eq_getElem?_getD (l := out.set _ _), List.getElem?_set_self (by omega)]; rfl
 ·have hm2 := h.at (k := j) (by omega)
  have hne : (o.getD k default).toNat ≠ (o.getD j default).toNat := fun e2 => by
   have e3 : o.getD k default = o.getD j default := by omega
   have h1 := h.rank hk
   have h2 := h.rank (k := j) (by omega)
   rw [e3, h2] at h1
   omega
  have := hj j (by omega)
  simp only [List.getD_eq_getElem?_getD] at *
  rw [List.getElem?_set_ne hne]
  exact this
theorem ZJ {prio : List Int} {n : Nat} {o out : List Int} (h : Ord prio n o) (hl : out.length = n) (hj : ∀ j, j < n -> out.getD (o.getD j default).toNat default = (j : Int)) : out = rkL prio n := by
 refine List.ext_getElem (by rw [hl, JO]) fun k h1 h2 => ?_
 have hk : k < n := by rw [<- hl]; exact h1
 obtain ⟨h3, h4⟩ := h.back (i := (k : Int)) (by omega)
 have h5 := hj _ h3
 rw [h4] at h5
 simp only [Int.toNat_natCast] at h5
 have e : out.getD k default = out[k] := by simp [h1]
 rw [e] at h5
 rw [h5]
 simp [rkL]
theorem ZE (prio : List Int) (n : Nat) : ∃ o, Ord prio n o := by
 refine ⟨(idx n).mergeSort (fun a b => !vW prio b a), List.mergeSort_perm _ _, ?_⟩
 have h1 := List.pairwise_mergeSort (le := fun a b => !vW prio b a) (fun a b c h1 h2 => by simp only [vW, Bool.not_eq_true', decide_eq_false_iff_not] at *; omega) (fun a b => by simp only [vW, Bool.or_eq_true, Bool.not_eq_true', decide_eq_false_iff_not] at *; omega) (idx n)
 have h2 : ((idx n).mergeSort (fun a b => !vW prio b a)).Nodup := (List.mergeSort_perm _ _).nodup_iff.2 ((j1x n).imp fun h => by omega)
 refine (h1.and h2).imp fun {a b} ⟨h3, h4⟩ => ?_
 simp only [vW, Bool.not_eq_true', decide_eq_false_iff_not, decide_eq_true_eq] at *
 omega
end Go.Proofs.YtfjoaeghnfkdlaaGreatDoor
namespace Go.Proofs.YtfjoaeghnfkdlaaGreatDoor
open Go.RowKit
theorem j4p (prio : List Int) (x y : Int) (hx : 0 <= x ∧ x < prio.length) (hy : 0 <= y ∧ y < prio.length) : Fn Tryz.prog 162 ([.int .i64 x, .int .i64 y] ++ [.ref [.lst 1 (prio.map eI)]]) (.int .i64 (zW (pr prio y) (pr prio x))) := by
 refine fnb Tryz.func162 (j5 (by kernel_rfl)) rfl rfl rfl ?_
 have c1 := VE (pr prio y) (pr prio x)
 repeat' (first | refine sT ?_ | refine sC (c1) ?_ | refine sQ ?_ ?_ | intro hc | exact trivial)
 exact jK rfl rfl
theorem j3M (prio : List Int) (hn : prio.length <= 1000000) : Fn Tryz.prog 144 [.lst 1 (prio.map eI)] (.lst 1 ((j4S prio prio.length).map eI)) := by
 refine fnb Tryz.func144 (j5 (by kernel_rfl)) rfl rfl rfl ?_
 repeat' (first | refine sT ?_ | refine sQ ?_ ?_ | intro hc | exact trivial)
 (refine j2e (f := eI) (d := (0 : Int)) (id := 10) (by_ := 8) (sz := 1) rfl rfl rfl rfl rfl rfl rfl rfl rfl rfl ?_ ?_ rfl rfl rfl rfl ?_; (· omega); (· omega))
 repeat' (first | refine sT ?_ | refine sQ ?_ ?_ | intro hc | exact trivial)
 refine jk (fun k : Nat => ([(1, .ref [.lst 1 (prio.map eI)]), (3, .own 10), (9, .int .i64 prio.length), (10, .int .i64 k)], [(10, .row 3 1 ((idx k ++ List.replicate (prio.length - k) (0 : Int)).map eI))])) (fun k => k <= prio.length) (fun k => prio.length - k) 0 (Nat.zero_le _) les leh (fun k hk => ?_)
 have hl : (idx k ++ List.replicate (prio.length - k) (0 : Int)).length = prio.length := by rw [List.length_append, QX, List.length_replicate]; omega
 repeat' (first | refine sT ?_ | refine sQ ?_ ?_ | intro hc | exact trivial)
 ·(refine yc (x' := (k : Int)) rfl rfl rfl rfl rfl rfl rfl rfl rfl ?_ rfl rfl rfl ?_; (· (first | omega | ((try simp only [List.length_set, List.length_cons, List.length_nil, List.length_append, List.length_map]) <;> omega))))
  repeat' (first | refine sT ?_ | refine sQ ?_ ?_ | intro hc | exact trivial)
  rw [show (idx k ++ List.replicate (prio.length - k) (0 : Int)).set k (k : Int) = idx (k + 1) ++ List.replicate (prio.length - (k + 1)) (0 : Int) from ?_]
  ·exact ⟨k + 1, by omega, by omega, les, leh⟩
  ·rw [show prio.length - k = (prio.length - (k + 1)) + 1 by omega, List.replicate_succ]
   have h1 := JF (idx k) (List.replicate (prio.length - (k + 1)) (0 : Int)) 0 (k : Int)
   rw [QX] at h1
   rw [h1, idx, idx, List.range_succ]
   simp
 ·obtain rfl : k = prio.length := by omega
  rw [Nat.sub_self, List.replicate_zero, List.append_nil]
  refine jL (fun i => i + 6) (j3H 162 prio (fun x y => zW (pr prio y) (pr prio x)) (fun x => 0 <= x ∧ x < prio.length) (j74 prio) (fun x y hx hy => j4p prio x y hx hy) (idx prio.length) (fun x hx => QK.1 hx) (by rw [QX]; omega)) rfl rfl leh rfl rfl rfl rfl rfl rfl (fun r h' hR => ?_)
  obtain ⟨rfl, o, ho, rfl⟩ := hR
  refine ⟨rfl, rfl, ?_⟩
  have h1 := (j5n ho).eq
  subst h1
  repeat' (first | refine sT ?_ | refine sQ ?_ ?_ | intro hc | exact trivial)
  refine ww (fun _ => jf (t := 2) rfl rfl rfl) ?_
  exact jK rfl rfl
theorem j2r (prio : List Int) (hn : prio.length <= 1000000) : Fn Tryz.prog 124 [.lst 1 (prio.map eI)] (.lst 1 ((rkL prio prio.length).map eI)) := by
 obtain ⟨o, ho⟩ := ZE prio prio.length
 have c1 := j3M prio hn
 rw [<- ho.eq] at c1
 refine fnb Tryz.func124 (j5 (by kernel_rfl)) rfl rfl rfl ?_
 repeat' (first | refine sT ?_ | refine sQ ?_ ?_ | intro hc | exact trivial)
 (refine j2e (f := eI) (d := (0 : Int)) (id := 10) (by_ := 8) (sz := 1) rfl rfl rfl rfl rfl rfl rfl rfl rfl rfl ?_ ?_ rfl rfl rfl rfl ?_; (· omega); (· omega))
 repeat' (first | refine sT ?_ | refine sC (c1) ?_ | refine sQ ?_ ?_ | intro hc | exact trivial)
 have hlo := ho.len
 refine jk (fun x : Nat × List Int => ([(3, .own 10), (10, .lst 1 (o.map eI)), (11, .int .i64 prio.length), (12, .int .i64 x.1)], [(10, .row 3 1 (x.2.map eI))])) (fun x => x.1 <= prio.length ∧ x.2.length = prio.length ∧ ∀ j, j < x.1 -> x.2.getD (o.getD j default).toNat default = (j : Int)) (fun x => prio.length - x.1) (0, List.replicate prio.length 0) ⟨Nat.zero_le _, by simp, fun j h => absurd h (Nat.not_lt_zero _)⟩ les leh (fun x hx => ?_)
 obtain ⟨k, out⟩ := x
 obtain ⟨k1, k2, k3⟩ := hx
 simp only at k1 k2 k3 ⊢
 rcases Nat.lt_or_eq_of_le k1 with hk | hk
 ·have h1 := ho.at hk
  have h2 := ZD ho hk k2 k3
  repeat' (first | refine sT ?_ | refine sQ ?_ ?_ | intro hc | exact trivial)
  all_goals first | (exfalso; omega) | skip
  (refine yc (x' := (k : Int)) rfl rfl rfl rfl rfl rfl rfl rfl rfl ?_ rfl rfl rfl ?_; (· (first | omega | ((try simp only [List.length_set, List.length_cons, List.length_nil, List.length_append, List.length_map]) <;> omega))))
  repeat' (first | refine sT ?_ | refine sQ ?_ ?_ | intro hc | exact trivial)
  exact ⟨(k + 1, out.set (o.getD k default).toNat (k : Int)), ⟨hk, by simpa using k2, h2⟩, by simp only; omega, les, leh⟩
 ·subst hk
  have h2 := ZJ ho k2 k3
  subst h2
  repeat' (first | refine sT ?_ | refine sQ ?_ ?_ | intro hc | exact trivial)
  all_goals first | (exfalso; omega) | skip
  refine ww (fun _ => jf (t := 2) rfl rfl rfl) ?_
  exact jK rfl rfl
def JM (i : Int) : Nat := if 0 <= i ∧ i <= 63 then 2 ^ i.toNat else 0
theorem zU (i : Int) : JM i < 2 ^ 64 := by
 unfold JM; split
 ·exact Nat.pow_lt_pow_right (by omega) (by omega)
 ·omega
theorem j4d {P : Program} {s : j6} {h : j8} {o : Oper} {t yt : TypeId} {x y : Operand} {k k' : IntKind} {a b : Int} (ho : o.op = .binOp .shl t x y yt) (hx : evA s x = .int k a) (hy : evA s y = .int k' b) (h0 : 0 <= b) : OkO P o s h (.int k (k.wrap (a * 2 ^ min b.toNat k.bits))) := by
 have hb : Xh .shl (.int k a) (.int k' b) = some (0 <= b, .int k (k.wrap (a * 2 ^ min b.toNat k.bits))) := rfl
 have hs : Q0 P s h o = some (0 <= b, .int k (k.wrap (a * 2 ^ min b.toNat k.bits))) := by
  unfold Q0; simp only [ho, hx, hy, hb]
 exact zA hs h0
theorem j6Z {i : Int} (h0 : 0 <= i) (h1 : i <= 63) : IntKind.u64.wrap (1 * 2 ^ min i.toNat IntKind.u64.bits) = (JM i : Int) := by
 have h := zU i
 have e : (1 : Int) * 2 ^ min i.toNat IntKind.u64.bits = (JM i : Int) := by
  unfold JM
  rw [if_pos ⟨h0, h1⟩, show min i.toNat IntKind.u64.bits = i.toNat by simp [IntKind.bits]; omega]
  simp
 rw [e]
 exact wc (by simp only [jS]; omega)
theorem Zd (i : Int) : Fn Tryz.prog 128 [.int .i64 i] (.int .u64 (JM i)) := by
 refine fnb Tryz.func128 (j5 (by kernel_rfl)) rfl rfl rfl ?_
 repeat' (first | refine sA ?_ | refine sY ?_ | ((first | apply kM | apply kN); (iterate 3 (· exact rfl)); (· first | exact Y.mk (j4d rfl rfl rfl (by omega)))) | refine sG ?_ | refine sQ ?_ ?_ | intro hc | exact trivial)
 ·exact jK rfl (congrArg (AV.int .u64) (by rw [JM, if_neg (by omega)]; rfl))
 ·exact jK rfl (congrArg (AV.int .u64) (j6Z (by omega) (by omega)))
 ·exact jK rfl (congrArg (AV.int .u64) (by rw [JM, if_neg (by omega)]; rfl))
def jm (m : Nat) (i : Int) : Bool := decide (m &&& JM i ≠ 0)
theorem j6K (m : Nat) (hm : m < 2 ^ 64) (i : Int) : Fn Tryz.prog 108 [.int .u64 m, .int .i64 i] (.bool (jm m i)) := by
 refine fnb Tryz.func108 (j5 (by kernel_rfl)) rfl rfl rfl ?_
 repeat' (first | refine sT ?_ | refine sC (Zd i) ?_ | refine sQ ?_ ?_ | intro hc | exact trivial)
 refine jK rfl (congrArg AV.bool ?_)
 rw [j0T hm (zU i)]
 unfold jm
 rw [decide_not]
 congr 1
 rw [Bool.eq_iff_iff]
 simp
def jV (m : Nat) : List Int := (vJ m).map fun i : Nat => (i : Int)
def z6 (m k : Nat) : List Int := ((List.range k).filter m.testBit).map fun i : Nat => (i : Int)
theorem Z7 (m k : Nat) : z6 m (k + 1) = z6 m k ++ (if m / 2 ^ k % 2 = 1 then [(k : Int)] else []) := by
 unfold z6
 rw [List.range_succ, List.filter_append, List.map_append]
 congr 1
 have e : m.testBit k = decide (m / 2 ^ k % 2 = 1) := Nat.testBit_eq_decide_div_mod_eq
 rw [List.filter_cons, e]
 by_cases h : m / 2 ^ k % 2 = 1 <;> simp [h]
theorem Qw (m k : Nat) : (z6 m k).length <= k := by
 unfold z6
 rw [List.length_map]
 refine Nat.le_trans (List.length_filter_le _ _) (by simp)
def yG (prio : List Int) (b i : Int) : Int := if 0 <= i ∧ i < prio.length ∧ (b < 0 ∨ vW prio i b = true) then i else b
def V2 (prio l : List Int) (k : Nat) : Int := (l.take k).foldl (yG prio) (-1)
open Go.RowKit
theorem j0i {x : Nat} (h0 : 0 < x) (h1 : x < 2 ^ 64) : jV x = (tzN x : Int) :: jV (x &&& (x - 1)) := by
 have := (yJ h0 h1).1
 unfold jV
 rw [this, List.map_cons]
theorem j11 : jV 0 = [] := by unfold jV; rw [XF]; rfl
theorem j5x (l : Nat) (r : Loop) (σ0 : Sig) (pins : List (Nat × Value)) (xs : List Int) (m i : Nat) (hr : r.state = .ready) (hpd : r.pending = none) (hab : Z2 Tryz.f127.body = some (r.params, r.assign, r.body)) (hk : r.tmps.size = Tryz.f127.ntmps)
  (hs : vj σ0 pins [(2, .ptr 1 0)] r.tmps) (hx : xs.length <= 1000) :
  YF Tryz.prog l pins [.int .i64 i] (yY l r σ0 m [(1, .blk 43 [.own 5]), (5, .row 3 1 (xs.map eI)), (7, .sem (qT tabK))]) (fun b h' => b = true ∧ h' = yY l { r with state := .ready, pending := none } σ0 m [(1, .blk 43 [.own 5]), (5, .row 3 1 ((xs ++ [(i : Int)]).map eI)), (7, .sem (qT tabK))]) := by
 change Option.some (_, _, _) = some _ at hab
 injection hab with hab
 injection hab with h1 hab
 injection hab with h2 h3
 refine j0D (QJ (R := fun b h' => b = true ∧ LeH h' (yY l { r with state := .ready, pending := none } σ0 m [(1, .blk 43 [.own 5]), (5, .row 3 1 ((xs ++ [(i : Int)]).map eI)), (7, .sem (qT tabK))])) (idL := 8) (idK := 9) (σ0 := σ0) rfl rfl hr h1.symm hk (by decide) hs ?_) ?_
 ·refine Q9 h2 ?_
  repeat' (first | refine sT ?_ | refine sQ ?_ ?_ | intro hc | exact trivial)
  refine ⟨rfl, ?_⟩
  refine Q9 h3 ?_
  repeat' (first | refine sT ?_ | refine sQ ?_ ?_ | intro hc | exact trivial)
  refine jh (xQ (id := 1) rfl) ?_
  refine ole (h' := (8, .sem (v6 l (.loop { r with state := .busy }))) :: (9, .sem (y8 σ0)) :: (0, .blk 91 [.int .u64 m]) :: [(1, .blk 43 [.undef]), (5, .row 3 1 (xs.map eI)), (7, .sem (qT tabK))]) (LeS.refl _) leh ?_
  (refine v7 (id := 5) (ys := [(i : Int)]) (by_ := 8) rfl rfl rfl rfl rfl rfl rfl rfl rfl rfl (fun _ _ => rfl) ?_ ?_ rfl rfl rfl rfl rfl ?_; (· (first | omega | ((try simp only [List.length_cons, List.length_nil, List.length_append, List.length_map]) <;> omega))); (· (first | omega | ((try simp only [List.length_cons, List.length_nil, List.length_append, List.length_map]) <;> omega))))
  repeat' (first | refine sT ?_ | refine sQ ?_ ?_ | intro hc | exact trivial)
  exact ⟨rfl, rfl, leh⟩
 ·rintro b h' ⟨rfl, h5⟩
  exact ⟨_, h5, rfl, rfl⟩
theorem j6B (m : Nat) (hm : m < 2 ^ 64) (l : Nat) (r : Loop) (σ0 : Sig) (pins : List (Nat × Value)) (hr : r.state = .ready) (hpd : r.pending = none) (hab : Z2 Tryz.f127.body = some (r.params, r.assign, r.body)) (hk : r.tmps.size = Tryz.f127.ntmps)
  (hs : vj σ0 pins [(2, .ptr 1 0)] r.tmps) (hp5 : ∀ p ∈ pins, p.1 < 5) :
  FnHp Tryz.prog pins 104 (.fn (.yield l) [] [] :: [.ptr 0 0]) (yY l r σ0 m [(1, .blk 43 [.own 5]), (5, .row 3 1 (([] : List Int).map eI)), (7, .sem (qT tabK))]) (fun v h' => v = .tup [] ∧ h' = yY l r σ0 0 [(1, .blk 43 [.own 5]), (5, .row 3 1 ((jV m).map eI)), (7, .sem (qT tabK))]) := by
 refine j0K Tryz.func104 (j5 (by kernel_rfl)) rfl rfl ?_
 repeat' (first | refine sT ?_ | refine sQ ?_ ?_ | intro hc | exact trivial)
 have hl64 : (jV m).length <= 64 := Qw m 64
 refine jk (fun x : Nat × List Int => ([(0, .fn (.yield l) [] []), (1, .ptr 0 0)], yY l r σ0 x.1 [(1, .blk 43 [.own 5]), (5, .row 3 1 (x.2.map eI)), (7, .sem (qT tabK))])) (fun x => x.1 < 2 ^ 64 ∧ x.2 ++ jV x.1 = jV m) (fun x => x.1) (m, []) ⟨hm, rfl⟩ les leh (fun x hx => ?_)
 obtain ⟨x, xs⟩ := x
 obtain ⟨h1, h3⟩ := hx
 simp only at h1 h3 ⊢
 repeat' (first | refine sA ?_ | refine sY ?_ | ((first | apply kM | apply kN); (iterate 3 (· exact rfl)); (· first | exact Y.mk (xU (id := 7) (j5T x h1) rfl rfl))) | refine sG ?_ | refine sQ ?_ ?_ | intro hc | exact trivial)
 ·have e1 := j0i (by omega) h1
  have hrd := rdy hr hpd
  have hlx : xs.length <= 1000 := by
   have := congrArg List.length h3
   rw [List.length_append] at this
   omega
  refine j0P (fun i => i) (j5x l r σ0 pins xs x (tzN x) hr hpd hab hk hs hlx) (fun p hp => hp) hp5 rfl rfl rfl rfl leh rfl rfl rfl rfl rfl rfl (fun r1 h' hR => ?_)
  rw [hrd] at hR
  obtain ⟨rfl, rfl⟩ := hR
  refine ⟨rfl, ?_⟩
  refine ole (h' := yY l r σ0 x [(1, .blk 43 [.own 5]), (5, .row 3 1 ((xs ++ [(tzN x : Int)]).map eI)), (7, .sem (qT tabK))]) (LeS.refl _) leh ?_
  repeat' (first | refine sA ?_ | refine sY ?_ | ((first | apply kM | apply kN); (iterate 3 (· exact rfl)); (· first | exact q_w rfl)) | refine sG ?_ | refine sQ ?_ ?_ | intro hc | exact trivial)
  have e4 : yI .and .u64 (x : Int) ((x : Int) - 1) = ((x &&& (x - 1) : Nat) : Int) := by rw [show (x : Int) - 1 = ((x - 1 : Nat) : Int) by omega, j0T h1 (by omega)]
  refine ⟨(x &&& (x - 1), xs ++ [(tzN x : Int)]), ⟨Nat.lt_trans (XN (by omega)) h1, ?_⟩, XN (by omega), les, ?_⟩
  ·rw [<- h3, e1]; simp
  ·show LeH _ ((8, _) :: (9, _) :: (0, .blk _ [.int .u64 ((x &&& (x - 1) : Nat) : Int)]) :: _)
   rw [<- e4]
   exact leh
 ·obtain rfl : x = 0 := by omega
  rw [j11, List.append_nil] at h3
  subst h3
  exact vb rfl ⟨rfl, rfl⟩
def ρl (i : Nat) : Nat := [0, 10, 2, 3, 4, 11, 6, 7, 21, 22].getD i i
theorem j6J (m : Nat) (hm : m < 2 ^ 64) : FnH Tryz.prog 127 [.nils, .fn (.func 104) [] [.ptr 0 0]] [(0, .blk 91 [.int .u64 m]), (7, .sem (qT tabK))] (fun v h' => v = .lst 1 ((jV m).map eI) ∧ h' = [(7, .sem (qT tabK))]) := by
 refine j6l Tryz.func127 (j5 (by kernel_rfl)) rfl rfl ?_
 refine zI (v_w ?_)
 refine va (vN eI (t := 0) rfl 11 3 1 (by omega) rfl) ?_
 repeat' (first | refine sA ?_ | (show O _ _ _ _ _ _ _; first | (show O _ _ _ _ (⟨_, .box _ _, _, _, _, _⟩ :: _) _ _; first | refine wx (id := 10) rfl rfl rfl rfl rfl rfl rfl rfl ?_)) | ((first | apply kM | apply kN); (iterate 3 (· exact rfl)); (· first | exact yab)) | refine sG ?_ | refine sQ ?_ ?_ | intro hc | exact trivial)
 refine wM ?_
 refine j2g (fun D : Nat => ([wL D], [(2, .ptr 10 0)], [(10, .blk 43 [.own 11]), (11, .row 3 1 ((jV m).map eI)), (7, .sem (qT tabK)), (20, .sem (v6 D (.deferred (some []))))])) ?_ (fun D => ?_)
 ·refine zI (v_w ?_)
  repeat' (first | refine sT ?_ | refine sQ ?_ ?_ | intro hc | exact trivial)
  refine wM (Xm ?_)
  refine j4u (s' := [(2, .ptr 10 0), (6, .fn (.func 104) [] [.ptr 0 0])]) (h' := [(10, .blk 43 [.own 11]), (11, .row 3 1 (([] : List Int).map eI)), (0, .blk 91 [.int .u64 m]), (7, .sem (qT tabK))]) les leh ?_
  refine XU (ρl) (caps0 := [.ptr 0 0]) (s0 := [(2, .ptr 1 0)]) (hin0 := [(0, .blk 91 [.int .u64 m]), (1, .blk 43 [.own 5]), (5, .row 3 1 (([] : List Int).map eI)), (7, .sem (qT tabK))]) 20 21 22 (R := fun l r v h' => r.state = .ready ∧ r.pending = none ∧ v = .tup [] ∧ ∃ σ0, h' = yY l r σ0 0 [(1, .blk 43 [.own 5]), (5, .row 3 1 ((jV m).map eI)), (7, .sem (qT tabK))])
   rfl rfl rfl rfl (fun _ => rfl) (fun _ _ _ => rfl) (fun _ _ _ _ => leh) rfl rfl rfl (fun _ _ _ _ => rfl) les rfl (fun l D r σ0 pins q1 q2 q3 q4 q5 q6 q7 q8 => ?_) (fun l D r σ0 v h' hR => ?_) rfl
  ·exact zN (j6B m hm l r σ0 pins q1 q2 (by rw [q3, q4, q5]; rfl) q6 q7 q8) fun v h' ⟨e1, e2⟩ => ⟨q1, q2, e1, σ0, e2⟩
  ·obtain ⟨q1, q2, rfl, σ1, rfl⟩ := hR
   refine ⟨rfl, r, rfl, by rw [q1]; simp, fun _ => ?_, fun c e => by rw [q2] at e; cases e⟩
   exact j69 (wM ⟨D, rfl, les, leh⟩)
 ·refine zI (v_w ?_)
  repeat' (first | refine sT ?_ | refine sQ ?_ ?_ | intro hc | exact trivial)
  refine wM (v_w (j23 ?_))
  refine j5O (fun _ => jf (t := 4) rfl rfl rfl) ?_
  exact j27 (id := 20) rfl rfl (h0 := [(7, .sem (qT tabK))]) leh rfl ⟨rfl, rfl⟩
theorem Zs (m : Nat) (hm : m < 2 ^ 64) : FnH Tryz.prog 106 [.fn (.func 104) [] [.ptr 0 0]] [(0, .blk 91 [.int .u64 m]), (7, .sem (qT tabK))] (fun v h' => v = .lst 1 ((jV m).map eI) ∧ h' = [(7, .sem (qT tabK))]) := by
 refine qo Tryz.func106 (j5 (by kernel_rfl)) rfl rfl ?_
 repeat' (first | refine sT ?_ | refine sQ ?_ ?_ | intro hc | exact trivial)
 refine jL (fun i => i) (j6J m hm) rfl rfl leh rfl rfl rfl rfl rfl rfl (fun r h' hR => ?_)
 obtain ⟨rfl, rfl⟩ := hR
 refine ⟨rfl, rfl, ?_⟩
 repeat' (first | refine sT ?_ | refine sQ ?_ ?_ | intro hc | exact trivial)
 refine JU rfl leh ⟨rfl, rfl⟩
def ρc (i : Nat) : Nat := [10, 1, 2, 3, 4, 5, 6, 9, 8, 7].getD i i
theorem j2E (m : Nat) (hm : m < 2 ^ 64) : FnT Tryz.prog tabK 75 [.int .u64 m] (.lst 1 ((jV m).map eI)) := by
 refine j1h Tryz.func75 (j5 (by kernel_rfl)) rfl rfl rfl rfl ?_
 repeat' (first | refine sT ?_ | refine sQ ?_ ?_ | intro hc | exact trivial)
 refine jh (jA eI 10 3 1 (by omega) rfl) ?_
 refine jL (fun i => i + 5) (j1w m) rfl rfl leh rfl rfl rfl rfl rfl rfl (fun r h' hR => ?_)
 obtain ⟨rfl, rfl⟩ := hR
 refine ⟨rfl, rfl, ?_⟩
 repeat' (first | refine sT ?_ | refine sQ ?_ ?_ | intro hc | exact trivial)
 refine jL (fun i => ρc i) (Zs m hm) rfl rfl leh rfl rfl rfl rfl rfl rfl (fun r h' hR => ?_)
 obtain ⟨rfl, rfl⟩ := hR
 refine ⟨rfl, rfl, ?_⟩
 repeat' (first | refine sT ?_ | refine sQ ?_ ?_ | intro hc | exact trivial)
 exact jK rfl rfl
theorem Vn {prio : List Int} : ∀ (q : List Nat) (b : Int), (∀ i ∈ q, prio.length <= i) -> (q.map fun i : Nat => (i : Int)).foldl (yG prio) b = b
 | [], b, h => rfl
 | x :: q, b, h => by
  have hx := h x List.mem_cons_self
  rw [List.map_cons, List.foldl_cons]
  have e : yG prio b (x : Int) = b := by unfold yG; rw [if_neg (by omega)]
  rw [e]; exact Vn q b fun i hi => h i (List.mem_cons_of_mem _ hi)
theorem X7 {prio : List Int} : ∀ (q : List Nat) (b : Int), q.Pairwise (· < ·) -> (∀ i ∈ q, b < (i : Int)) -> (wT prio q b).1 = (q.map fun i : Nat => (i : Int)).foldl (yG prio) b
 | [], b, h, hb => rfl
 | x :: q, b, h, hb => by
  rw [List.pairwise_cons] at h
  rw [wT]
  by_cases hx : x < prio.length
  ·rw [if_pos hx, List.map_cons, List.foldl_cons]
   have hbx := hb x List.mem_cons_self
   have e : yG prio b (x : Int) = x3 prio b x := by
    unfold yG x3 vW pr
    by_cases h1 : b < 0 ∨ prio.getD b.toNat 0 < prio.getD (x : Int).toNat 0
    ·rw [if_pos h1, if_pos]
     refine ⟨by omega, by omega, ?_⟩
     rcases h1 with h1 | h1
     ·exact .inl h1
     ·exact .inr (by simp only [decide_eq_true_eq]; exact .inl h1)
    ·rw [if_neg h1, if_neg]
     rintro ⟨_, _, h2 | h2⟩
     ·exact h1 (.inl h2)
     ·simp only [decide_eq_true_eq] at h2
      rcases h2 with h2 | h2
      ·exact h1 (.inr h2)
      ·omega
   rw [e]
   refine X7 q _ h.2 fun i hi => ?_
   have := h.1 i hi
   unfold x3; split <;> omega
  ·rw [if_neg hx]
   rw [Vn (x :: q) b fun i hi => by
    rcases List.mem_cons.1 hi with rfl | hi
    ·omega
    ·have := h.1 i hi; omega]
theorem j2R (m : Nat) : (vJ m).Pairwise (· < ·) := List.Pairwise.filter _ List.pairwise_lt_range
theorem j4n (prio : List Int) (m : Nat) : (wT prio (vJ m) (-1)).1 = V2 prio (jV m) (jV m).length := by
 rw [X7 _ _ (j2R m) (fun i _ => by omega), V2, List.take_length]; rfl
theorem J9 (m : Nat) : (jV m).length <= 64 := Qw m 64
def Qq (m : Nat) (i : Int) : Nat := m ||| JM i
def zh (m : Nat) (i : Int) : Nat := m &&& (2 ^ 64 - (JM i + 1))
theorem j51 {m : Nat} (hm : m < 2 ^ 64) (i : Int) : Qq m i < 2 ^ 64 := Nat.or_lt_two_pow hm (zU i)
theorem j1i {m : Nat} (hm : m < 2 ^ 64) (i : Int) : zh m i < 2 ^ 64 := Nat.lt_of_le_of_lt Nat.and_le_left hm
theorem j6r {a b : Nat} (ha : a < 2 ^ 64) (hb : b < 2 ^ 64) : yI .or .u64 (a : Int) (b : Int) = ((a ||| b : Nat) : Int) := by
 unfold yI
 have e : (BitVec.ofInt IntKind.u64.bits (a : Int) ||| BitVec.ofInt IntKind.u64.bits (b : Int)).toNat = a ||| b := by
  rw [BitVec.ofInt_natCast, BitVec.ofInt_natCast, BitVec.toNat_or, BitVec.toNat_ofNat, BitVec.toNat_ofNat]
  show (a % 2 ^ 64) ||| (b % 2 ^ 64) = _
  rw [Nat.mod_eq_of_lt ha, Nat.mod_eq_of_lt hb]
 simp only [e]
 have : a ||| b < 2 ^ 64 := Nat.or_lt_two_pow ha hb
 exact wc (by simp only [jS]; omega)
theorem j6n {a b : Nat} (ha : a < 2 ^ 64) (hb : b < 2 ^ 64) : yI .andNot .u64 (a : Int) (b : Int) = ((a &&& (2 ^ 64 - (b + 1)) : Nat) : Int) := by
 unfold yI
 have e : (BitVec.ofInt IntKind.u64.bits (a : Int) &&& ~~~BitVec.ofInt IntKind.u64.bits (b : Int)).toNat = a &&& (2 ^ 64 - (b + 1)) := by
  rw [BitVec.ofInt_natCast, BitVec.ofInt_natCast, BitVec.toNat_and, BitVec.toNat_not, BitVec.toNat_ofNat, BitVec.toNat_ofNat]
  show (a % 2 ^ 64) &&& (2 ^ 64 - 1 - b % 2 ^ 64) = _
  rw [Nat.mod_eq_of_lt ha, Nat.mod_eq_of_lt hb, Nat.sub_sub, Nat.add_comm 1 b]
 simp only [e]
 have : a &&& (2 ^ 64 - (b + 1)) < 2 ^ 64 := Nat.lt_of_le_of_lt Nat.and_le_left ha
 exact wc (by simp only [jS]; omega)
theorem JB (i : Int) (j : Nat) : (JM i).testBit j = decide (0 <= i ∧ i <= 63 ∧ i = (j : Int)) := by
 unfold JM
 by_cases h : 0 <= i ∧ i <= 63
 ·rw [if_pos h, Nat.testBit_two_pow]
  rw [Bool.eq_iff_iff]
  simp only [decide_eq_true_eq]
  omega
 ·rw [if_neg h, Nat.zero_testBit]
  rw [Bool.eq_iff_iff]
  simp only [decide_eq_true_eq, Bool.false_eq_true, false_iff]
  omega
theorem we {m : Nat} {i : Int} : i ∈ jV m ↔ 0 <= i ∧ i <= 63 ∧ m.testBit i.toNat = true := by
 unfold jV vJ
 constructor
 ·intro h
  obtain ⟨k, hk, rfl⟩ := List.mem_map.1 h
  obtain ⟨h1, h2⟩ := List.mem_filter.1 hk
  rw [List.mem_range] at h1
  exact ⟨by omega, by omega, by simpa using h2⟩
 ·rintro ⟨h1, h2, h3⟩
  exact List.mem_map.2 ⟨i.toNat, List.mem_filter.2 ⟨List.mem_range.2 (by omega), h3⟩, by omega⟩
theorem j2D (m : Nat) (i : Int) (j : Nat) : (Qq m i).testBit j = (m.testBit j || decide (0 <= i ∧ i <= 63 ∧ i = (j : Int))) := by
 unfold Qq; rw [Nat.testBit_or, JB]
theorem Vr (m : Nat) (i : Int) (j : Nat) : (zh m i).testBit j = (m.testBit j && (decide (j < 64) && !decide (0 <= i ∧ i <= 63 ∧ i = (j : Int)))) := by
 unfold zh; rw [Nat.testBit_and, Nat.testBit_two_pow_sub_succ (zU i), JB]
theorem vx (m : Nat) (i : Int) : jm m i = decide (i ∈ jV m) := by
 unfold jm
 rw [Bool.eq_iff_iff]
 simp only [decide_eq_true_eq]
 rw [we]
 constructor
 ·intro h
  obtain ⟨j, hj⟩ := Nat.exists_testBit_of_ne_zero h
  rw [Nat.testBit_and, JB, Bool.and_eq_true, decide_eq_true_eq] at hj
  refine ⟨hj.2.1, hj.2.2.1, ?_⟩
  rw [show i.toNat = j by omega]; exact hj.1
 ·rintro ⟨h1, h2, h3⟩ h4
  have : (m &&& JM i).testBit i.toNat = true := by
   rw [Nat.testBit_and, JB, h3]; simp only [Bool.true_and, decide_eq_true_eq]; omega
  rw [h4, Nat.zero_testBit] at this
  cases this
theorem j5e (m : Nat) (hm : m < 2 ^ 64) (i : Int) : Fn Tryz.prog 113 [.int .u64 m, .int .i64 i] (.int .u64 (Qq m i)) := by
 refine fnb Tryz.func113 (j5 (by kernel_rfl)) rfl rfl rfl ?_
 repeat' (first | refine sT ?_ | refine sC (Zd i) ?_ | refine sQ ?_ ?_ | intro hc | exact trivial)
 exact jK rfl (congrArg (AV.int .u64) (j6r hm (zU i)))
theorem j52 (m : Nat) (hm : m < 2 ^ 64) (i : Int) : Fn Tryz.prog 115 [.int .u64 m, .int .i64 i] (.int .u64 (zh m i)) := by
 refine fnb Tryz.func115 (j5 (by kernel_rfl)) rfl rfl rfl ?_
 repeat' (first | refine sT ?_ | refine sC (Zd i) ?_ | refine sQ ?_ ?_ | intro hc | exact trivial)
 exact jK rfl (congrArg (AV.int .u64) (j6n hm (zU i)))
end Go.Proofs.YtfjoaeghnfkdlaaGreatDoor
