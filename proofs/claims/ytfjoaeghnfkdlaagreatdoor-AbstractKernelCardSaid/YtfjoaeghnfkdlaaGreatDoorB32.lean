/- Slices that a call makes itself: append of one element, and how they read; no condition. -/
import Derived.Test.YtfjoaeghnfkdlaaGreatDoorB8
import Derived.OwnWalk
import Derived.RegionTactic
import Derived.Deep.QuietTactic
import Derived.BigQuiet
import Derived.Test.YtfjoaeghnfkdlaaGreatDoorB24
import Derived.Test.YtfjoaeghnfkdlaaGreatDoorB27
import Derived.Test.YtfjoaeghnfkdlaaGreatDoorB31
import Derived.Test.YtfjoaeghnfkdlaaGreatDoorB13
import Derived.Test.YtfjoaeghnfkdlaaGreatDoorB23
import Derived.Test.YtfjoaeghnfkdlaaGreatDoorB9
import Derived.Test.YtfjoaeghnfkdlaaGreatDoorB29
import Derived.Test.YtfjoaeghnfkdlaaGreatDoorB17
set_option linter.unusedSimpArgs false
set_option linter.unusedVariables false
set_option maxHeartbeats 1000000
set_option maxRecDepth 100000
namespace Go.Proofs.YtfjoaeghnfkdlaaGreatDoor
open Go.RowKit

def Own {α : Type} (f : α -> List Value) (k : Nat) (e : TypeId) (B : Nat) (w : World) (v : Value) (xs : List α) : Prop :=
 w.ownsRow B e k v xs.length (xs.flatMap f)
theorem Own.nil {α : Type} (f : α -> List Value) (k : Nat) (e : TypeId) (B : Nat) (w : World) : Own f k e B w (.slice none 0 0) [] := World.ownsRow_nil w B e k
theorem Own.alloc {α : Type} {f : α -> List Value} {k : Nat} {e : TypeId} {B : Nat} {w : World} {v : Value} {xs : List α} (h : Own f k e B w v xs) (o : Obj) : Own f k e B (w.alloc o) v xs := World.ownsRow.alloc h o
theorem Own.below {α : Type} {f : α -> List Value} {k : Nat} {e : TypeId} {B : Nat} {w w' : World} {v : Value} {xs : List α} (h : Own f k e B w v xs) (hb : Below w.heap.size w w') : Own f k e B w' v xs := by
 obtain ⟨h1, h2⟩ := h
 refine ⟨h1, ?_⟩
 rcases h2 with h2 | ⟨g, cap, cur, hv, hg, hh, r⟩
 ·exact .inl h2
 ·exact .inr ⟨g, cap, cur, hv, hg, (hb.block g (Array.getElem?_eq_some_iff.1 hh).1).trans hh, r⟩
theorem Own.base {α : Type} {f : α -> List Value} {k : Nat} {e : TypeId} {B B' : Nat} {w : World} {v : Value} {xs : List α} (h : Own f k e B w v xs) (hB : B' <= B) : Own f k e B' w v xs := by
 obtain ⟨h1, h2⟩ := h
 refine ⟨h1, ?_⟩
 rcases h2 with h2 | ⟨g, cap, cur, hv, hg, r⟩
 ·exact .inl h2
 ·exact .inr ⟨g, cap, cur, hv, Nat.le_trans hB hg, r⟩
theorem Yw {α : Type} {f : α -> List Value} {k : Nat} (hf : ∀ y, (f y).length = k) : ∀ (xs : List α) (i j : Nat) (x : α) (u : Value), xs[i]? = some x -> (f x)[j]? = some u -> (xs.flatMap f)[i * k + j]? = some u
 | [], i, j, x, u, h, _ => by simp at h
 | y :: ys, 0, j, x, u, h, hu => by
  simp at h; subst h
  have hj : j < (f y).length := (List.getElem?_eq_some_iff.1 hu).1
  rw [List.flatMap_cons, List.getElem?_append_left (by simpa using hj)]; simpa using hu
 | y :: ys, i + 1, j, x, u, h, hu => by
  have ih := Yw hf ys i j x u (by simpa using h) hu
  rw [List.flatMap_cons, List.getElem?_append_right (by rw [hf, Nat.add_mul]; omega), hf, Nat.add_mul]
  rwa [show i * k + 1 * k + j - k = i * k + j by omega]
theorem Own.row {α : Type} {f : α -> List Value} {k : Nat} {e : TypeId} {B : Nat} {w : World} {v : Value} {xs : List α} {R : Cod α} (h : Own f k e B w v xs) (hf : ∀ y, (f y).length = k) (hR : ∀ x ∈ xs, R w (f x) x) :
  ∃ A c, v = .slice A xs.length c ∧ xs.length <= c ∧ c <= maxLen ∧ Row R k w A xs := by
 rcases h.2 with ⟨rfl, h0⟩ | ⟨g, cap, cur, rfl, _, _, hn, hm, _⟩
 ·obtain rfl : xs = [] := List.eq_nil_of_length_eq_zero h0
  exact ⟨none, 0, rfl, by simp, by simp, Row.nil _ _ _ _⟩
 ·refine ⟨some ⟨g, 0, none⟩, cap, rfl, hn, hm, fun _ => ⟨g, 0, rfl, fun i x hx => ⟨f x, hR x (List.mem_of_getElem? hx), hf x, fun j u hu => ?_⟩⟩⟩
  have := World.ownsRow.cells h (g := g) rfl (i * k + j) u (Yw hf xs i j x u hx hu)
  rwa [Go.WideShapes.add_plain, <- Nat.add_assoc] at this

def AtB (w : World) (b : Nat) (cs : List Value) : Prop := ∀ i u, cs[i]? = some u -> w.cell? ⟨b, i, none⟩ = some u
theorem AtB.ext {w w' : World} {b : Nat} {cs : List Value} (h : AtB w b cs) (he : Ext w w') : AtB w' b cs := fun i u hu => he _ _ (h i u hu)
theorem AtB.new (w : World) (cs : List Value) (e : TypeId) : AtB (w.alloc (.cells cs.toArray e)) w.heap.size cs := fun i u hu => by
 rw [World.cell?_alloc_at _ _ _ _ rfl]; simpa using hu
theorem Ext.alloc (w : World) (o : Obj) : Ext w (w.alloc o) := Ext.below ((Below.refl _ _).alloc (Nat.le_refl _) _)
theorem Own.at_ {α : Type} {f : α -> List Value} {k : Nat} {e : TypeId} {B : Nat} {w : World} {A : Option Addr} {n c : Nat} {xs : List α} (h : Own f k e B w (.slice A n c) xs) (hp : 0 < xs.length) :
  ∃ g, A = some ⟨g, 0, none⟩ ∧ n = xs.length ∧ B <= g ∧ g < w.heap.size ∧ ∀ o, w.frozen? ⟨g, o, none⟩ = false := by
 rcases h.2 with ⟨_, h0⟩ | ⟨g, cap, cur, hv, hb, hh, _⟩
 ·omega
 ·injection hv with h1 h2 h3
  exact ⟨g, h1, h2, hb, (Array.getElem?_eq_some_iff.1 hh).1, fun o => by simp [World.frozen?, hh]⟩
theorem YJ {α : Type} {f : α -> List Value} {k : Nat} (hf : ∀ y, (f y).length = k) : ∀ (xs : List α) (i j : Nat) (x' : α) (u : Value) (hi : i < xs.length), j < k -> f x' = (f xs[i]).set j u -> (xs.set i x').flatMap f = (xs.flatMap f).set (i * k + j) u
 | [], i, j, x', u, hi, _, _ => by simp at hi
 | y :: ys, 0, j, x', u, _, hj, h => by
  simp only [List.getElem_cons_zero] at h
  rw [List.set_cons_zero, List.flatMap_cons, List.flatMap_cons, h, Nat.zero_mul, Nat.zero_add, List.set_append_left _ _ (by rw [hf]; exact hj)]
 | y :: ys, i + 1, j, x', u, hi, hj, h => by
  simp only [List.getElem_cons_succ] at h
  have ih := YJ hf ys i j x' u (by simpa using hi) hj h
  rw [List.set_cons_succ, List.flatMap_cons, List.flatMap_cons, ih, List.set_append_right _ _ (by rw [hf, Nat.add_mul]; omega), hf]
  congr 2
  rw [Nat.add_mul]; omega
theorem Own.store {α : Type} {f : α -> List Value} {k : Nat} {e : TypeId} {B : Nat} {w : World} {g n c : Nat} {xs : List α} (h : Own f k e B w (.slice (some ⟨g, 0, none⟩) n c) xs) (hf : ∀ y, (f y).length = k)
  {i j : Nat} (hi : i < xs.length) (hj : j < k) {x' : α} {u : Value} (hx : f x' = (f xs[i]).set j u) : Own f k e B (w.setCell ⟨g, i * k + j, none⟩ u) (.slice (some ⟨g, 0, none⟩) n c) (xs.set i x') := by
 unfold Own at h ⊢
 rw [YJ hf xs i j x' u hi hj hx, List.length_set]
 refine ⟨by rw [List.length_set]; exact h.1, ?_⟩
 rcases h.2 with ⟨h0, _⟩ | ⟨g', cap, cur, hv, hb, hh, hn, hm, hcs, ht⟩
 ·injection h0 with h0; cases h0
 ·injection hv with h1 h2 h3
  injection h1 with h1
  injection h1 with h1
  subst h1
  refine .inr ⟨g, cap, cur.setIfInBounds (i * k + j) u, by rw [h2, h3], hb, by simp [World.setCell, Array.getElem?_modify, hh], hn, hm, by simpa using hcs, ?_⟩
  rw [Array.toList_setIfInBounds, List.take_set, ht]
open Go.RowKit
theorem FnT.le {P : Program} {kn : Know} {f : FuncId} {args args' : List AV} {r : AV} (hf : FnT P kn f args' r) (h : L2 LeV args args') : FnT P kn f args r :=
 ⟨hf.1, fun σ ι w vs hk hsub hv => hf.2 σ ι w vs hk hsub ⟨by rw [<- h.1, hv.1], fun j c v hc hv2 => by
  have hj : j < args.length := by rw [h.1]; exact (List.getElem?_eq_some_iff.1 hc).1
  exact h.2 j _ c (List.getElem?_eq_getElem hj) hc σ ι v (hv.2 j _ v (List.getElem?_eq_getElem hj) hv2)⟩⟩
set_option maxHeartbeats 4000000 in
theorem j2c (l : List Task) (asks : List Due) (dm : List (List Int)) (ticks : Int) (hl : l.length <= 1000000) (h : okK l = false ∨ ticks < 0 ∨ 65536 < ticks) :
  FnT Tryz.prog tabK 26 [.lst 7 (l.map jJ), .lst 2 (asks.map jD), .lst 1 (dm.map eLI), .int .i64 ticks] (.tup [.nils, .int .i64 1]) := by
 refine j1h Tryz.func26 (j5 (by kernel_rfl)) rfl rfl rfl rfl ?_
 cases hok : okK l
 ·have c1 := j0b l hl hok
  repeat' (first | refine sT ?_ | refine sC (c1) ?_ | refine sQ ?_ ?_ | intro hc | exact trivial)
  all_goals first | (exfalso; omega) | exact jK rfl rfl
 ·have c1 := YQ l hok
  have h : ticks < 0 ∨ 65536 < ticks := h.resolve_left (by rw [hok]; decide)
  repeat' (first | refine sT ?_ | refine sQ ?_ ?_ | intro hc | exact trivial)
  refine jh (jA eI 108 3 1 (by omega) rfl) ?_
  refine jh (jA eI 107 3 1 (by omega) rfl) ?_
  refine jh (jA eI 106 3 1 (by omega) rfl) ?_
  refine jh (jA eI 105 3 1 (by omega) rfl) ?_
  refine jh (jA eI 104 3 1 (by omega) rfl) ?_
  refine jh (jA eI 103 3 1 (by omega) rfl) ?_
  refine jh (jA eI 102 3 1 (by omega) rfl) ?_
  refine jh (jA eI 101 3 1 (by omega) rfl) ?_
  refine jh (jA eI 100 3 1 (by omega) rfl) ?_
  refine jL (fun i => ρK i) (c1) rfl rfl leh (by kernel_rfl) (by kernel_rfl) (by kernel_rfl) (by kernel_rfl) rfl rfl (fun r h' hR => ?_)
  obtain ⟨rfl, rfl⟩ := hR
  refine ⟨rfl, rfl, ?_⟩
  refine ole (s' := [(3, .int .i64 ticks), (23, .tup [.ptr 100 0, .int .i64 0])]) (h' := []) les (LeH.nil _) ?_
  repeat' (first | refine sT ?_ | refine sQ ?_ ?_ | intro hc | exact trivial)
  all_goals first | (exfalso; omega) | exact jK rfl rfl
theorem j3O (l : List Due) (hn : l.length <= 1000000) : Fn Tryz.prog 31 [.lst 2 (l.map jD)] (.lst 2 ((jO l).map jD)) := by
 refine fnb Tryz.func31 (j5 (by kernel_rfl)) rfl rfl rfl ?_
 repeat' (first | refine sT ?_ | refine sQ ?_ ?_ | intro hc | exact trivial)
 refine jk (fun k : Nat => ([(3, .lst 2 ((jO (l.take k)).map jD)), (6, .lst 2 (l.map jD)), (7, .int .i64 l.length), (8, .int .i64 k)], [])) (fun k => k <= l.length) (fun k => l.length - k) 0 (by omega) les leh (fun k hk => ?_)
 have hl : (jO (l.take k)).length <= 1000000 := by rw [wC, List.length_take]; omega
 repeat' (first | refine sA ?_ | (show O _ _ _ _ _ _ _; first | refine jR (id := 12) rfl rfl rfl rfl rfl rfl rfl ?_) | refine sY ?_ | refine sC (j3y _ _ hl) ?_ | refine sG ?_ | refine sQ ?_ ?_ | intro hc | exact trivial)
 ·exact ⟨k + 1, by omega, by omega, by rw [ZM l k (by omega)]; exact les, leh⟩
 ·obtain rfl : k = l.length := by omega
  rw [List.take_length]
  exact jK rfl rfl
theorem j31 (t : Task) (lim : Int) : Fn Tryz.prog 63 [.agg (jJ t), .int .i64 lim] (.fn (.func 93) [] [.ref (jJ t), .ref [.int .i64 lim]]) := by
 refine fnb Tryz.func63 (j5 (by kernel_rfl)) rfl rfl rfl ?_
 repeat' (first | refine sT ?_ | refine sQ ?_ ?_ | intro hc | exact trivial)
 exact jK rfl rfl
abbrev Xg (l : Nat) (r : Loop) (σ0 : Sig) (k : Nat) (xs : List Due) : j8 := (8, .sem (v6 l (.loop r))) :: (9, .sem (y8 σ0)) :: [(0, .blk 3 [.int .i64 k]), (1, .blk 40 [.own 5]), (5, .row 60 2 (xs.map jD))]
theorem j39 (l : Nat) (r : Loop) (σ0 : Sig) (pins : List (Nat × Value)) (xs : List Due) (k : Nat) (at_ : Int) (hr : r.state = .ready) (hpd : r.pending = none) (hab : Z2 Tryz.f27.body = some (r.params, r.assign, r.body)) (hk : r.tmps.size = Tryz.f27.ntmps)
  (hs : vj σ0 pins [(6, .ptr 1 0), (9, .ptr 0 0)] r.tmps) (hx : xs.length <= 1000000) :
  YF Tryz.prog l pins [.int .i64 at_] (Xg l r σ0 k xs) (fun b h' => b = true ∧ h' = Xg l { r with state := .ready, pending := none } σ0 k (xs ++ [⟨at_, k⟩])) := by
 change Option.some (_, _, _) = some _ at hab
 injection hab with hab
 injection hab with h1 hab
 injection hab with h2 h3
 refine j0D (QJ (R := fun b h' => b = true ∧ LeH h' (Xg l { r with state := .ready, pending := none } σ0 k (xs ++ [⟨at_, k⟩]))) (idL := 8) (idK := 9) (σ0 := σ0) rfl rfl hr h1.symm hk (by decide) hs ?_) ?_
 ·refine Q9 h2 ?_
  repeat' (first | refine sT ?_ | refine sQ ?_ ?_ | intro hc | exact trivial)
  refine ⟨rfl, ?_⟩
  refine Q9 h3 ?_
  repeat' (first | refine sT ?_ | refine sQ ?_ ?_ | intro hc | exact trivial)
  refine jh (xQ (id := 1) rfl) ?_
  refine ole (h' := (8, .sem (v6 l (.loop { r with state := .busy }))) :: (9, .sem (y8 σ0)) :: [(0, .blk 3 [.int .i64 k]), (1, .blk 40 [.undef]), (5, .row 60 2 (xs.map jD))]) (LeS.refl _) leh ?_
  (refine v7 (id := 5) (ys := [(⟨at_, k⟩ : Due)]) (by_ := 16) rfl rfl rfl rfl rfl rfl rfl rfl rfl rfl (fun _ _ => rfl) ?_ ?_ rfl rfl rfl rfl rfl ?_; (· (first | omega | ((try simp only [List.length_cons, List.length_nil, List.length_append, List.length_map]) <;> omega))); (· (first | omega | ((try simp only [List.length_cons, List.length_nil, List.length_append, List.length_map]) <;> omega))))
  repeat' (first | refine sT ?_ | refine sQ ?_ ?_ | intro hc | exact trivial)
  exact ⟨rfl, rfl, leh⟩
 ·rintro b h' ⟨rfl, h5⟩
  exact ⟨_, h5, rfl, rfl⟩
theorem j3U (t : Task) (lim : Int) (hlim : lim <= 2000) (l : Nat) (r : Loop) (σ0 : Sig) (pins : List (Nat × Value)) (xs : List Due) (k : Nat) (hr : r.state = .ready) (hpd : r.pending = none) (hab : Z2 Tryz.f27.body = some (r.params, r.assign, r.body)) (hk : r.tmps.size = Tryz.f27.ntmps)
  (hs : vj σ0 pins [(6, .ptr 1 0), (9, .ptr 0 0)] r.tmps) (hp5 : ∀ p ∈ pins, p.1 < 5) (hx : xs.length <= 100000) :
  FnHp Tryz.prog pins 93 (.fn (.yield l) [] [] :: [.ref (jJ t), .ref [.int .i64 lim]]) (Xg l r σ0 k xs) (fun v h' => v = .tup [] ∧ h' = Xg l r σ0 k (xs ++ xT t k (wH t lim))) := by
 have hrd := rdy hr hpd
 have htn := Jo t lim 2000 (by omega)
 have c0 := XP t 0
 refine j0K Tryz.func93 (j5 (by kernel_rfl)) rfl rfl ?_
 by_cases hper : jt t = true ∧ t.kind = 1
 ·obtain ⟨_, _, h3, h4, _, _⟩ := qL hper.1
  rw [j5D hper.1 hper.2, if_neg (by omega), decide_eq_true (by omega)] at c0
  repeat' (first | refine sA ?_ | refine sC (c0) ?_ | refine sY ?_ | refine sG ?_ | refine sQ ?_ ?_ | intro hc | exact trivial)
  refine jk (fun j : Nat => ([(0, .fn (.yield l) [] []), (1, .ref (jJ t)), (2, .ref [.int .i64 lim]), (4, .int .i64 (t.offset + j * t.period)), (5, .bool true)], Xg l r σ0 k (xs ++ xT t k j))) (fun j => j <= wH t lim) (fun j => wH t lim - j) 0 (Nat.zero_le _)
   (by simp only [Int.ofNat_zero, Int.zero_mul, Int.add_zero]; exact les) (by simp only [xT, List.range_zero, List.map_nil, List.append_nil]; exact leh) (fun j hj => ?_)
  have h5 : 0 <= (j : Int) * t.period := Int.mul_nonneg (by omega) (by omega)
  have h6 := xW (lim := lim) hper.1 hper.2 j
  have hlo := Ye t k j
  by_cases hlt : t.offset + j * t.period < lim
  ·have c1 := XP t (t.offset + j * t.period + 1)
   have e1 := j3P hper.1 hper.2 j (by omega)
   have e2 : ((j + 1 : Nat) : Int) * t.period = j * t.period + t.period := by
    rw [show ((j + 1 : Nat) : Int) = (j : Int) + 1 by omega, Int.add_mul, Int.one_mul]
   rw [e1, e2, if_neg (by omega), decide_eq_true (by omega)] at c1
   repeat' (first | refine sT ?_ | refine sQ ?_ ?_ | intro hc | exact trivial)
   all_goals first | (exfalso; omega) | skip
   refine j0P (fun i => i) (j39 l r σ0 pins (xs ++ xT t k j) k (t.offset + j * t.period) hr hpd hab hk hs (by rw [List.length_append]; omega)) (fun p hp => hp) hp5 rfl rfl rfl rfl leh rfl rfl rfl rfl rfl rfl (fun r1 h' hR => ?_)
   rw [hrd] at hR
   obtain ⟨rfl, rfl⟩ := hR
   refine ⟨rfl, ?_⟩
   refine ole (h' := Xg l r σ0 k (xs ++ xT t k j ++ [⟨t.offset + j * t.period, k⟩])) (LeS.refl _) leh ?_
   have e3 : xs ++ xT t k j ++ [⟨t.offset + j * t.period, k⟩] = xs ++ xT t k (j + 1) := by rw [j16, List.append_assoc]; rfl
   rw [e3]
   repeat' (first | refine sA ?_ | refine sC (c1) ?_ | refine sY ?_ | refine sG ?_ | refine sQ ?_ ?_ | intro hc | exact trivial)
   exact ⟨j + 1, by omega, by omega, by simp only [e2]; exact les, leh⟩
  ·repeat' (first | refine sT ?_ | refine sQ ?_ ?_ | intro hc | exact trivial)
   all_goals first | (exfalso; omega) | skip
   obtain rfl : j = wH t lim := by omega
   exact vb rfl ⟨rfl, rfl⟩
 ·rw [j2f hper, if_pos (by omega), decide_eq_false (by omega)] at c0
  rw [xH hper]
  repeat' (first | refine sA ?_ | refine sC (c0) ?_ | refine sY ?_ | refine sG ?_ | refine sQ ?_ ?_ | intro hc | exact trivial)
  refine jk (fun _ : Unit => ([(0, .fn (.yield l) [] []), (1, .ref (jJ t)), (2, .ref [.int .i64 lim]), (4, .int .i64 0), (5, .bool false)], Xg l r σ0 k xs)) (fun _ => True) (fun _ => 0) () trivial les leh (fun j hj => ?_)
  repeat' (first | refine sT ?_ | refine sQ ?_ ?_ | intro hc | exact trivial)
  exact vb rfl ⟨rfl, by simp [xT]⟩
def qu (l : List Task) (k : Nat) : List Gt := qz (l.take k) ++ List.replicate (l.length - k) ⟨0, 0, false⟩
theorem Yo (l : List Task) (k : Nat) (h : k <= l.length) : (qu l k).length = l.length := by
 simp only [qu, qz, List.length_append, List.length_map, List.length_take, List.length_replicate]; omega
theorem Zt (l : List Task) (k : Nat) (h : k < l.length) : (qu l k).getD k default = ⟨0, 0, false⟩ := by
 have e : (qz (l.take k)).length = k := by simp [qz]; omega
 rw [qu, show l.length - k = (l.length - (k + 1)) + 1 by omega, List.replicate_succ]
 exact Zq rfl e.symm
theorem Xf (l : List Task) (k : Nat) (h : k < l.length) (g : Gt) (hg : g = ⟨J8 (l.getD k default), 0, false⟩) : (qu l k).set k g = qu l (k + 1) := by
 have e : (qz (l.take k)).length = k := by simp [qz]; omega
 have h1 := JF (qz (l.take k)) (List.replicate (l.length - (k + 1)) (⟨0, 0, false⟩ : Gt)) ⟨0, 0, false⟩ g
 rw [e] at h1
 rw [qu, show l.length - k = (l.length - (k + 1)) + 1 by omega, List.replicate_succ, h1, qu, List.take_succ_eq_append_getElem h, qz, qz, List.map_append, List.append_assoc, hg]
 simp [h]
theorem Y4 (l : List Task) : qu l l.length = qz l := by simp [qu]
def ρa (i : Nat) : Nat := [13, 11, 2, 3, 4, 10, 6, 7, 21, 22].getD i i
set_option maxHeartbeats 4000000 in
theorem j0m (l : List Task) (asks : List Due) (ticks : Int) (hl : l.length <= 12) (ha : asks.length <= 1000) (ht : ticks <= 2000) : Fn Tryz.prog 27 [.lst 7 (l.map jJ), .lst 2 (asks.map jD), .int .i64 ticks] (.tup [.lst 2 ((zj l asks ticks).1.map jD), .lst 2 ((zj l asks ticks).2.map jD)]) := by
 refine fnm Tryz.func27 (j5 (by kernel_rfl)) rfl rfl rfl ?_
 repeat' (first | (show M _ _ _ _ _ _; first | refine zX ?_ | refine vL (fun _ => ?_) | refine vp rfl rfl ?_ | refine vt rfl rfl ?_ | refine vn ?_ | refine x5 ?_ | refine x7 ?_ | refine za ?_) | refine sA ?_ | (show O _ _ _ _ _ _ _; first | refine jR (id := 11) rfl rfl rfl rfl rfl rfl rfl ?_) | refine sY ?_ | refine sG ?_ | ((first | refine kQ rfl rfl ?_ ?_ | refine wR rfl rfl ?_ ?_ | refine kR rfl rfl rfl rfl rfl ?_ ?_ | refine kS rfl rfl rfl ?_ ?_) <;> intro hc <;> (try simp only [KL, sL, reduceCtorEq] at hc) <;> (try (have hT : True := hc; clear hT hc)) <;> (try (exfalso; omega))))
 (refine j2e (f := eGt) (d := (⟨0, 0, false⟩ : Gt)) (id := 12) (by_ := 24) (sz := 3) rfl rfl rfl rfl rfl rfl rfl rfl rfl rfl ?_ ?_ rfl rfl rfl rfl ?_; (· omega); (· omega))
 repeat' (first | (show M _ _ _ _ _ _; first | refine zX ?_ | refine vL (fun _ => ?_) | refine vp rfl rfl ?_ | refine vt rfl rfl ?_ | refine vn ?_ | refine x5 ?_ | refine x7 ?_ | refine za ?_) | refine sT ?_ | ((first | refine kQ rfl rfl ?_ ?_ | refine wR rfl rfl ?_ ?_ | refine kR rfl rfl rfl rfl rfl ?_ ?_ | refine kS rfl rfl rfl ?_ ?_) <;> intro hc <;> (try simp only [KL, sL, reduceCtorEq] at hc) <;> (try (have hT : True := hc; clear hT hc)) <;> (try (exfalso; omega))))
 refine j5I (fun _ => j0w jD (b := 11) rfl 10 60 2 (by omega) rfl) ?_
 refine j5N (fun k : Nat => ([(0, .lst 7 (l.map jJ)), (1, .lst 2 (asks.map jD)), (2, .int .i64 ticks), (6, .ptr 11 0), (7, .nils), (8, .own 12), (18, .lst 7 (l.map jJ)), (19, .int .i64 l.length), (20, .int .i64 k)],
   [(11, .blk 40 [.own 10]), (10, .row 60 2 ((xZ l ticks k).map jD)), (12, .row 115 3 ((qu l k).map eGt))]))
  (fun k => k <= l.length) (fun k => l.length - k) 0 (by omega) les (by rw [show qu l 0 = List.replicate l.length (⟨0, 0, false⟩ : Gt) by simp [qu, qz]]; exact leh) (fun k hk => ?_)
 have hlt := YN l ticks 2000 (by omega) k
 have hgl := Yo l k hk
 rcases Nat.lt_or_eq_of_le hk with hkl | hkl
 ·obtain ⟨t, htd⟩ : ∃ t, l.getD k default = t := ⟨_, rfl⟩
  have hnx := Vf l ticks k
  have htn := Jo t ticks 2000 (by omega)
  rw [htd] at hnx
  repeat' (first | (show M _ _ _ _ _ _; first | refine zX ?_ | refine vL (fun _ => ?_) | refine vp rfl rfl ?_ | refine vt rfl rfl ?_ | refine vn ?_ | refine x5 ?_ | refine x7 ?_ | refine za ?_) | refine sA ?_ | (show O _ _ _ _ _ _ _; first | refine jR (id := 13) rfl rfl rfl rfl rfl rfl rfl ?_ | refine jR (id := 14) rfl rfl rfl rfl rfl rfl rfl ?_) | ((first | apply kM | apply kN); (iterate 3 (· exact rfl)); (· first | (show Y _ ⟨_, .indexAddr _ _ _, _, _, _, _⟩ _ _ _; first | exact Y.mk (qe (htd) rfl rfl rfl rfl rfl (by omega))))) | refine sC (j31 _ _) ?_ | refine sY ?_ | refine sG ?_ | ((first | refine kQ rfl rfl ?_ ?_ | refine wR rfl rfl ?_ ?_ | refine kR rfl rfl rfl rfl rfl ?_ ?_ | refine kS rfl rfl rfl ?_ ?_) <;> intro hc <;> (try simp only [KL, sL, reduceCtorEq] at hc) <;> (try (have hT : True := hc; clear hT hc)) <;> (try (exfalso; omega))))
  all_goals first | (exfalso; omega) | skip
  refine mle (s' := [(0, .lst 7 (l.map jJ)), (1, .lst 2 (asks.map jD)), (2, .int .i64 ticks), (6, .ptr 11 0), (7, .nils), (8, .own 12), (9, .ptr 13 0), (10, .ptr 14 0), (18, .lst 7 (l.map jJ)), (19, .int .i64 l.length), (20, .int .i64 k), (27, .fn (.func 93) [] [.ref (jJ t), .ref [.int .i64 ticks]])])
   (h' := [(14, .blk 77 (jJ t)), (13, .blk 3 [.int .i64 k]), (11, .blk 40 [.own 10]), (10, .row 60 2 ((xZ l ticks k).map jD)), (12, .row 115 3 ((qu l k).map eGt))]) les leh ?_
  refine j66 ρa (caps0 := [.ref (jJ t), .ref [.int .i64 ticks]]) (s0 := [(6, .ptr 1 0), (9, .ptr 0 0)]) (hin0 := [(0, .blk 3 [.int .i64 k]), (1, .blk 40 [.own 5]), (5, .row 60 2 ((xZ l ticks k).map jD))]) 21 22
   (R := fun l' r v h' => r.state = .ready ∧ r.pending = none ∧ v = .tup [] ∧ ∃ σ0, h' = Xg l' r σ0 k (xZ l ticks k ++ xT t k (wH t ticks)))
   rfl rfl rfl rfl (fun _ _ => rfl) (fun _ _ _ => leh) rfl rfl rfl (fun _ _ _ => rfl) les rfl (fun l' r σ0 pins q1 q2 q3 q4 q5 q6 q7 q8 => ?_) (fun l' r σ0 v h' hR => ?_) rfl
  ·exact zN (j3U t ticks ht l' r σ0 pins _ k q1 q2 (by rw [q3, q4, q5]; rfl) q6 q7 q8 (by omega)) fun v h' ⟨e1, e2⟩ => ⟨q1, q2, e1, σ0, e2⟩
  ·obtain ⟨q1, q2, rfl, σ1, rfl⟩ := hR
   refine ⟨rfl, r, rfl, by rw [q1]; simp, fun _ => ?_, fun c e => by rw [q2] at e; cases e⟩
   rw [<- hnx]
   refine nIn (j5U ?_)
   refine mle (s' := [(0, .lst 7 (l.map jJ)), (1, .lst 2 (asks.map jD)), (2, .int .i64 ticks), (6, .ptr 11 0), (7, .nils), (8, .own 12), (9, .ptr 13 0), (10, .ptr 14 0), (18, .lst 7 (l.map jJ)), (19, .int .i64 l.length), (20, .int .i64 k)])
    (h' := [(14, .blk 77 (jJ t)), (13, .blk 3 [.int .i64 k]), (11, .blk 40 [.own 10]), (10, .row 60 2 ((xZ l ticks (k + 1)).map jD)), (12, .row 115 3 ((qu l k).map eGt))]) les leh ?_
   have hga := Zt l k hkl
   have hgn := Xf l k hkl
   rw [htd] at hgn
   have c1 := Qo t
   have h0 : ¬(jt t = true ∧ t.kind = 2) -> qu l k = qu l (k + 1) := fun h => by
    rw [<- hgn ⟨0, 0, false⟩ (by rw [J8, if_neg h]), <- hga]
    simp [show k < (qu l k).length by omega]
   cases hp : jt t <;> rw [hp] at c1 h0
   ·have h0 := h0 (by simp)
    repeat' (first | (show M _ _ _ _ _ _; first | refine zX ?_ | refine vL (fun _ => ?_) | refine vp rfl rfl ?_ | refine vt rfl rfl ?_ | refine vn ?_ | refine x5 ?_ | refine x7 ?_ | refine za ?_) | refine sA ?_ | refine sC (c1) ?_ | refine sY ?_ | refine sG ?_ | ((first | refine kQ rfl rfl ?_ ?_ | refine wR rfl rfl ?_ ?_ | refine kR rfl rfl rfl rfl rfl ?_ ?_ | refine kS rfl rfl rfl ?_ ?_) <;> intro hc <;> (try simp only [KL, sL, reduceCtorEq] at hc) <;> (try (have hT : True := hc; clear hT hc)) <;> (try (exfalso; omega))))
    all_goals first | (exfalso; omega) | skip
    all_goals exact ⟨k + 1, by omega, by omega, les, by simp only [<- h0]; exact leh⟩
   ·by_cases hk2 : t.kind = 2
    ·repeat' (first | (show M _ _ _ _ _ _; first | refine zX ?_ | refine vL (fun _ => ?_) | refine vp rfl rfl ?_ | refine vt rfl rfl ?_ | refine vn ?_ | refine x5 ?_ | refine x7 ?_ | refine za ?_) | refine sA ?_ | refine sC (c1) ?_ | refine sY ?_ | refine sG ?_ | ((first | refine kQ rfl rfl ?_ ?_ | refine wR rfl rfl ?_ ?_ | refine kR rfl rfl rfl rfl rfl ?_ ?_ | refine kS rfl rfl rfl ?_ ?_) <;> intro hc <;> (try simp only [KL, sL, reduceCtorEq] at hc) <;> (try (have hT : True := hc; clear hT hc)) <;> (try (exfalso; omega))))
     all_goals first | (exfalso; omega) | skip
     (refine yc (x' := (⟨t.period, ((qu l k).getD k default).last, ((qu l k).getD k default).op⟩ : Gt)) rfl rfl rfl rfl rfl rfl rfl rfl rfl ?_ rfl rfl rfl ?_; (· (first | omega | ((try simp only [List.length_set, List.length_cons, List.length_nil, List.length_append, List.length_map]) <;> omega))))
     rw [hga, hgn ⟨t.period, 0, false⟩ (by rw [J8, if_pos ⟨hp, hk2⟩])]
     repeat' (first | (show M _ _ _ _ _ _; first | refine zX ?_ | refine vL (fun _ => ?_) | refine vp rfl rfl ?_ | refine vt rfl rfl ?_ | refine vn ?_ | refine x5 ?_ | refine x7 ?_ | refine za ?_) | refine sA ?_ | refine sC (c1) ?_ | refine sY ?_ | refine sG ?_ | ((first | refine kQ rfl rfl ?_ ?_ | refine wR rfl rfl ?_ ?_ | refine kR rfl rfl rfl rfl rfl ?_ ?_ | refine kS rfl rfl rfl ?_ ?_) <;> intro hc <;> (try simp only [KL, sL, reduceCtorEq] at hc) <;> (try (have hT : True := hc; clear hT hc)) <;> (try (exfalso; omega))))
     exact ⟨k + 1, by omega, by omega, les, leh⟩
    ·have h0 := h0 (fun h => hk2 h.2)
     repeat' (first | (show M _ _ _ _ _ _; first | refine zX ?_ | refine vL (fun _ => ?_) | refine vp rfl rfl ?_ | refine vt rfl rfl ?_ | refine vn ?_ | refine x5 ?_ | refine x7 ?_ | refine za ?_) | refine sA ?_ | refine sC (c1) ?_ | refine sY ?_ | refine sG ?_ | ((first | refine kQ rfl rfl ?_ ?_ | refine wR rfl rfl ?_ ?_ | refine kR rfl rfl rfl rfl rfl ?_ ?_ | refine kS rfl rfl rfl ?_ ?_) <;> intro hc <;> (try simp only [KL, sL, reduceCtorEq] at hc) <;> (try (have hT : True := hc; clear hT hc)) <;> (try (exfalso; omega))))
     all_goals first | (exfalso; omega) | skip
     all_goals exact ⟨k + 1, by omega, by omega, les, by simp only [<- h0]; exact leh⟩
 ·subst hkl
  rw [Y4] at hgl ⊢
  have c1 := XB asks (by omega)
  repeat' (first | (show M _ _ _ _ _ _; first | refine zX ?_ | refine vL (fun _ => ?_) | refine vp rfl rfl ?_ | refine vt rfl rfl ?_ | refine vn ?_ | refine x5 ?_ | refine x7 ?_ | refine za ?_) | refine sA ?_ | refine sC (c1) ?_ | refine sY ?_ | refine sG ?_ | ((first | refine kQ rfl rfl ?_ ?_ | refine wR rfl rfl ?_ ?_ | refine kR rfl rfl rfl rfl rfl ?_ ?_ | refine kS rfl rfl rfl ?_ ?_) <;> intro hc <;> (try simp only [KL, sL, reduceCtorEq] at hc) <;> (try (have hT : True := hc; clear hT hc)) <;> (try (exfalso; omega))))
  all_goals first | (exfalso; omega) | skip
  refine j5I (fun _ => vN jD (t := 7) rfl 15 60 2 (by omega) rfl) ?_
  obtain ⟨S, hS⟩ : ∃ S, S = jO asks := ⟨_, rfl⟩
  have hSl : S.length = asks.length := by rw [hS, wC]
  have he : zj l asks ticks = (jO (yg l S ticks).lt, (yg l S ticks).rf) := by rw [hS]; rfl
  rw [<- hS, he]
  have e0 : yg l (S.take 0) ticks = ⟨qz l, xZ l ticks l.length, []⟩ := by rw [List.take_zero]; rfl
  refine j5N (fun k : Nat => ([(0, .lst 7 (l.map jJ)), (2, .int .i64 ticks), (6, .ptr 11 0), (7, .own 15), (8, .own 12), (50, .lst 2 (S.map jD)), (51, .int .i64 S.length), (52, .int .i64 k)],
    [(11, .blk 40 [.own 10]), (10, .row 60 2 ((yg l (S.take k) ticks).lt.map jD)), (15, .row 60 2 ((yg l (S.take k) ticks).rf.map jD)), (12, .row 115 3 ((yg l (S.take k) ticks).gs.map eGt))]))
   (fun k => k <= S.length) (fun k => S.length - k) 0 (by omega) les (by rw [e0]; exact leh) (fun k hk => ?_)
  have hinv := j54 l (S.take k) ticks
  have hlen := j0A l ticks (S.take k) ⟨qz l, xZ l ticks l.length, []⟩
  rw [show (S.take k).foldl (vR ticks) ⟨qz l, xZ l ticks l.length, []⟩ = yg l (S.take k) ticks from rfl] at hlen
  simp only [List.length_take, List.length_nil] at hlen
  rcases Nat.lt_or_eq_of_le hk with hkl | hkl
  ·have hnx := j2X l S ticks k hkl
   generalize hs : yg l (S.take k) ticks = s at *
   obtain ⟨gs, lt, rf⟩ := s
   obtain ⟨d, hd⟩ : ∃ d, S.getD k default = d := ⟨_, rfl⟩
   rw [hd, vR] at hnx
   obtain ⟨a, tk⟩ := d
   simp only at hlen ⊢
   have hgl : gs.length = l.length := hinv.len
   by_cases hin : 0 <= tk ∧ tk < l.length ∧ a < ticks
   ·obtain ⟨j, rfl⟩ : ∃ j : Nat, tk = j := ⟨tk.toNat, by omega⟩
    have hjl : j < gs.length := by omega
    have hlow := hinv.low j (by omega)
    simp only at hlow
    have hokA : okA ticks ⟨gs, lt, rf⟩ ⟨a, (j : Int)⟩ = JY (gs.getD j default) a := by
     rw [okA]; simp only [Int.toNat_natCast]
     rw [decide_eq_true (by omega), Bool.true_and]
    rw [hokA] at hnx
    simp only [Int.toNat_natCast] at hnx
    repeat' (first | (show M _ _ _ _ _ _; first | refine zX ?_ | refine vL (fun _ => ?_) | refine vp rfl rfl ?_ | refine vt rfl rfl ?_ | refine vn ?_ | refine x5 ?_ | refine x7 ?_ | refine za ?_) | refine sB ?_ | (show O _ _ _ _ _ _ _; first | refine jR (id := 16) rfl rfl rfl rfl rfl rfl rfl ?_) | ((first | apply kM | apply kN); (iterate 3 (· exact rfl)); (· first | (show Y _ ⟨_, .indexAddr _ _ _, _, _, _, _⟩ _ _ _; first | exact Y.mk (qe (hd) rfl rfl rfl rfl rfl (by omega))))) | refine sY ?_ | refine sG ?_ | ((first | refine kQ rfl rfl ?_ ?_ | refine wR rfl rfl ?_ ?_ | refine kR rfl rfl rfl rfl rfl ?_ ?_ | refine kS rfl rfl rfl ?_ ?_) <;> intro hc <;> (try simp only [KL, sL, reduceCtorEq] at hc) <;> (try (have hT : True := hc; clear hT hc)) <;> (try (exfalso; omega))))
    all_goals first | (exfalso; omega) | skip
    refine zt (H := fun y : List Gt => [(16, .blk 60 [.int .i64 a, .int .i64 j]), (11, .blk 40 [.own 10]), (10, .row 60 2 (lt.map jD)), (15, .row 60 2 (rf.map jD)), (12, .row 115 3 (y.map eGt))]) (ok := fun y => y.length = l.length) (tn := [8]) (ln := []) gs leh (by kernel_rfl) (by kernel_rfl) rfl hgl ?_
    repeat' (first | refine sA ?_ | refine sY ?_ | (show C _ _ _ _ _ _ _ _ _ _ _; first | refine JZ ?_ | (apply xj; (· exact rfl); (· exact rfl); (· intro y' hy'; first | exact ya)) | (apply JI; (· exact rfl); (· exact rfl); (· exact rfl); (· first | exact ya)) | refine wP rfl rfl rfl ?_) | refine sG ?_ | ((first | refine kQ rfl rfl ?_ ?_ | refine kR rfl rfl rfl rfl rfl ?_ ?_ | refine kS rfl rfl rfl ?_ ?_ | refine xh rfl rfl rfl ?_ ?_) <;> intro hc <;> (try simp only [KL, sL, reduceCtorEq] at hc) <;> (try (have hT : True := hc; clear hT hc)) <;> (try (exfalso; omega))))
    all_goals first | (exfalso; omega) | skip
    refine Yl (x' := gs.set j (upG (gs.getD j default) a)) rfl rfl ?_ (j0G (fun i => i + 8) (j37 gs j a hjl (fun _ => hlow.1)) rfl leh rfl rfl rfl rfl rfl rfl leh) ?_
    ·rw [List.length_set]; exact hgl
    repeat' (first | (show M _ _ _ _ _ _; first | refine zX ?_ | refine vL (fun _ => ?_) | refine vp rfl rfl ?_ | refine vt rfl rfl ?_ | refine vn ?_ | refine x5 ?_ | refine x7 ?_ | refine za ?_) | refine sA ?_ | refine sY ?_ | (show C _ _ _ _ _ _ _ _ _ _ _; first | refine JZ ?_ | (apply xj; (· exact rfl); (· exact rfl); (· intro y' hy'; first | exact ya)) | (apply JI; (· exact rfl); (· exact rfl); (· exact rfl); (· first | exact ya)) | refine wP rfl rfl rfl ?_) | refine sG ?_ | ((first | refine kQ rfl rfl ?_ ?_ | refine wR rfl rfl ?_ ?_ | refine kR rfl rfl rfl rfl rfl ?_ ?_ | refine kS rfl rfl rfl ?_ ?_ | refine xh rfl rfl rfl ?_ ?_) <;> intro hc <;> (try simp only [KL, sL, reduceCtorEq] at hc) <;> (try (have hT : True := hc; clear hT hc)) <;> (try (exfalso; omega))))
    ·rw [if_pos hc] at hnx
     refine jh (xQ (id := 11) rfl) ?_
     refine ole (h' := [(11, .blk 40 [.undef]), (10, .row 60 2 (lt.map jD)), (15, .row 60 2 (rf.map jD)), (12, .row 115 3 ((gs.set j (upG (gs.getD j default) a)).map eGt))]) (LeS.refl _) leh ?_
     (refine v7 (id := 10) (ys := [(⟨a, (j : Int)⟩ : Due)]) (by_ := 16) rfl rfl rfl rfl rfl rfl rfl rfl rfl rfl (fun _ _ => rfl) ?_ ?_ rfl rfl rfl rfl rfl ?_; (· (first | omega | ((try simp only [List.length_cons, List.length_nil, List.length_append, List.length_map]) <;> omega))); (· (first | omega | ((try simp only [List.length_cons, List.length_nil, List.length_append, List.length_map]) <;> omega))))
     repeat' (first | (show M _ _ _ _ _ _; first | refine zX ?_ | refine vL (fun _ => ?_) | refine vp rfl rfl ?_ | refine vt rfl rfl ?_ | refine vn ?_ | refine x5 ?_ | refine x7 ?_ | refine za ?_) | refine sT ?_ | ((first | refine kQ rfl rfl ?_ ?_ | refine wR rfl rfl ?_ ?_ | refine kR rfl rfl rfl rfl rfl ?_ ?_ | refine kS rfl rfl rfl ?_ ?_) <;> intro hc <;> (try simp only [KL, sL, reduceCtorEq] at hc) <;> (try (have hT : True := hc; clear hT hc)) <;> (try (exfalso; omega))))
     exact ⟨k + 1, by omega, by omega, les, by simp only [hnx, upG, if_pos hc]; exact leh⟩
    ·rw [if_neg (by rw [hc]; exact Bool.false_ne_true)] at hnx
     have e4 : gs.set j (upG (gs.getD j default) a) = gs := by rw [upG, if_neg (by rw [hc]; exact Bool.false_ne_true)]; simp [hjl]
     (refine v7 (id := 15) (ys := [(⟨a, (j : Int)⟩ : Due)]) (by_ := 16) rfl rfl rfl rfl rfl rfl rfl rfl rfl rfl (fun _ _ => rfl) ?_ ?_ rfl rfl rfl rfl rfl ?_; (· (first | omega | ((try simp only [List.length_cons, List.length_nil, List.length_append, List.length_map]) <;> omega))); (· (first | omega | ((try simp only [List.length_cons, List.length_nil, List.length_append, List.length_map]) <;> omega))))
     repeat' (first | (show M _ _ _ _ _ _; first | refine zX ?_ | refine vL (fun _ => ?_) | refine vp rfl rfl ?_ | refine vt rfl rfl ?_ | refine vn ?_ | refine x5 ?_ | refine x7 ?_ | refine za ?_) | refine sT ?_ | ((first | refine kQ rfl rfl ?_ ?_ | refine wR rfl rfl ?_ ?_ | refine kR rfl rfl rfl rfl rfl ?_ ?_ | refine kS rfl rfl rfl ?_ ?_) <;> intro hc <;> (try simp only [KL, sL, reduceCtorEq] at hc) <;> (try (have hT : True := hc; clear hT hc)) <;> (try (exfalso; omega))))
     exact ⟨k + 1, by omega, by omega, les, by simp only [hnx, e4]; exact leh⟩
   ·have hno : okA ticks ⟨gs, lt, rf⟩ ⟨a, tk⟩ = false := by
     simp only [okA, Bool.and_eq_false_iff, decide_eq_false_iff_not]; left; omega
    rw [hno, if_neg Bool.false_ne_true] at hnx
    repeat' (first | (show M _ _ _ _ _ _; first | refine zX ?_ | refine vL (fun _ => ?_) | refine vp rfl rfl ?_ | refine vt rfl rfl ?_ | refine vn ?_ | refine x5 ?_ | refine x7 ?_ | refine za ?_) | refine sA ?_ | (show O _ _ _ _ _ _ _; first | refine jR (id := 16) rfl rfl rfl rfl rfl rfl rfl ?_) | ((first | apply kM | apply kN); (iterate 3 (· exact rfl)); (· first | (show Y _ ⟨_, .indexAddr _ _ _, _, _, _, _⟩ _ _ _; first | exact Y.mk (qe (hd) rfl rfl rfl rfl rfl (by omega))))) | refine sY ?_ | refine sG ?_ | ((first | refine kQ rfl rfl ?_ ?_ | refine wR rfl rfl ?_ ?_ | refine kR rfl rfl rfl rfl rfl ?_ ?_ | refine kS rfl rfl rfl ?_ ?_) <;> intro hc <;> (try simp only [KL, sL, reduceCtorEq] at hc) <;> (try (have hT : True := hc; clear hT hc)) <;> (try (exfalso; omega))))
    all_goals first | (exfalso; omega) | skip
    all_goals (refine v7 (id := 15) (ys := [(⟨a, tk⟩ : Due)]) (by_ := 16) rfl rfl rfl rfl rfl rfl rfl rfl rfl rfl (fun _ _ => rfl) ?_ ?_ rfl rfl rfl rfl rfl ?_; (· (first | omega | ((try simp only [List.length_cons, List.length_nil, List.length_append, List.length_map]) <;> omega))); (· (first | omega | ((try simp only [List.length_cons, List.length_nil, List.length_append, List.length_map]) <;> omega))))
    all_goals repeat' (first | (show M _ _ _ _ _ _; first | refine zX ?_ | refine vL (fun _ => ?_) | refine vp rfl rfl ?_ | refine vt rfl rfl ?_ | refine vn ?_ | refine x5 ?_ | refine x7 ?_ | refine za ?_) | refine sT ?_ | ((first | refine kQ rfl rfl ?_ ?_ | refine wR rfl rfl ?_ ?_ | refine kR rfl rfl rfl rfl rfl ?_ ?_ | refine kS rfl rfl rfl ?_ ?_) <;> intro hc <;> (try simp only [KL, sL, reduceCtorEq] at hc) <;> (try (have hT : True := hc; clear hT hc)) <;> (try (exfalso; omega))))
    all_goals exact ⟨k + 1, by omega, by omega, les, by simp only [hnx]; exact leh⟩
  ·subst hkl
   rw [List.take_length] at *
   have c2 := XB (yg l S ticks).lt (by omega)
   repeat' (first | (show M _ _ _ _ _ _; first | refine zX ?_ | refine vL (fun _ => ?_) | refine vp rfl rfl ?_ | refine vt rfl rfl ?_ | refine vn ?_ | refine x5 ?_ | refine x7 ?_ | refine za ?_) | refine sT ?_ | ((first | refine kQ rfl rfl ?_ ?_ | refine wR rfl rfl ?_ ?_ | refine kR rfl rfl rfl rfl rfl ?_ ?_ | refine kS rfl rfl rfl ?_ ?_) <;> intro hc <;> (try simp only [KL, sL, reduceCtorEq] at hc) <;> (try (have hT : True := hc; clear hT hc)) <;> (try (exfalso; omega))))
   all_goals first | (exfalso; omega) | skip
   refine jh (xQ (id := 11) rfl) ?_
   refine jh (jf (t := 91) rfl rfl rfl) ?_
   repeat' (first | (show M _ _ _ _ _ _; first | refine zX ?_ | refine vL (fun _ => ?_) | refine vp rfl rfl ?_ | refine vt rfl rfl ?_ | refine vn ?_ | refine x5 ?_ | refine x7 ?_ | refine za ?_) | refine sA ?_ | refine sC (c2) ?_ | refine sY ?_ | refine sG ?_ | ((first | refine kQ rfl rfl ?_ ?_ | refine wR rfl rfl ?_ ?_ | refine kR rfl rfl rfl rfl rfl ?_ ?_ | refine kS rfl rfl rfl ?_ ?_) <;> intro hc <;> (try simp only [KL, sL, reduceCtorEq] at hc) <;> (try (have hT : True := hc; clear hT hc)) <;> (try (exfalso; omega))))
   refine ww (fun _ => jf (t := 7) rfl rfl rfl) ?_
   exact jK rfl rfl
theorem ZT : Fn Tryz.prog 25 [] (.bool true) := by
 have f1 := Jz [⟨0, 0, 0, 0, 4, 0, []⟩, ⟨0, 1, 0, 0, 4, 0, []⟩] [⟨0, 0⟩, ⟨0, 1⟩] [[2], [2]] 4 (by decide) (by decide)
 rw [show (yA [⟨0, 0, 0, 0, 4, 0, []⟩, ⟨0, 1, 0, 0, 4, 0, []⟩] [⟨0, 0⟩, ⟨0, 1⟩] [[2], [2]] 4).T = [1, 1, 0, 0] by decide] at f1
 have f2 := j0M [1, 1, 0, 0] [1, 1, 0, 0]
 rw [show decide (([1, 1, 0, 0] : List Int) = [1, 1, 0, 0]) = true by decide] at f2
 have f3 : Fn Tryz.prog 30 [.lst 7 [[.int .i64 0, .int .i64 0, .int .i64 0, .int .i64 0, .int .i64 4, .int .i64 0, .nils], [.int .i64 0, .int .i64 1, .int .i64 0, .int .i64 0, .int .i64 4, .int .i64 0, .nils]], .lst 2 [[.int .i64 0, .int .i64 0], [.int .i64 0, .int .i64 1]], .lst 1 [[.lst 1 [[.int .i64 2]]], [.lst 1 [[.int .i64 2]]]], .int .i64 4] (.lst 1 (([1, 1, 0, 0] : List Int).map eI)) := by
  refine f1.le ?_
  refine L2.cons (j6c rfl ?_) (L2.cons (LeV.of_eq rfl) (L2.cons (LeV.of_eq rfl) (L2.cons (LeV.of_eq rfl) (L2.nil _))))
  simp only [List.flatten, List.map, jJ, List.cons_append, List.nil_append]
  repeat' (first | exact L2.nil _ | refine L2.cons ?_ ?_ | exact LeV0.refl _ | exact LeV0.nils _)
 refine fnb Tryz.func25 (j5 (by kernel_rfl)) rfl rfl rfl ?_
 repeat' (first | refine sT ?_ | refine sC (f3) ?_ | refine sC (f2) ?_ | refine sQ ?_ ?_ | intro hc | exact trivial)
 exact jK rfl rfl
theorem j1v (es : List Event) {k : Nat} (h : k < es.length) : tkE (es.take (k + 1)) = tkE (es.take k) ++ (if (es.getD k default).kind = 5 ∨ (es.getD k default).kind = 6 then [(es.getD k default).task] else []) := by
 have e : es.getD k default = es[k] := by simp [h]
 rw [List.take_succ_eq_append_getElem h, J7, <- e]
 congr 1
 unfold tkE
 by_cases hk : (es.getD k default).kind = 5 ∨ (es.getD k default).kind = 6
 ·rw [if_pos hk, List.filter_cons, if_pos (by simpa using hk)]; rfl
 ·rw [if_neg hk, List.filter_cons, if_neg (by simpa using hk)]; rfl
theorem j2p (es : List Event) {k : Nat} (h : k < es.length) : msE (es.take (k + 1)) = msE (es.take k) ++ (if (es.getD k default).kind = 4 then [(⟨(es.getD k default).t, (es.getD k default).task⟩ : Due)] else []) := by
 have e : es.getD k default = es[k] := by simp [h]
 rw [List.take_succ_eq_append_getElem h, JK, <- e]
 congr 1
 unfold msE
 by_cases hk : (es.getD k default).kind = 4
 ·rw [if_pos hk, List.filter_cons, if_pos (by simpa using hk)]; rfl
 ·rw [if_neg hk, List.filter_cons, if_neg (by simpa using hk)]; rfl
theorem j44 (es : List Event) (k : Nat) : (tkE (es.take k)).length <= k := by
 unfold tkE; rw [List.length_map]
 exact Nat.le_trans (List.length_filter_le _ _) (by rw [List.length_take]; omega)
theorem j4C (es : List Event) (k : Nat) : (msE (es.take k)).length <= k := by
 unfold msE; rw [List.length_map]
 exact Nat.le_trans (List.length_filter_le _ _) (by rw [List.length_take]; omega)
def z2 (js : List Job) : List Due := (js.filter (·.missed)).map dlJ
theorem j1I (js : List Job) {k : Nat} (h : k < js.length) : z2 (js.take (k + 1)) = z2 (js.take k) ++ (if (js.getD k default).missed = true then [dlJ (js.getD k default)] else []) := by
 have e : js.getD k default = js[k] := by simp [h]
 unfold z2
 rw [List.take_succ_eq_append_getElem h, List.filter_append, List.map_append, <- e]
 congr 1
 by_cases hk : (js.getD k default).missed = true
 ·rw [if_pos hk, List.filter_cons, if_pos hk]; rfl
 ·rw [if_neg hk, List.filter_cons, if_neg hk]; rfl
theorem Z0 (js : List Job) (k : Nat) : (z2 (js.take k)).length <= k := by
 unfold z2; rw [List.length_map]
 exact Nat.le_trans (List.length_filter_le _ _) (by rw [List.length_take]; omega)
abbrev hT2 (xs : List Int) (ms : List Due) : j8 := [(20, .row 3 1 (xs.map eI)), (21, .row 60 2 (ms.map jD)), jo]
abbrev hT3 (xs : List Int) (ms ws : List Due) : j8 := [(20, .row 3 1 (xs.map eI)), (21, .row 60 2 (ms.map jD)), (22, .row 60 2 (ws.map jD)), jo]
set_option maxHeartbeats 16000000 in
theorem abstractKernel_fn (l : List Task) (asks : List Due) (dm : List (List Int)) (ticks : Int) : FnT Tryz.prog tabK 5 [.agg [.lst 7 (l.map jJ), .lst 2 (asks.map jD), .lst 1 (dm.map eLI), .int .i64 ticks]] (.bool true) := by
 refine j1h Tryz.func5 (j5 (by kernel_rfl)) rfl rfl rfl rfl ?_
 have c1 := ZS l asks dm ticks
 have c2 := ZT
 cases hli : Xp l asks dm ticks <;> rw [hli] at c1
 ·repeat' (first | refine sA ?_ | refine sC (c1) ?_ | refine sC (c2) ?_ | refine sY ?_ | refine sG ?_ | refine sQ ?_ ?_ | intro hc | exact trivial)
  all_goals first | (exfalso; omega) | (exfalso; revert hc; decide) | exact jK rfl rfl
 have hli2 : Yk l 20 = true ∧ (asks.length <= 200 ∧ dm.length <= 20 ∧ ¬ (1000 < ticks ∧ ticks <= 65536)) := by
  rw [Xp, Bool.and_eq_true, Bool.and_eq_true, decide_eq_true_eq] at hli
  exact hli.1
 obtain ⟨hfew, ha, hdm, htk⟩ := hli2
 have hl : l.length <= 20 := by
  rw [Yk, Bool.and_eq_true, decide_eq_true_eq] at hfew; omega
 by_cases h500 : 500 < ticks
 ·repeat' (first | refine sA ?_ | refine sC (c1) ?_ | refine sC (c2) ?_ | refine sY ?_ | refine sG ?_ | refine sQ ?_ ?_ | intro hc | exact trivial)
  all_goals first | (exfalso; omega) | (exfalso; revert hc; decide) | exact jK rfl rfl
 have c4 := j1M l (by omega)
 cases hok : okK l
 ·have c4 := c4.mono (R' := fun r h' => r = .nilp ∧ h' = []) fun r h hr => hr.2 hok
  repeat' (first | refine sA ?_ | refine sC (c1) ?_ | refine sY ?_ | refine sG ?_ | refine sQ ?_ ?_ | intro hc | exact trivial)
  all_goals first | (exfalso; omega) | skip
  refine jh (jA eI 118 3 1 (by omega) rfl) ?_
  refine jh (jA eI 116 3 1 (by omega) rfl) ?_
  refine jh (jA eI 115 3 1 (by omega) rfl) ?_
  refine jh (jA eI 111 3 1 (by omega) rfl) ?_
  refine jh (jA eI 110 3 1 (by omega) rfl) ?_
  refine jL (fun i => ρK i) (c4) rfl rfl leh (by kernel_rfl) (by kernel_rfl) (by kernel_rfl) (by kernel_rfl) rfl rfl (fun r h' hR => ?_)
  obtain ⟨rfl, rfl⟩ := hR
  refine ⟨rfl, rfl, ?_⟩
  refine ole (h' := [jo]) (LeS.refl _) leh ?_
  repeat' (first | refine sA ?_ | refine sC (c1) ?_ | refine sC (c2) ?_ | refine sY ?_ | refine sG ?_ | refine sQ ?_ ?_ | intro hc | exact trivial)
  all_goals first | (exfalso; omega) | exact jK rfl rfl
 have c4 := c4.mono (R' := fun r h' => r = .ptr 110 0 ∧ h' = rkO l xg (foN (List.replicate l.length [])) 0 false) fun r h hr => hr.1 hok
 have hl8 : l.length <= 8 := by rw [okK, Bool.and_eq_true, decide_eq_true_eq] at hok; omega
 by_cases hb : ticks < 0
 ·have c3 := j2c l asks dm ticks (by omega) (.inr (.inl hb))
  repeat' (first | refine sA ?_ | refine sC (c1) ?_ | refine sY ?_ | refine sG ?_ | refine sQ ?_ ?_ | intro hc | exact trivial)
  all_goals first | (exfalso; omega) | skip
  refine jh (jA eI 118 3 1 (by omega) rfl) ?_
  refine jh (jA eI 116 3 1 (by omega) rfl) ?_
  refine jh (jA eI 115 3 1 (by omega) rfl) ?_
  refine jh (jA eI 111 3 1 (by omega) rfl) ?_
  refine jh (jA eI 110 3 1 (by omega) rfl) ?_
  refine jL (fun i => ρK i) (c4) rfl rfl leh (by kernel_rfl) (by kernel_rfl) (by kernel_rfl) (by kernel_rfl) rfl rfl (fun r h' hR => ?_)
  obtain ⟨rfl, rfl⟩ := hR
  refine ⟨rfl, rfl, ?_⟩
  refine ole (h' := [jo]) (LeS.refl _) leh ?_
  repeat' (first | refine sA ?_ | refine sC (c2) ?_ | refine sY ?_ | ((first | apply kM | apply kN); (iterate 3 (· exact rfl)); (· first | exact Y.mk (xU (id := 9) c3 rfl rfl))) | refine sG ?_ | refine sQ ?_ ?_ | intro hc | exact trivial)
  all_goals first | (exfalso; omega) | exact jK rfl rfl
 obtain ⟨T, hT⟩ : ∃ T : Nat, ticks = T := ⟨ticks.toNat, by omega⟩
 subst hT
 have c3 := j60 l asks dm T hok (by omega) ⟨by omega, by omega⟩
 rw [Int.toNat_natCast] at c3
 obtain ⟨k1, k2, k3, k4, k5⟩ := j1z hok asks dm (T := T) (by omega) ha
 have c5 := j0m l asks T (by omega) (by omega) (by omega)
 generalize (zj l asks T).2 = rf at c5
 generalize (zj l asks T).1 = S at *
 have c6 := j0g l S dm T (by omega) k4 (by omega)
 have c7 := Jz l S dm T (by omega) k4
 rw [<- k1] at c7
 have hjl : (VV (yA l S dm T).m1).length <= 10000 := by
  unfold VV; rw [List.length_map, QO]; exact k3
 generalize VV (yA l S dm T).m1 = js at *
 generalize (xN l asks dm T).2 = es at *
 have c8 := j0M (tkE es) (tkE es)
 rw [decide_eq_true rfl] at c8
 have hwl : (z2 js).length <= 10000 := Nat.le_trans (by have := Z0 js js.length; rwa [List.take_length] at this) hjl
 have c9 := j3O (z2 js) (by omega)
 have ew : jO (z2 js) = msE es := k2.symm
 rw [ew] at c9
 have c10 := j58 (msE es) (msE es)
 rw [decide_eq_true rfl] at c10
 clear k1 k2 ew
 repeat' (first | refine sA ?_ | refine sC (c1) ?_ | refine sY ?_ | refine sG ?_ | refine sQ ?_ ?_ | intro hc | exact trivial)
 all_goals first | (exfalso; omega) | skip
 refine jh (jA eI 118 3 1 (by omega) rfl) ?_
 refine jh (jA eI 116 3 1 (by omega) rfl) ?_
 refine jh (jA eI 115 3 1 (by omega) rfl) ?_
 refine jh (jA eI 111 3 1 (by omega) rfl) ?_
 refine jh (jA eI 110 3 1 (by omega) rfl) ?_
 refine jL (fun i => ρK i) (c4) rfl rfl leh (by kernel_rfl) (by kernel_rfl) (by kernel_rfl) (by kernel_rfl) rfl rfl (fun r h' hR => ?_)
 obtain ⟨rfl, rfl⟩ := hR
 refine ⟨rfl, rfl, ?_⟩
 refine ole (h' := [jo]) (LeS.refl _) leh ?_
 repeat' (first | refine sA ?_ | refine sC (c2) ?_ | refine sC (c5) ?_ | refine sY ?_ | ((first | apply kM | apply kN); (iterate 3 (· exact rfl)); (· first | exact Y.mk (xU (id := 9) c3 rfl rfl))) | refine sG ?_ | refine sQ ?_ ?_ | intro hc | exact trivial)
 all_goals first | (exfalso; omega) | skip
 refine wle (s' := [(1, .ref [.lst 7 (l.map jJ), .lst 2 (asks.map jD), .lst 1 (dm.map eLI), .int .i64 T]), (4, .int .i64 0), (5, .lst 2 (S.map jD)), (7, .nils), (8, .nils), (9, .nils), (59, .lst 5 (es.map vA)), (60, .int .i64 es.length), (61, .int .i64 0)]) (h' := [jo]) les leh ?_
 refine va (vN jD (t := 8) rfl 21 60 2 (by omega) rfl) ?_
 refine va (vN eI (t := 7) rfl 20 3 1 (by omega) rfl) ?_
 refine jk (fun k : Nat => ([(1, .ref [.lst 7 (l.map jJ), .lst 2 (asks.map jD), .lst 1 (dm.map eLI), .int .i64 T]), (4, .int .i64 0), (5, .lst 2 (S.map jD)), (7, .own 20), (8, .own 21), (9, .nils), (59, .lst 5 (es.map vA)), (60, .int .i64 es.length), (61, .int .i64 k)], hT2 (tkE (es.take k)) (msE (es.take k)))) (fun k => k <= es.length) (fun k => es.length - k) 0 (Nat.zero_le _) les (by rw [List.take_zero]; exact leh) (fun k hk => ?_)
 rcases Nat.lt_or_eq_of_le hk with hkk | hkk
 ·have n1 := j1v es hkk
  have n2 := j2p es hkk
  have m1 := j44 es k
  have m2 := j4C es k
  generalize tkE (es.take k) = xs at *
  generalize msE (es.take k) = ms at *
  by_cases h5 : (es.getD k default).kind = 5
  ·rw [if_pos (.inl h5)] at n1
   rw [if_neg (by omega), List.append_nil] at n2
   repeat' (first | refine sA ?_ | (show O _ _ _ _ _ _ _; first | refine jR (id := 12) rfl rfl rfl rfl rfl rfl rfl ?_) | refine sY ?_ | refine sG ?_ | refine sQ ?_ ?_ | intro hc | exact trivial)
   all_goals first | (exfalso; omega) | skip
   (refine v7 (id := 20) (ys := [(es.getD k default).task]) (by_ := 8) rfl rfl rfl rfl rfl rfl rfl rfl rfl rfl (fun _ _ => rfl) ?_ ?_ rfl rfl rfl rfl rfl ?_; (· (first | omega | ((try simp only [List.length_cons, List.length_nil, List.length_append, List.length_map]) <;> omega))); (· (first | omega | ((try simp only [List.length_cons, List.length_nil, List.length_append, List.length_map]) <;> omega))))
   repeat' (first | refine sT ?_ | refine sQ ?_ ?_ | intro hc | exact trivial)
   all_goals first | (exfalso; omega) | skip
   exact ⟨k + 1, by omega, by omega, les, by simp only [n1, n2]; exact leh⟩
  by_cases h6 : (es.getD k default).kind = 6
  ·rw [if_pos (.inr h6)] at n1
   rw [if_neg (by omega), List.append_nil] at n2
   repeat' (first | refine sA ?_ | (show O _ _ _ _ _ _ _; first | refine jR (id := 12) rfl rfl rfl rfl rfl rfl rfl ?_) | refine sY ?_ | refine sG ?_ | refine sQ ?_ ?_ | intro hc | exact trivial)
   all_goals first | (exfalso; omega) | skip
   (refine v7 (id := 20) (ys := [(es.getD k default).task]) (by_ := 8) rfl rfl rfl rfl rfl rfl rfl rfl rfl rfl (fun _ _ => rfl) ?_ ?_ rfl rfl rfl rfl rfl ?_; (· (first | omega | ((try simp only [List.length_cons, List.length_nil, List.length_append, List.length_map]) <;> omega))); (· (first | omega | ((try simp only [List.length_cons, List.length_nil, List.length_append, List.length_map]) <;> omega))))
   repeat' (first | refine sT ?_ | refine sQ ?_ ?_ | intro hc | exact trivial)
   all_goals first | (exfalso; omega) | skip
   exact ⟨k + 1, by omega, by omega, les, by simp only [n1, n2]; exact leh⟩
  rw [if_neg (by omega), List.append_nil] at n1
  by_cases h4 : (es.getD k default).kind = 4
  ·rw [if_pos h4] at n2
   repeat' (first | refine sA ?_ | (show O _ _ _ _ _ _ _; first | refine jR (id := 12) rfl rfl rfl rfl rfl rfl rfl ?_) | refine sY ?_ | refine sG ?_ | refine sQ ?_ ?_ | intro hc | exact trivial)
   all_goals first | (exfalso; omega) | skip
   (refine v7 (id := 21) (ys := [(⟨(es.getD k default).t, (es.getD k default).task⟩ : Due)]) (by_ := 16) rfl rfl rfl rfl rfl rfl rfl rfl rfl rfl (fun _ _ => rfl) ?_ ?_ rfl rfl rfl rfl rfl ?_; (· (first | omega | ((try simp only [List.length_cons, List.length_nil, List.length_append, List.length_map]) <;> omega))); (· (first | omega | ((try simp only [List.length_cons, List.length_nil, List.length_append, List.length_map]) <;> omega))))
   repeat' (first | refine sT ?_ | refine sQ ?_ ?_ | intro hc | exact trivial)
   all_goals first | (exfalso; omega) | skip
   exact ⟨k + 1, by omega, by omega, les, by simp only [n1, n2]; exact leh⟩
  ·rw [if_neg h4, List.append_nil] at n2
   repeat' (first | refine sA ?_ | (show O _ _ _ _ _ _ _; first | refine jR (id := 12) rfl rfl rfl rfl rfl rfl rfl ?_) | refine sY ?_ | refine sG ?_ | refine sQ ?_ ?_ | intro hc | exact trivial)
   all_goals first | (exfalso; omega) | skip
   exact ⟨k + 1, by omega, by omega, les, by simp only [n1, n2]; exact leh⟩
 subst hkk
 rw [List.take_length]
 generalize tkE es = xs at *
 generalize msE es = ms at *
 repeat' (first | refine sA ?_ | refine sC (c6) ?_ | refine sY ?_ | refine sG ?_ | refine sQ ?_ ?_ | intro hc | exact trivial)
 all_goals first | (exfalso; omega) | skip
 refine wle (s' := [(1, .ref [.lst 7 (l.map jJ), .lst 2 (asks.map jD), .lst 1 (dm.map eLI), .int .i64 T]), (4, .int .i64 0), (5, .lst 2 (S.map jD)), (7, .own 20), (8, .own 21), (9, .nils), (97, .lst 8 (js.map vX)), (98, .int .i64 js.length), (99, .int .i64 0)]) (h' := hT2 xs ms) les leh ?_
 refine va (vN jD (t := 9) rfl 22 60 2 (by omega) rfl) ?_
 refine jk (fun k : Nat => ([(1, .ref [.lst 7 (l.map jJ), .lst 2 (asks.map jD), .lst 1 (dm.map eLI), .int .i64 T]), (4, .int .i64 0), (5, .lst 2 (S.map jD)), (7, .own 20), (8, .own 21), (9, .own 22), (97, .lst 8 (js.map vX)), (98, .int .i64 js.length), (99, .int .i64 k)], hT3 xs ms (z2 (js.take k)))) (fun k => k <= js.length) (fun k => js.length - k) 0 (Nat.zero_le _) les (by rw [List.take_zero]; exact leh) (fun k hk => ?_)
 rcases Nat.lt_or_eq_of_le hk with hkk | hkk
 ·have n1 := j1I js hkk
  have m1 := Z0 js k
  generalize z2 (js.take k) = ws at *
  cases hm : (js.getD k default).missed
  ·rw [if_neg (by rw [hm]; decide), List.append_nil] at n1
   repeat' (first | refine sA ?_ | (show O _ _ _ _ _ _ _; first | refine jR (id := 13) rfl rfl rfl rfl rfl rfl rfl ?_) | refine sY ?_ | refine sG ?_ | refine sQ ?_ ?_ | intro hc | exact trivial)
   all_goals first | (exfalso; omega) | (exfalso; revert hc; rw [hm]; decide) | skip
   all_goals exact ⟨k + 1, by omega, by omega, les, by simp only [n1]; exact leh⟩
  ·rw [if_pos hm] at n1
   repeat' (first | refine sA ?_ | (show O _ _ _ _ _ _ _; first | refine jR (id := 13) rfl rfl rfl rfl rfl rfl rfl ?_) | refine sY ?_ | refine sG ?_ | refine sQ ?_ ?_ | intro hc | exact trivial)
   all_goals first | (exfalso; omega) | (exfalso; revert hc; rw [hm]; decide) | skip
   (refine v7 (id := 22) (ys := [dlJ (js.getD k default)]) (by_ := 16) rfl rfl rfl rfl rfl rfl rfl rfl rfl rfl (fun _ _ => rfl) ?_ ?_ rfl rfl rfl rfl rfl ?_; (· (first | omega | ((try simp only [List.length_cons, List.length_nil, List.length_append, List.length_map]) <;> omega))); (· (first | omega | ((try simp only [List.length_cons, List.length_nil, List.length_append, List.length_map]) <;> omega))))
   repeat' (first | refine sT ?_ | refine sQ ?_ ?_ | intro hc | exact trivial)
   exact ⟨k + 1, by omega, by omega, les, by simp only [n1]; exact leh⟩
 subst hkk
 rw [List.take_length]
 generalize z2 js = ws at *
 refine va (jf (t := 7) (id := 20) rfl rfl rfl) ?_
 refine va (jf (t := 8) (id := 21) rfl rfl rfl) ?_
 refine va (jf (t := 9) (id := 22) rfl rfl rfl) ?_
 refine wle (s' := [(1, .ref [.lst 7 (l.map jJ), .lst 2 (asks.map jD), .lst 1 (dm.map eLI), .int .i64 T]), (4, .int .i64 0), (5, .lst 2 (S.map jD)), (7, .lst 1 (xs.map eI)), (8, .lst 2 (ms.map jD)), (9, .lst 2 (ws.map jD)), (97, .lst 8 (js.map vX)), (98, .int .i64 js.length), (99, .int .i64 js.length)]) (h' := [jo]) les leh ?_
 repeat' (first | refine sA ?_ | refine sC (c2) ?_ | refine sC (c7) ?_ | refine sC (c8) ?_ | refine sC (c9) ?_ | refine sC (c10) ?_ | refine sY ?_ | refine sG ?_ | refine sQ ?_ ?_ | intro hc | exact trivial)
 all_goals first | (exfalso; omega) | exact jK rfl rfl
end Go.Proofs.YtfjoaeghnfkdlaaGreatDoor
