/- What an agenda gives until a time. No condition. -/
import Derived.Test.YtfjoaeghnfkdlaaGreatDoorB23
import Derived.Test.YtfjoaeghnfkdlaaGreatDoorB9
import Derived.Test.YtfjoaeghnfkdlaaGreatDoorB13
import Derived.Test.YtfjoaeghnfkdlaaGreatDoorB8
import Derived.WalkKit
import Derived.Test.YtfjoaeghnfkdlaaGreatDoorB17
import Derived.Test.YtfjoaeghnfkdlaaGreatDoorB15
import Derived.Test.YtfjoaeghnfkdlaaGreatDoorB19
import Derived.Test.YtfjoaeghnfkdlaaGreatDoorB18
set_option linter.unusedSimpArgs false
set_option linter.unusedVariables false
set_option maxHeartbeats 1000000
set_option maxRecDepth 100000
namespace Go.Proofs.YtfjoaeghnfkdlaaGreatDoor
open Go.RowKit
def wY (t : Int) (S : List Due) : List Due := S.takeWhile fun d => decide (d.at_ <= t)
def vC (t : Int) (S : List Due) : List Due := S.dropWhile fun d => decide (d.at_ <= t)
theorem Z1 {xs ys : List Due} (h : HpA xs) (hp : xs.Perm (dG xs 0 :: ys)) : jO xs = dG xs 0 :: jO ys := by
 refine (xf ((List.Perm.cons _ (qK ys)).trans hp.symm) ?_).symm
 rw [List.pairwise_cons]
 refine ⟨fun a ha => ?_, wD ys⟩
 have ha : a ∈ xs := hp.mem_iff.2 (List.mem_cons_of_mem _ ((qK ys).mem_iff.1 ha))
 obtain ⟨j, hj, rfl⟩ := List.getElem_of_mem ha
 have := ZY h j hj
 rwa [show dG xs j = xs[j] by simp [dG, hj]] at this
theorem z1 {a b : List Due} (h : a.Perm b) : jO a = jO b := xf ((qK a).trans h) (wD a)
theorem FnHp.drop {P : Program} {pins : List (Nat × Value)} {f : FuncId} {args : List AV} {hin : j8} {R : AV -> j8 -> Prop} (hf : FnHp P pins f args hin (fun r h' => ∃ h2, LeH h' h2 ∧ R r h2)) : FnHp P pins f args hin R :=
 ⟨hf.1, fun may pin σ ι w vs h1 h2 h3 => (hf.2 may pin σ ι w vs h1 h2 h3).mono fun e w' ⟨u, r, h', σ', ι', h1, ⟨h2, hl, hR⟩, h3, h4⟩ => ⟨u, r, h2, σ', ι', h1, hR, h3, h4.le hl⟩⟩
abbrev VZ (l : Nat) (r : Loop) (σ0 : Sig) (t room : Int) (xs : List Due) (rest : j8) : j8 :=
 (8, .sem (v6 l (.loop r))) :: (9, .sem (y8 σ0)) :: (0, .blk 83 [.ptr 2 0]) :: (1, .blk 3 [.int .i64 t]) :: (2, .blk 129 [.int .i64 room, .own 5]) :: (5, .row 60 2 (xs.map jD)) :: rest
abbrev VY (ys : List Due) : j8 := [(3, .blk 40 [.own 6]), (6, .row 60 2 (ys.map jD))]
theorem j4x (l : Nat) (r : Loop) (σ0 : Sig) (pins : List (Nat × Value)) (t room : Int) (xs ys : List Due) (d : Due) (hr : r.state = .ready) (hpd : r.pending = none) (hab : Z2 Tryz.f109.body = some (r.params, r.assign, r.body)) (hk : r.tmps.size = Tryz.f109.ntmps)
  (hs : vj σ0 pins [(2, .ptr 3 0)] r.tmps) (hx : ys.length <= 100000) :
  YF Tryz.prog l pins [.agg (jD d)] (VZ l r σ0 t room xs (VY ys)) (fun b h' => b = true ∧ h' = VZ l { r with state := .ready, pending := none } σ0 t room xs (VY (ys ++ [d]))) := by
 change Option.some (_, _, _) = some _ at hab
 injection hab with hab
 injection hab with h1 hab
 injection hab with h2 h3
 refine j0D (QJ (R := fun b h' => b = true ∧ LeH h' (VZ l { r with state := .ready, pending := none } σ0 t room xs (VY (ys ++ [d])))) (idL := 8) (idK := 9) (σ0 := σ0) rfl rfl hr h1.symm hk (by decide) hs ?_) ?_
 ·refine Q9 h2 ?_
  repeat' (first | refine sA ?_ | (show O _ _ _ _ _ _ _; first | refine jR (id := 14) rfl rfl rfl rfl rfl rfl rfl ?_) | refine sY ?_ | refine sG ?_ | refine sQ ?_ ?_ | intro hc | exact trivial)
  refine ⟨rfl, ?_⟩
  refine Q9 h3 ?_
  repeat' (first | refine sT ?_ | refine sQ ?_ ?_ | intro hc | exact trivial)
  refine jh (xQ (id := 3) rfl) ?_
  refine ole (h' := (8, .sem (v6 l (.loop { r with state := .busy }))) :: (9, .sem (y8 σ0)) :: (0, .blk 83 [.ptr 2 0]) :: (1, .blk 3 [.int .i64 t]) :: (2, .blk 129 [.int .i64 room, .own 5]) :: (5, .row 60 2 (xs.map jD)) :: [(3, .blk 40 [.undef]), (6, .row 60 2 (ys.map jD))]) (LeS.refl _) leh ?_
  (refine v7 (id := 6) (ys := [d]) (by_ := 16) rfl rfl rfl rfl rfl rfl rfl rfl rfl rfl (fun _ _ => rfl) ?_ ?_ rfl rfl rfl rfl rfl ?_; (· (first | omega | ((try simp only [List.length_cons, List.length_nil, List.length_append, List.length_map]) <;> omega))); (· (first | omega | ((try simp only [List.length_cons, List.length_nil, List.length_append, List.length_map]) <;> omega))))
  repeat' (first | refine sT ?_ | refine sQ ?_ ?_ | intro hc | exact trivial)
  exact ⟨rfl, rfl, leh⟩
 ·rintro b h' ⟨rfl, h5⟩
  exact ⟨_, h5, rfl, rfl⟩
def ρk (i : Nat) : Nat := [2, 1, 12, 13, 5, 5].getD i (i + 30)
set_option maxHeartbeats 2000000 in
theorem j4B (t room : Int) (xs0 : List Due) (h0 : HpA xs0) (hl0 : xs0.length <= 10000) (l : Nat) (r : Loop) (σ0 : Sig) (pins : List (Nat × Value)) (hr : r.state = .ready) (hpd : r.pending = none) (hab : Z2 Tryz.f109.body = some (r.params, r.assign, r.body)) (hk : r.tmps.size = Tryz.f109.ntmps)
  (hs : vj σ0 pins [(2, .ptr 3 0)] r.tmps) (hp5 : ∀ p ∈ pins, p.1 < 5) :
  FnHp Tryz.prog pins 110 (.fn (.yield l) [] [] :: [.ptr 0 0, .ptr 1 0]) (VZ l r σ0 t room xs0 (VY [])) (fun v h' => v = .tup [] ∧ ∃ ys, HpA ys ∧ ys.Perm (vC t (jO xs0)) ∧ h' = VZ l r σ0 t room ys (VY (wY t (jO xs0)))) := by
 refine FnHp.drop (j0K Tryz.func110 (j5 (by kernel_rfl)) rfl rfl ?_)
 repeat' (first | refine sT ?_ | refine sQ ?_ ?_ | intro hc | exact trivial)
 refine jk (fun x : List Due × List Due => ([(0, .fn (.yield l) [] []), (1, .ptr 0 0), (2, .ptr 1 0)], VZ l r σ0 t room x.1 (VY x.2))) (fun x => HpA x.1 ∧ x.1.length + x.2.length <= 10000 ∧ x.2 ++ wY t (jO x.1) = wY t (jO xs0) ∧ vC t (jO x.1) = vC t (jO xs0)) (fun x => x.1.length) (xs0, []) ⟨h0, by simpa using hl0, rfl, rfl⟩ les leh (fun x hx => ?_)
 obtain ⟨xs, ys⟩ := x
 obtain ⟨g1, g2, g3, g4⟩ := hx
 simp only at g1 g2 g3 g4 ⊢
 repeat' (first | refine sT ?_ | refine sQ ?_ ?_ | intro hc | exact trivial)
 refine jL (fun i => ρk i) (Vp room xs) rfl rfl leh rfl rfl rfl rfl rfl rfl (fun r h' hR => ?_)
 obtain ⟨rfl, rfl⟩ := hR
 refine ⟨rfl, rfl, ?_⟩
 refine ole (s' := [(0, .fn (.yield l) [] []), (1, .ptr 0 0), (2, .ptr 1 0), (8, .tup [.agg (jD (dG xs 0)), .bool (decide (0 < xs.length))])]) (h' := VZ l r σ0 t room xs (VY ys)) les leh ?_
 by_cases hn : 0 < xs.length
 ·rw [decide_eq_true hn]
  by_cases ht : (dG xs 0).at_ <= t
  ·repeat' (first | refine sA ?_ | (show O _ _ _ _ _ _ _; first | refine jR (id := 14) rfl rfl rfl rfl rfl rfl rfl ?_) | refine sY ?_ | refine sG ?_ | refine sQ ?_ ?_ | intro hc | exact trivial)
   all_goals first | (exfalso; omega) | skip
   refine jL (fun i => ρk i) (j38 room xs (by omega) g1) rfl rfl leh rfl rfl rfl rfl rfl rfl (fun r h' hR => ?_)
   obtain ⟨rfl, zs, k1, k2, k3, rfl⟩ := hR
   refine ⟨rfl, rfl, ?_⟩
   have hsp := Z1 g1 (k2 hn)
   have hzl := (k2 hn).length_eq
   rw [List.length_cons] at hzl
   repeat' (first | refine sT ?_ | refine sQ ?_ ?_ | intro hc | exact trivial)
   have hrd := rdy hr hpd
   refine j0P (fun i => i) (j4x l r σ0 pins t room zs ys (dG xs 0) hr hpd hab hk hs (by omega)) (fun p hp => hp) hp5 rfl rfl rfl rfl leh rfl rfl rfl rfl rfl rfl (fun r1 h' hR => ?_)
   rw [hrd] at hR
   obtain ⟨rfl, rfl⟩ := hR
   refine ⟨rfl, ?_⟩
   repeat' (first | refine sA ?_ | refine sY ?_ | ((first | apply kM | apply kN); (iterate 3 (· exact rfl)); (· first | exact q_w rfl)) | refine sG ?_ | refine sQ ?_ ?_ | intro hc | exact trivial)
   refine ⟨(zs, ys ++ [dG xs 0]), ⟨k1, ?_, ?_, ?_⟩, ?_, les, leh⟩
   ·simp only [List.length_append, List.length_cons, List.length_nil]; omega
   ·rw [<- g3, hsp, wY, wY, List.takeWhile_cons, decide_eq_true ht]; simp
   ·rw [<- g4, hsp, vC, vC, List.dropWhile_cons, decide_eq_true ht]; simp
   ·simp only; omega
  ·have e1 : wY t (jO xs) = [] ∧ vC t (jO xs) = jO xs := by
    have hpp : xs.Perm (dG xs 0 :: QC xs) := XJ hn
    rw [Z1 g1 hpp, wY, vC, List.takeWhile_cons, List.dropWhile_cons, decide_eq_false ht]; exact ⟨rfl, rfl⟩
   rw [e1.1, List.append_nil] at g3
   rw [e1.2] at g4
   repeat' (first | refine sA ?_ | (show O _ _ _ _ _ _ _; first | refine jR (id := 14) rfl rfl rfl rfl rfl rfl rfl ?_) | refine sY ?_ | refine sG ?_ | refine sQ ?_ ?_ | intro hc | exact trivial)
   all_goals first | (exfalso; omega) | skip
   all_goals exact vb rfl ⟨VZ l r σ0 t room xs (VY ys), leh, rfl, xs, g1, g4 ▸ (qK xs).symm, by rw [<- g3]⟩
 ·rw [decide_eq_false hn]
  have e : xs = [] := List.eq_nil_of_length_eq_zero (by omega)
  subst e
  have e1 : wY t (jO []) = [] ∧ vC t (jO []) = [] := ⟨rfl, rfl⟩
  rw [e1.1, List.append_nil] at g3
  rw [e1.2] at g4
  repeat' (first | refine sA ?_ | (show O _ _ _ _ _ _ _; first | refine jR (id := 14) rfl rfl rfl rfl rfl rfl rfl ?_) | refine sY ?_ | refine sG ?_ | refine sQ ?_ ?_ | intro hc | exact trivial)
  all_goals first | (exfalso; omega) | skip
  all_goals exact vb rfl ⟨VZ l r σ0 t room [] (VY ys), leh, rfl, [], g1, g4 ▸ List.Perm.refl _, by rw [<- g3]⟩
def ρu (i : Nat) : Nat := [0, 1, 2, 10, 4, 5, 11, 7, 21, 22].getD i i
theorem j4j (t room : Int) (xs : List Due) (h0 : HpA xs) (hl0 : xs.length <= 10000) : FnH Tryz.prog 109 [.nils, .fn (.func 110) [] [.ptr 0 0, .ptr 1 0]]
  [(0, .blk 83 [.ptr 2 0]), (1, .blk 3 [.int .i64 t]), (2, .blk 129 [.int .i64 room, .own 5]), (5, .row 60 2 (xs.map jD))]
  (fun v h' => v = .lst 2 ((wY t (jO xs)).map jD) ∧ ∃ ys, HpA ys ∧ ys.Perm (vC t (jO xs)) ∧ h' = [(2, .blk 129 [.int .i64 room, .own 5]), (5, .row 60 2 (ys.map jD))]) := by
 refine j6l Tryz.func109 (j5 (by kernel_rfl)) rfl rfl ?_
 refine zI (v_w ?_)
 refine va (vN jD (t := 0) rfl 11 60 2 (by omega) rfl) ?_
 repeat' (first | refine sA ?_ | (show O _ _ _ _ _ _ _; first | (show O _ _ _ _ (⟨_, .box _ _, _, _, _, _⟩ :: _) _ _; first | refine wx (id := 10) rfl rfl rfl rfl rfl rfl rfl rfl ?_)) | ((first | apply kM | apply kN); (iterate 3 (· exact rfl)); (· first | exact yab)) | refine sG ?_ | refine sQ ?_ ?_ | intro hc | exact trivial)
 refine wM ?_
 refine j2g (fun D : {D : Nat × List Due // HpA D.2 ∧ D.2.Perm (vC t (jO xs))} => ([wL D.1.1], [(2, .ptr 10 0)], [(10, .blk 40 [.own 11]), (11, .row 60 2 ((wY t (jO xs)).map jD)), (2, .blk 129 [.int .i64 room, .own 5]), (5, .row 60 2 (D.1.2.map jD)), (20, .sem (v6 D.1.1 (.deferred (some []))))])) ?_ (fun D => ?_)
 ·refine zI (v_w ?_)
  repeat' (first | refine sT ?_ | refine sQ ?_ ?_ | intro hc | exact trivial)
  refine wM (Xm ?_)
  refine j4u (s' := [(2, .ptr 10 0), (6, .fn (.func 110) [] [.ptr 0 0, .ptr 1 0])]) (h' := [(10, .blk 40 [.own 11]), (11, .row 60 2 (([] : List Due).map jD)), (0, .blk 83 [.ptr 2 0]), (1, .blk 3 [.int .i64 t]), (2, .blk 129 [.int .i64 room, .own 5]), (5, .row 60 2 (xs.map jD))]) les leh ?_
  refine XU (ρu) (caps0 := [.ptr 0 0, .ptr 1 0]) (s0 := [(2, .ptr 3 0)]) (hin0 := [(0, .blk 83 [.ptr 2 0]), (1, .blk 3 [.int .i64 t]), (2, .blk 129 [.int .i64 room, .own 5]), (5, .row 60 2 (xs.map jD)), (3, .blk 40 [.own 6]), (6, .row 60 2 (([] : List Due).map jD))]) 20 21 22 (R := fun l r v h' => r.state = .ready ∧ r.pending = none ∧ v = .tup [] ∧ ∃ σ0 ys, HpA ys ∧ ys.Perm (vC t (jO xs)) ∧ h' = VZ l r σ0 t room ys (VY (wY t (jO xs))))
   rfl rfl rfl rfl (fun _ => rfl) (fun _ _ _ => rfl) (fun _ _ _ _ => leh) rfl rfl rfl (fun _ _ _ _ => rfl) les rfl (fun l D r σ0 pins q1 q2 q3 q4 q5 q6 q7 q8 => ?_) (fun l D r σ0 v h' hR => ?_) rfl
  ·exact zN (j4B t room xs h0 hl0 l r σ0 pins q1 q2 (by rw [q3, q4, q5]; rfl) q6 q7 q8) fun v h' ⟨e1, ys, e2, e3, e4⟩ => ⟨q1, q2, e1, σ0, ys, e2, e3, e4⟩
  ·obtain ⟨q1, q2, rfl, σ1, ys, e2, e3, rfl⟩ := hR
   refine ⟨rfl, r, rfl, by rw [q1]; simp, fun _ => ?_, fun c e => by rw [q2] at e; cases e⟩
   exact j69 (wM ⟨⟨(D, ys), e2, e3⟩, rfl, les, leh⟩)
 ·obtain ⟨⟨D, ys⟩, e2, e3⟩ := D
  refine zI (v_w ?_)
  repeat' (first | refine sT ?_ | refine sQ ?_ ?_ | intro hc | exact trivial)
  refine wM (v_w (j23 ?_))
  refine j5O (fun _ => jf (t := 4) rfl rfl rfl) ?_
  exact j27 (id := 20) rfl rfl (h0 := [(2, .blk 129 [.int .i64 room, .own 5]), (5, .row 60 2 (ys.map jD))]) leh rfl ⟨rfl, ys, e2, e3, rfl⟩
theorem j2J (t room : Int) (xs : List Due) : FnH Tryz.prog 80 [.ptr 0 0, .int .i64 t] (agH 5 room xs ++ [(6, .row 3 1 (([] : List Int).map eI)), (7, .row 3 1 (([] : List Int).map eI))])
  (fun v h' => v = .fn (.func 110) [] [.ptr 6 0, .ptr 7 0] ∧ h' = agH 5 room xs ++ [(6, .blk 83 [.ptr 0 0]), (7, .blk 3 [.int .i64 t])]) := by
 refine qo Tryz.func80 (j5 (by kernel_rfl)) rfl rfl ?_
 refine wle (s' := [(0, .ptr 0 0), (1, .int .i64 t)]) (h' := agH 5 room xs) les leh ?_
 repeat' (first | refine sA ?_ | (show O _ _ _ _ _ _ _; first | (show O _ _ _ _ (⟨_, .box _ _, _, _, _, _⟩ :: _) _ _; first | refine wx (id := 6) rfl rfl rfl rfl rfl rfl rfl rfl ?_ | refine wx (id := 7) rfl rfl rfl rfl rfl rfl rfl rfl ?_)) | ((first | apply kM | apply kN); (iterate 3 (· exact rfl)); (· first | exact yab)) | refine sG ?_ | refine sQ ?_ ?_ | intro hc | exact trivial)
 exact JU (h' := agH 5 room xs ++ [(6, .blk 83 [.ptr 0 0]), (7, .blk 3 [.int .i64 t])]) rfl leh ⟨rfl, rfl⟩
theorem j4h (t room : Int) (xs : List Due) (h0 : HpA xs) (hl0 : xs.length <= 10000) : FnH Tryz.prog 79 [.fn (.func 110) [] [.ptr 0 0, .ptr 1 0]]
  [(0, .blk 83 [.ptr 2 0]), (1, .blk 3 [.int .i64 t]), (2, .blk 129 [.int .i64 room, .own 5]), (5, .row 60 2 (xs.map jD))]
  (fun v h' => v = .lst 2 ((wY t (jO xs)).map jD) ∧ ∃ ys, HpA ys ∧ ys.Perm (vC t (jO xs)) ∧ h' = [(2, .blk 129 [.int .i64 room, .own 5]), (5, .row 60 2 (ys.map jD))]) := by
 refine qo Tryz.func79 (j5 (by kernel_rfl)) rfl rfl ?_
 repeat' (first | refine sT ?_ | refine sQ ?_ ?_ | intro hc | exact trivial)
 refine jL (fun i => i) (j4j t room xs h0 hl0) rfl rfl leh rfl rfl rfl rfl rfl rfl (fun r h' hR => ?_)
 obtain ⟨rfl, ys, e2, e3, rfl⟩ := hR
 refine ⟨rfl, rfl, ?_⟩
 repeat' (first | refine sT ?_ | refine sQ ?_ ?_ | intro hc | exact trivial)
 exact JU rfl leh ⟨rfl, ys, e2, e3, rfl⟩
def ρv (i : Nat) : Nat := [16, 17, 0, 13, 14, 5].getD i (i + 30)
theorem Zc (t room : Int) (xs : List Due) (h0 : HpA xs) (hl0 : xs.length <= 10000) : FnH Tryz.prog 46 [.ptr 0 0, .int .i64 t] (agH 5 room xs)
  (fun v h' => v = .lst 2 ((wY t (jO xs)).map jD) ∧ ∃ ys, HpA ys ∧ ys.Perm (vC t (jO xs)) ∧ h' = agH 5 room ys) := by
 refine qo Tryz.func46 (j5 (by kernel_rfl)) rfl rfl ?_
 repeat' (first | refine sT ?_ | refine sQ ?_ ?_ | intro hc | exact trivial)
 refine jh (jA eI 16 3 1 (by omega) rfl) ?_
 refine jh (jA eI 17 3 1 (by omega) rfl) ?_
 refine jL (fun i => [0, 1, 2, 3, 4, 5, 16, 17].getD i (i + 30)) (j2J t room xs) rfl rfl leh rfl rfl rfl rfl rfl rfl (fun r h' hR => ?_)
 obtain ⟨rfl, rfl⟩ := hR
 refine ⟨rfl, rfl, ?_⟩
 repeat' (first | refine sT ?_ | refine sQ ?_ ?_ | intro hc | exact trivial)
 refine jL (fun i => ρv i) (j4h t room xs h0 hl0) rfl rfl leh rfl rfl rfl rfl rfl rfl (fun r h' hR => ?_)
 obtain ⟨rfl, ys, e2, e3, rfl⟩ := hR
 refine ⟨rfl, rfl, ?_⟩
 repeat' (first | refine sT ?_ | refine sQ ?_ ?_ | intro hc | exact trivial)
 exact JU (h' := agH 5 room ys) rfl leh ⟨rfl, ys, e2, e3, rfl⟩
end Go.Proofs.YtfjoaeghnfkdlaaGreatDoor
namespace Go.Proofs.YtfjoaeghnfkdlaaGreatDoor
open Go.RowKit Go.ChangeShapes Go.WideShapes

structure Event where
 t : Int
 kind : Int
 task : Int
 a : Int
 b : Int
instance : Inhabited Event := ⟨⟨0, 0, 0, 0, 0⟩⟩
theorem Event.ext_ {x y : Event} (h : x.t = y.t ∧ x.kind = y.kind ∧ x.task = y.task ∧ x.a = y.a ∧ x.b = y.b) : x = y := by cases x; cases y; simp_all
instance : DecidableEq Event := fun x y => decidable_of_iff (x.t = y.t ∧ x.kind = y.kind ∧ x.task = y.task ∧ x.a = y.a ∧ x.b = y.b) ⟨Event.ext_, fun h => by subst h; simp⟩
def Event.cells (x : Event) : List Value := [.int .i64 x.t, .int .i64 x.kind, .int .i64 x.task, .int .i64 x.a, .int .i64 x.b]
def Event.ok (x : Event) : Prop := (Lit.int .i64 x.t).wf = true ∧ (Lit.int .i64 x.kind).wf = true ∧ (Lit.int .i64 x.task).wf = true ∧ (Lit.int .i64 x.a).wf = true ∧ (Lit.int .i64 x.b).wf = true
def Event.cod : Cod Event := fun _ cs x => cs = x.cells ∧ x.ok
theorem Event.mono : Mono Event.cod := fun _ _ _ _ _ h => h
theorem Event.size {w : World} {cs : List Value} {x : Event} (h : Event.cod w cs x) : cs.length = 5 := by rw [h.1]; rfl
theorem Event.at {w : World} {b off : Nat} {xs : List Event} (h : Row' Event.cod 5 w b off xs) (i : Nat) (hi : i < xs.length) :
  w.cell? ⟨b, off + i * 5, none⟩ = some (.int .i64 xs[i].t) ∧ w.cell? ⟨b, off + i * 5 + 1, none⟩ = some (.int .i64 xs[i].kind) ∧ w.cell? ⟨b, off + i * 5 + 2, none⟩ = some (.int .i64 xs[i].task) ∧ w.cell? ⟨b, off + i * 5 + 3, none⟩ = some (.int .i64 xs[i].a) ∧ w.cell? ⟨b, off + i * 5 + 4, none⟩ = some (.int .i64 xs[i].b) ∧ xs[i].ok := by
 obtain ⟨cs, hx, _, hc⟩ := h i xs[i] (List.getElem?_eq_getElem hi)
 obtain ⟨rfl, hk⟩ := hx
 exact ⟨hc 0 _ rfl, hc 1 _ rfl, hc 2 _ rfl, hc 3 _ rfl, hc 4 _ rfl, hk⟩
theorem Event.run_eqIn (x y : Event) (w : World) : (Op.equalIn 10000 68 (.agg #[.int .i64 x.t, .int .i64 x.kind, .int .i64 x.task, .int .i64 x.a, .int .i64 x.b]) (.agg #[.int .i64 y.t, .int .i64 y.kind, .int .i64 y.task, .int .i64 y.a, .int .i64 y.b])).run Tryz.prog w = .ok (decide (x = y)) w := by
 have hs : Tryz.prog.stoodInHeld 68 = false := by kernel_rfl
 rw [run_equalIn_agg w 9999 68 _ _ (by simp only [Program.fieldsOf, Tryz.underlying68]) hs]
 simp only [Program.fieldsOf, Tryz.underlying68]
 simp [go_sem]
 by_cases h : x = y
 ·subst h; simp
 ·rw [show decide (x = y) = false from by simp [h]]
  repeat' split
  all_goals first | rfl | exact absurd (Event.ext_ ⟨by assumption, by assumption, by assumption, by assumption, by assumption⟩) h
theorem Event.run_guard (op : BinOp) (xo yo : Operand) (xs ys : Array Value) (w : World) : (eqGuard op 68 xo yo (.agg xs) (.agg ys)).run Tryz.prog w = .ok () w := run_eqGuard_agg w op 68 xo yo xs ys (by kernel_rfl)
end Go.Proofs.YtfjoaeghnfkdlaaGreatDoor
namespace Go.Proofs.YtfjoaeghnfkdlaaGreatDoor
open Go.RowKit
def vA (x : Event) : List AV := [.int .i64 x.t, .int .i64 x.kind, .int .i64 x.task, .int .i64 x.a, .int .i64 x.b]
/-! The agenda, its heap not told. -/
def agΦ (S : List Due) : List (List AV) -> Prop := fun xs => ∃ l : List Due, xs = l.map jD ∧ HpA l ∧ l.Perm S
abbrev agC (S : List Due) : Chunk := .sem (exC 60 2 (agΦ S))
abbrev agS (room : Int) (S : List Due) : j8 := [(5, agC S), (0, .blk 129 [.int .i64 room, .own 5])]
def wg (room : Int) (S : List Due) (d : Due) : List Due := if xS room S.length d = 0 then S ++ [d] else S
theorem Yr (room : Int) (S : List Due) (d : Due) (hl : S.length <= 10000) : FnH Tryz.prog 39 [.ptr 0 0, .agg (jD d)] (agS room S) (fun r h' => r = .int .i64 (xS room S.length d) ∧ h' = agS room (wg room S d)) := by
 refine FnH.exOpen 5 (j5 (by kernel_rfl)) (fun xs hx => ?_) rfl
 obtain ⟨l, rfl, h1, h2⟩ := hx
 have hll := h2.length_eq
 refine FnH.exPack 5 (e := 60) (sz := 2) (FnH.mono (FnH.leIn (j12 room l d (by omega) h1) leh) ?_)
 rintro r h' ⟨rfl, ys, h3, h4, rfl⟩
 rw [hll] at h4 ⊢
 refine ⟨ys.map jD, agΦ (wg room S d), rfl, ⟨ys, rfl, h3, h4.trans ?_⟩, agS room (wg room S d), leh, rfl, rfl⟩
 rw [wg]
 split
 ·exact h2.append_right _
 ·exact h2
theorem j1G (t room : Int) (S : List Due) (hl : S.length <= 10000) : FnH Tryz.prog 46 [.ptr 0 0, .int .i64 t] (agS room S) (fun r h' => r = .lst 2 ((wY t (jO S)).map jD) ∧ h' = agS room (vC t (jO S))) := by
 refine FnH.exOpen 5 (j5 (by kernel_rfl)) (fun xs hx => ?_) rfl
 obtain ⟨l, rfl, h1, h2⟩ := hx
 have hll := h2.length_eq
 refine FnH.exPack 5 (e := 60) (sz := 2) (FnH.mono (FnH.leIn (Zc t room l h1 (by omega)) leh) ?_)
 rintro r h' ⟨rfl, ys, h3, h4, rfl⟩
 rw [z1 h2] at h4 ⊢
 exact ⟨ys.map jD, agΦ (vC t (jO S)), rfl, ⟨ys, rfl, h3, h4⟩, agS room (vC t (jO S)), leh, rfl, rfl⟩
/-! The kernel. -/
structure Kn where
 B : Bk
 S : List Due
 last : List (Int × Int)
 now : Int
 opn : Bool
abbrev knX (l : List Task) (room : Int) (B : Bk) (S : List Due) (last : List (Int × Int)) (now : Int) (opn : Bool) : j8 :=
 [(0, .blk 87 [.lst 7 (l.map jJ), .lst 1 ((l.map Task.prio).map eI), .ptr 1 0, .ptr 4 0, .own 8, .int .i64 now, .bool opn]),
  (1, .blk 127 [.lst 7 (l.map jJ), .own 5, .own 2, .own 3, .int .u64 B.act, .own 6]), (5, .row 71 8 (B.all.map vX)), (2, mI B.now), (3, mI B.cnt), (6, .row 60 2 (B.overs.map jD)),
  (4, .blk 129 [.int .i64 room, .own 7]), (7, agC S), (8, mI last)]
abbrev knH (l : List Task) (room : Int) (K : Kn) : j8 := knX l room K.B K.S K.last K.now K.opn
abbrev evZ (i : Nat) : Nat × Chunk := (i, .blk 68 [.int .i64 0, .int .i64 0, .int .i64 0, .int .i64 0, .int .i64 0])
theorem wj (l : List Task) (room : Int) (K : Kn) (kind i a b : Int) : FnH Tryz.prog 45 [.ptr 0 0, .int .i64 kind, .int .i64 i, .int .i64 a, .int .i64 b] (knH l room K) (fun r h' => r = .agg (vA ⟨K.now, kind, i, a, b⟩) ∧ h' = knH l room K) := by
 refine FnH.drop' (qo Tryz.func45 (j5 (by kernel_rfl)) rfl rfl ?_)
 repeat' (first | refine sA ?_ | (show O _ _ _ _ _ _ _; first | refine jR (id := 10) rfl rfl rfl rfl rfl rfl rfl ?_) | refine sY ?_ | refine sG ?_ | refine sQ ?_ ?_ | intro hc | exact trivial)
 exact jK rfl ⟨knH l room K, leh, rfl, rfl⟩
def ρL (i : Nat) : Nat := if i = 0 then 1 else i
def ρK (i : Nat) : Nat := i
def ρA (i : Nat) : Nat := if i = 0 then 4 else if i = 5 then 7 else i + 10
def nwR (k : Nat) (ids : List Nat) (i : Nat) : List Nat := if i = k then ids else []
def yq (l : List Task) (K : Kn) (i : Int) : Event := if x6 l K.B i then ⟨K.now, 1, i, noB K.B i, 0⟩ else ⟨K.now, 3, i, 0, 0⟩
def zY (l : List Task) (K : Kn) (i : Int) : Kn := { K with B := jv l K.B i K.now }
def j5C (l : List Task) (room : Int) (K : Kn) (B : Bk) (f : Bool) : j8 := evZ 10 :: knX l room B K.S K.last K.now K.opn
set_option maxHeartbeats 4000000 in
theorem j3m (l : List Task) (room : Int) (K : Kn) (n : Nat) (h : GoodB l n K.B) (hn : n <= 100000) (i : Int) : FnH Tryz.prog 47 [.ptr 0 0, .int .i64 i] (knH l room K) (fun r h' => r = .agg (vA (yq l K i)) ∧ h' = knH l room (zY l K i)) := by
 refine FnH.drop' (qo Tryz.func47 (j5 (by kernel_rfl)) rfl rfl ?_)
 have c := j4Z l K.B n h hn i K.now
 cases hok : x6 l K.B i
 case true =>
  rw [hok] at c
  rw [yq, hok, if_pos rfl]
  rw [if_pos rfl] at c
  repeat' (first | refine sB ?_ | (show O _ _ _ _ _ _ _; first | refine jR (id := 10) rfl rfl rfl rfl rfl rfl rfl ?_) | refine sY ?_ | refine sG ?_ | refine sQ ?_ ?_ | intro hc | exact trivial)
  refine wle (s' := [(0, .ptr 0 0), (1, .int .i64 i), (4, .ptr 10 0)]) (h' := j5C l room K K.B false) les (show LeH _ (evZ 10 :: knH l room K) from leh) ?_
  refine xl (j5C l room K) (fun _ => True) (fun _ => True) [9] [] 0 99 (nwR 9 [5, 6]) K.B (LeH.refl _) (by kernel_rfl) (by kernel_rfl) (by kernel_rfl) trivial trivial rfl rfl rfl rfl ?_
  refine xt (v := .ptr 0 0) rfl rfl (by kernel_rfl) (fun y hy => zf ya) ?_
  repeat' (first | refine sA ?_ | refine sY ?_ | (show QW _ _ _ _ _ _ _ _ _ _ _ _ _ _ _; first | refine qr ?_ | (apply qt; (· exact rfl); (· exact rfl); (· exact rfl); (· intro y' f' hy'; first | exact ya); (· first | exact rfl | kernel_rfl))) | refine sG ?_ | refine sQ ?_ ?_ | intro hc | exact trivial)
  refine xP (x' := jv l K.B i K.now) rfl rfl rfl trivial trivial (fun f hf => xD ρL c rfl (show LeH (evZ 10 :: knH l room K) _ from leh) rfl rfl rfl rfl rfl rfl rfl rfl (show LeH _ (evZ 10 :: knH l room (zY l K i)) from leh)) (by kernel_rfl) ?_
  repeat' (first | refine sA ?_ | refine sY ?_ | (show QW _ _ _ _ _ _ _ _ _ _ _ _ _ _ _; first | refine qr ?_ | (apply qt; (· exact rfl); (· exact rfl); (· exact rfl); (· intro y' f' hy'; first | exact ya); (· first | exact rfl | kernel_rfl))) | refine sG ?_ | refine sQ ?_ ?_ | intro hc | exact trivial)
  refine ole (h' := evZ 10 :: knH l room (zY l K i)) (LeS.refl _) (LeH.refl _) ?_
  refine jL (fun i => ρK i) (wj l room (zY l K i) 1 i (noB K.B i) 0) rfl rfl leh rfl rfl rfl rfl rfl rfl (fun r h' hR => ?_)
  obtain ⟨rfl, rfl⟩ := hR
  refine ⟨rfl, rfl, ?_⟩
  repeat' (first | refine sT ?_ | refine sQ ?_ ?_ | intro hc | exact trivial)
  exact jK rfl ⟨knH l room (zY l K i), leh, rfl, rfl⟩
 case false =>
  rw [hok] at c
  rw [yq, hok, if_neg (by decide)]
  rw [if_neg (by decide)] at c
  repeat' (first | refine sB ?_ | (show O _ _ _ _ _ _ _; first | refine jR (id := 10) rfl rfl rfl rfl rfl rfl rfl ?_) | refine sY ?_ | refine sG ?_ | refine sQ ?_ ?_ | intro hc | exact trivial)
  refine wle (s' := [(0, .ptr 0 0), (1, .int .i64 i), (4, .ptr 10 0)]) (h' := j5C l room K K.B false) les (show LeH _ (evZ 10 :: knH l room K) from leh) ?_
  refine xl (j5C l room K) (fun _ => True) (fun _ => True) [9] [] 0 99 (nwR 9 [5, 6]) K.B (LeH.refl _) (by kernel_rfl) (by kernel_rfl) (by kernel_rfl) trivial trivial rfl rfl rfl rfl ?_
  refine xt (v := .ptr 0 0) rfl rfl (by kernel_rfl) (fun y hy => zf ya) ?_
  repeat' (first | refine sA ?_ | refine sY ?_ | (show QW _ _ _ _ _ _ _ _ _ _ _ _ _ _ _; first | refine qr ?_ | (apply qt; (· exact rfl); (· exact rfl); (· exact rfl); (· intro y' f' hy'; first | exact ya); (· first | exact rfl | kernel_rfl))) | refine sG ?_ | refine sQ ?_ ?_ | intro hc | exact trivial)
  refine xP (x' := jv l K.B i K.now) rfl rfl rfl trivial trivial (fun f hf => xD ρL c rfl (show LeH (evZ 10 :: knH l room K) _ from leh) rfl rfl rfl rfl rfl rfl rfl rfl (show LeH _ (evZ 10 :: knH l room (zY l K i)) from leh)) (by kernel_rfl) ?_
  repeat' (first | refine sA ?_ | refine sY ?_ | (show QW _ _ _ _ _ _ _ _ _ _ _ _ _ _ _; first | refine qr ?_ | (apply qt; (· exact rfl); (· exact rfl); (· exact rfl); (· intro y' f' hy'; first | exact ya); (· first | exact rfl | kernel_rfl))) | refine sG ?_ | refine sQ ?_ ?_ | intro hc | exact trivial)
  refine ole (h' := evZ 10 :: knH l room (zY l K i)) (LeS.refl _) (LeH.refl _) ?_
  refine jL (fun i => ρK i) (wj l room (zY l K i) 3 i 0 0) rfl rfl leh rfl rfl rfl rfl rfl rfl (fun r h' hR => ?_)
  obtain ⟨rfl, rfl⟩ := hR
  refine ⟨rfl, rfl, ?_⟩
  repeat' (first | refine sT ?_ | refine sQ ?_ ?_ | intro hc | exact trivial)
  exact jK rfl ⟨knH l room (zY l K i), leh, rfl, rfl⟩
def wS (l : List Task) (K : Kn) (i : Int) : Bool := decide (0 <= i ∧ i < l.length) && decide ((l.getD i.toNat default).kind = 2) && match jw K.last i with
 | none => true
 | some v => !decide (K.now - v < (l.getD i.toNat default).period)
def vd (l : List Task) (K : Kn) (i : Int) : Kn := { K with last := if wS l K i then jq K.last i K.now else K.last }
set_option maxHeartbeats 4000000 in
theorem j1d (l : List Task) (room : Int) (K : Kn) (hl : l.length <= 1000000) (hn : 0 <= K.now ∧ K.now <= 2000000) (i : Int) (hL : ∀ v, jw K.last i = some v -> 0 <= v ∧ v <= K.now) : FnH Tryz.prog 48 [.ptr 0 0, .int .i64 i] (knH l room K) (fun r h' => r = .bool (wS l K i) ∧ h' = knH l room (vd l K i)) := by
 refine FnH.drop' (qo Tryz.func48 (j5 (by kernel_rfl)) rfl rfl ?_)
 have e0 : wS l K i = false -> knH l room (vd l K i) = knH l room K := fun e => by rw [vd, e]; rfl
 by_cases h0 : 0 <= i ∧ i < l.length
 case neg =>
  have e : wS l K i = false := by rw [wS, decide_eq_false h0]; rfl
  rw [e0 e, e]
  repeat' (first | refine sT ?_ | refine sQ ?_ ?_ | intro hc | exact trivial)
  all_goals first | (exfalso; omega) | exact jK rfl ⟨knH l room K, leh, rfl, rfl⟩
 by_cases hk : (l.getD i.toNat default).kind = 2
 case neg =>
  have e : wS l K i = false := by rw [wS, decide_eq_false hk, Bool.and_false]; rfl
  rw [e0 e, e]
  repeat' (first | refine sA ?_ | ((first | apply kM | apply kN); (iterate 3 (· exact rfl)); (· first | (show Y _ ⟨_, .indexAddr _ _ _, _, _, _, _⟩ _ _ _; first | exact jP (i.toNat) rfl rfl rfl rfl rfl rfl (by omega) (by omega)))) | refine sY ?_ | refine sG ?_ | refine sQ ?_ ?_ | intro hc | exact trivial)
  all_goals first | (exfalso; omega) | exact jK rfl ⟨knH l room K, leh, rfl, rfl⟩
 cases hg : jw K.last i with
 | none =>
  have e : wS l K i = true := by rw [wS, decide_eq_true h0, decide_eq_true hk, hg]; rfl
  rw [vd, e, if_pos rfl]
  repeat' (first | refine sB ?_ | ((first | apply kM | apply kN); (iterate 3 (· exact rfl)); (· first | (show Y _ ⟨_, .indexAddr _ _ _, _, _, _, _⟩ _ _ _; first | exact jP (i.toNat) rfl rfl rfl rfl rfl rfl (by omega) (by omega)))) | refine sY ?_ | ((first | apply kM | apply kN); (iterate 3 (· exact rfl)); (· first | exact Y.mk (wZ (cm := true) (.int .i64 0) false rfl rfl rfl rfl rfl Yt (.inl ⟨hg, rfl, rfl⟩)))) | refine sG ?_ | refine sQ ?_ ?_ | intro hc | exact trivial)
  all_goals first | (exfalso; omega) | skip
  refine kI (by kernel_rfl) (by kernel_rfl) ?_
  repeat' (first | refine sB ?_ | ((first | apply kM | apply kN); (iterate 3 (· exact rfl)); (· first | (show Y _ ⟨_, .indexAddr _ _ _, _, _, _, _⟩ _ _ _; first | exact jP (i.toNat) rfl rfl rfl rfl rfl rfl (by omega) (by omega)))) | refine sY ?_ | refine sG ?_ | refine sQ ?_ ?_ | intro hc | exact trivial)
  all_goals first | (exfalso; omega) | skip
  refine zt (H := fun y : List (Int × Int) => knX l room K.B K.S y K.now K.opn) (ok := fun _ => True) (tn := [9]) (ln := []) K.last leh (by kernel_rfl) (by kernel_rfl) (by kernel_rfl) trivial ?_
  repeat' (first | refine sA ?_ | refine sY ?_ | (show C _ _ _ _ _ _ _ _ _ _ _; first | refine JZ ?_ | (apply xj; (· exact rfl); (· exact rfl); (· intro y' hy'; first | exact ya)) | (apply JI; (· exact rfl); (· exact rfl); (· exact rfl); (· first | exact ya)) | refine wP rfl rfl rfl ?_) | refine sG ?_ | ((first | refine kQ rfl rfl ?_ ?_ | refine kR rfl rfl rfl rfl rfl ?_ ?_ | refine kS rfl rfl rfl ?_ ?_ | refine xh rfl rfl rfl ?_ ?_) <;> intro hc <;> (try simp only [KL, sL, reduceCtorEq] at hc) <;> (try (have hT : True := hc; clear hT hc)) <;> (try (exfalso; omega))))
  refine Yl (x' := jq K.last i K.now) rfl rfl trivial (TuO.post (xV (QZ K.now rfl rfl rfl rfl rfl rfl rfl) rfl) leh) ?_
  repeat' (first | refine sA ?_ | refine sY ?_ | (show C _ _ _ _ _ _ _ _ _ _ _; first | refine JZ ?_ | (apply xj; (· exact rfl); (· exact rfl); (· intro y' hy'; first | exact ya)) | (apply JI; (· exact rfl); (· exact rfl); (· exact rfl); (· first | exact ya)) | refine wP rfl rfl rfl ?_) | refine sG ?_ | ((first | refine kQ rfl rfl ?_ ?_ | refine kR rfl rfl rfl rfl rfl ?_ ?_ | refine kS rfl rfl rfl ?_ ?_ | refine xh rfl rfl rfl ?_ ?_) <;> intro hc <;> (try simp only [KL, sL, reduceCtorEq] at hc) <;> (try (have hT : True := hc; clear hT hc)) <;> (try (exfalso; omega))))
  exact jK rfl ⟨knX l room K.B K.S (jq K.last i K.now) K.now K.opn, leh, rfl, rfl⟩
 | some v =>
  have hv := hL v hg
  by_cases hp : K.now - v < (l.getD i.toNat default).period
  case pos =>
   have e : wS l K i = false := by rw [wS, decide_eq_true h0, decide_eq_true hk, hg]; simp only [decide_eq_true hp]; rfl
   rw [e0 e, e]
   repeat' (first | refine sA ?_ | ((first | apply kM | apply kN); (iterate 3 (· exact rfl)); (· first | (show Y _ ⟨_, .indexAddr _ _ _, _, _, _, _⟩ _ _ _; first | exact jP (i.toNat) rfl rfl rfl rfl rfl rfl (by omega) (by omega)))) | refine sY ?_ | ((first | apply kM | apply kN); (iterate 3 (· exact rfl)); (· first | exact Y.mk (wZ (cm := true) (.int .i64 v) true rfl rfl rfl rfl rfl Yt (.inr ⟨v, hg, rfl, rfl⟩)))) | refine sG ?_ | refine sQ ?_ ?_ | intro hc | exact trivial)
   all_goals first | (exfalso; omega) | exact jK rfl ⟨knH l room K, leh, rfl, rfl⟩ | skip
  have e : wS l K i = true := by rw [wS, decide_eq_true h0, decide_eq_true hk, hg]; simp only [decide_eq_false hp]; rfl
  rw [vd, e, if_pos rfl]
  repeat' (first | refine sB ?_ | ((first | apply kM | apply kN); (iterate 3 (· exact rfl)); (· first | (show Y _ ⟨_, .indexAddr _ _ _, _, _, _, _⟩ _ _ _; first | exact jP (i.toNat) rfl rfl rfl rfl rfl rfl (by omega) (by omega)))) | refine sY ?_ | ((first | apply kM | apply kN); (iterate 3 (· exact rfl)); (· first | exact Y.mk (wZ (cm := true) (.int .i64 v) true rfl rfl rfl rfl rfl Yt (.inr ⟨v, hg, rfl, rfl⟩)))) | refine sG ?_ | refine sQ ?_ ?_ | intro hc | exact trivial)
  all_goals first | (exfalso; omega) | skip
  refine kI (by kernel_rfl) (by kernel_rfl) ?_
  repeat' (first | refine sB ?_ | ((first | apply kM | apply kN); (iterate 3 (· exact rfl)); (· first | (show Y _ ⟨_, .indexAddr _ _ _, _, _, _, _⟩ _ _ _; first | exact jP (i.toNat) rfl rfl rfl rfl rfl rfl (by omega) (by omega)))) | refine sY ?_ | refine sG ?_ | refine sQ ?_ ?_ | intro hc | exact trivial)
  all_goals first | (exfalso; omega) | skip
  refine zt (H := fun y : List (Int × Int) => knX l room K.B K.S y K.now K.opn) (ok := fun _ => True) (tn := [9]) (ln := []) K.last leh (by kernel_rfl) (by kernel_rfl) (by kernel_rfl) trivial ?_
  repeat' (first | refine sA ?_ | refine sY ?_ | (show C _ _ _ _ _ _ _ _ _ _ _; first | refine JZ ?_ | (apply xj; (· exact rfl); (· exact rfl); (· intro y' hy'; first | exact ya)) | (apply JI; (· exact rfl); (· exact rfl); (· exact rfl); (· first | exact ya)) | refine wP rfl rfl rfl ?_) | refine sG ?_ | ((first | refine kQ rfl rfl ?_ ?_ | refine kR rfl rfl rfl rfl rfl ?_ ?_ | refine kS rfl rfl rfl ?_ ?_ | refine xh rfl rfl rfl ?_ ?_) <;> intro hc <;> (try simp only [KL, sL, reduceCtorEq] at hc) <;> (try (have hT : True := hc; clear hT hc)) <;> (try (exfalso; omega))))
  refine Yl (x' := jq K.last i K.now) rfl rfl trivial (TuO.post (xV (QZ K.now rfl rfl rfl rfl rfl rfl rfl) rfl) leh) ?_
  repeat' (first | refine sA ?_ | refine sY ?_ | (show C _ _ _ _ _ _ _ _ _ _ _; first | refine JZ ?_ | (apply xj; (· exact rfl); (· exact rfl); (· intro y' hy'; first | exact ya)) | (apply JI; (· exact rfl); (· exact rfl); (· exact rfl); (· first | exact ya)) | refine wP rfl rfl rfl ?_) | refine sG ?_ | ((first | refine kQ rfl rfl ?_ ?_ | refine kR rfl rfl rfl rfl rfl ?_ ?_ | refine kS rfl rfl rfl ?_ ?_ | refine xh rfl rfl rfl ?_ ?_) <;> intro hc <;> (try simp only [KL, sL, reduceCtorEq] at hc) <;> (try (have hT : True := hc; clear hT hc)) <;> (try (exfalso; omega))))
  exact jK rfl ⟨knX l room K.B K.S (jq K.last i K.now) K.now K.opn, leh, rfl, rfl⟩
abbrev jo : Nat × Chunk := (9, .sem (qT tabK))
def ze (l : List Task) : List Int := l.map Task.prio
def qE (l : List Task) (B : Bk) : Int := V2 (ze l) (jV B.act) (jV B.act).length
def pkH (l : List Task) (room : Int) (B : Bk) (S : List Due) (last : List (Int × Int)) (now : Int) (y : Unit) (f : Bool) : j8 := jo :: knX l room B S last now true
set_option maxHeartbeats 4000000 in
theorem Yx (l : List Task) (room : Int) (K : Kn) (hl : l.length <= 1000000) (ha : K.B.act < 2 ^ 64) : FnH Tryz.prog 10 [.ptr 0 0] (jo :: knH l room K)
  (fun r h' => r = .tup [.int .i64 (if K.opn then max (qE l K.B) 0 else 0), .bool (K.opn && decide (0 <= qE l K.B))] ∧ h' = jo :: knH l room K) := by
 obtain ⟨B, S, last, now, opn⟩ := K
 simp only at ha
 refine FnH.drop' (qo Tryz.func10 (j5 (by kernel_rfl)) rfl rfl ?_)
 have c1 := VF l B
 have c2 := j40 (ze l) B.act ha (by rw [ze, List.length_map]; exact hl)
 rw [j4n] at c2
 cases opn
 case false =>
  repeat' (first | refine sU ?_ | refine sQ ?_ ?_ | intro hc | exact trivial)
  all_goals exact jK rfl ⟨jo :: knX l room B S last now false, leh, rfl, rfl⟩
 repeat' (first | refine sU ?_ | refine sQ ?_ ?_ | intro hc | exact trivial)
 refine wle (s' := [(0, .ptr 0 0)]) (h' := pkH l room B S last now () false) les (show LeH _ (jo :: knX l room B S last now true) from leh) ?_
 refine xl (pkH l room B S last now) (fun _ => True) (fun _ => True) [8] [] 0 99 (nwR 8 [5, 6]) () (LeH.refl _) (by kernel_rfl) (by kernel_rfl) (by kernel_rfl) trivial trivial rfl rfl rfl rfl ?_
 refine xt (v := .ptr 0 0) rfl rfl (by kernel_rfl) (fun y hy => zf ya) ?_
 repeat' (first | refine sA ?_ | refine sY ?_ | (show QW _ _ _ _ _ _ _ _ _ _ _ _ _ _ _; first | refine qr ?_ | (apply qt; (· exact rfl); (· exact rfl); (· exact rfl); (· intro y' f' hy'; first | exact ya); (· first | exact rfl | kernel_rfl))) | refine sG ?_ | refine sQ ?_ ?_ | intro hc | exact trivial)
 refine xP (x' := ()) rfl rfl rfl trivial trivial (fun f hf => xD ρL c1 rfl (show LeH (jo :: knX l room B S last now true) _ from leh) rfl rfl rfl rfl rfl rfl rfl rfl (show LeH _ (jo :: knX l room B S last now true) from leh)) (by kernel_rfl) ?_
 repeat' (first | refine sA ?_ | refine sY ?_ | ((first | apply kM | apply kN); (iterate 3 (· exact rfl)); (· first | exact Y.mk (xU (id := 9) c2 rfl rfl))) | (show QW _ _ _ _ _ _ _ _ _ _ _ _ _ _ _; first | refine qr ?_ | (apply qt; (· exact rfl); (· exact rfl); (· exact rfl); (· intro y' f' hy'; first | exact ya | exact Y.mk (xU (id := 9) c2 rfl rfl)); (· first | exact rfl | kernel_rfl))) | refine sG ?_ | refine sQ ?_ ?_ | intro hc | exact trivial)
 exact jK rfl ⟨jo :: knX l room B S last now true, leh, by rw [if_pos rfl, Bool.true_and]; rfl, rfl⟩
def Vm (now i at_ : Int) (ended : Bool) (j j2 : Job) : List Event := ⟨now, 5, i, j.no, at_⟩ :: if ended then [⟨now, 7, i, j2.no, j2.fin - j2.release⟩] else []
def x9 (B : Bk) (now i : Int) (ended : Bool) : Bk := if ended then vk (jc B i now) i now else jc B i now
abbrev jbO (i : Nat) (j : Job) : Nat × Chunk := (i, .blk 71 (vX j))
def stH (l : List Task) (room : Int) (S : List Due) (last : List (Int × Int)) (now : Int) (opn : Bool) (j : Job) (y : Bk) (f : Bool) : j8 := jbO 12 j :: knX l room y S last now opn
def j6X (l : List Task) (room : Int) (S : List Due) (last : List (Int × Int)) (now : Int) (opn : Bool) (e : Event) (y : Bk × Job) (f : Bool) : j8 := jbO 12 y.2 :: (14, .row 68 5 ([e].map vA)) :: knX l room y.1 S last now opn
theorem j3r {B : Bk} {i t : Int} : jm (jc B i t).act i = jm B.act i := by
 unfold jc; split
 ·rfl
 ·rfl
set_option maxHeartbeats 8000000 in
theorem j4s (l : List Task) (room : Int) (K : Kn) (n : Nat) (h : GoodB l n K.B) (hn : n <= 99999) (i at_ : Int) (ended : Bool) (hh : jm K.B.act i = true) (hnow : 0 <= K.now ∧ K.now <= 2000000) (hrel : 0 <= (jH (jc K.B i K.now) i).release ∧ (jH (jc K.B i K.now) i).release <= 2000000) :
  FnH Tryz.prog 49 [.ptr 0 0, .int .i64 i, .int .i64 at_, .bool ended] (knH l room K)
  (fun r h' => r = .lst 5 ((Vm K.now i at_ ended (jH K.B i) (vQ K.now (jH (jc K.B i K.now) i))).map vA) ∧ h' = knH l room { K with B := x9 K.B K.now i ended }) := by
 obtain ⟨B, S, last, now, opn⟩ := K
 simp only at h hh hnow hrel ⊢
 refine FnH.drop' (qo Tryz.func49 (j5 (by kernel_rfl)) rfl rfl ?_)
 have c1 := XY l B n h i
 have c2 := j3o l B n h (by omega) i now
 have c3 := j53 l (jc B i now) (n + 1) (h.step i now) (by omega) i now
 rw [j3r] at c3
 rw [hh, if_pos rfl] at c1 c3
 rw [hh] at c2
 have hB2 : x9 B now i false = jc B i now := rfl
 have hB3 : x9 B now i true = vk (jc B i now) i now := rfl
 obtain ⟨j2, hj2⟩ : ∃ j2, j2 = vQ now (jH (jc B i now) i) := ⟨_, rfl⟩
 have hr2 : j2.release = (jH (jc B i now) i).release := by rw [hj2]; rfl
 have hf2 : j2.fin = inT now + 1 := by rw [hj2]; rfl
 have hin := zk now
 rw [<- hr2] at hrel
 rw [<- hj2] at c3 ⊢
 generalize jH B i = j at c1 ⊢
 generalize jc B i now = B2 at c2 c3 hB2 hB3
 generalize vk B2 i now = B3 at c3 hB3
 repeat' (first | refine sT ?_ | refine sQ ?_ ?_ | intro hc | exact trivial)
 refine jL (fun i => ρL i) (c1) rfl rfl leh rfl rfl rfl rfl rfl rfl (fun r h' hR => ?_)
 obtain ⟨rfl, rfl⟩ := hR
 refine ⟨rfl, rfl, ?_⟩
 repeat' (first | refine sB ?_ | (show O _ _ _ _ _ _ _; first | refine jR (id := 12) rfl rfl rfl rfl rfl rfl rfl ?_) | refine sY ?_ | refine sG ?_ | refine sQ ?_ ?_ | intro hc | exact trivial)
 refine wle (s' := [(0, .ptr 0 0), (1, .int .i64 i), (2, .int .i64 at_), (3, .bool ended), (9, .ptr 12 0)]) (h' := stH l room S last now opn j B false) les (show LeH _ (jbO 12 j :: knX l room B S last now opn) from leh) ?_
 refine xl (stH l room S last now opn j) (fun _ => True) (fun _ => True) [9] [] 0 99 (nwR 9 [5, 6]) B (LeH.refl _) (by kernel_rfl) (by kernel_rfl) (by kernel_rfl) trivial trivial rfl rfl rfl rfl ?_
 refine xt (v := .ptr 0 0) rfl rfl (by kernel_rfl) (fun y hy => zf ya) ?_
 repeat' (first | refine sA ?_ | refine sY ?_ | (show QW _ _ _ _ _ _ _ _ _ _ _ _ _ _ _; first | refine qr ?_ | (apply qt; (· exact rfl); (· exact rfl); (· exact rfl); (· intro y' f' hy'; first | exact ya); (· first | exact rfl | kernel_rfl))) | refine sG ?_ | refine sQ ?_ ?_ | intro hc | exact trivial)
 refine xP (x' := B2) rfl rfl rfl trivial trivial (fun f hf => xD ρL c2 rfl (show LeH (jbO 12 j :: knX l room B S last now opn) _ from leh) rfl rfl rfl rfl rfl rfl rfl rfl (show LeH _ (jbO 12 j :: knX l room B2 S last now opn) from leh)) (by kernel_rfl) ?_
 repeat' (first | refine sA ?_ | refine sY ?_ | (show QW _ _ _ _ _ _ _ _ _ _ _ _ _ _ _; first | refine qr ?_ | (apply qt; (· exact rfl); (· exact rfl); (· exact rfl); (· intro y' f' hy'; first | exact ya); (· first | exact rfl | kernel_rfl))) | refine sG ?_ | refine sQ ?_ ?_ | intro hc | exact trivial)
 refine ole (h' := jbO 12 j :: knX l room B2 S last now opn) (LeS.refl _) (LeH.refl _) ?_
 refine jL (fun i => ρK i) (wj l room ⟨B2, S, last, now, opn⟩ 5 i j.no at_) rfl rfl leh rfl rfl rfl rfl rfl rfl (fun r h' hR => ?_)
 obtain ⟨rfl, rfl⟩ := hR
 refine ⟨rfl, rfl, ?_⟩
 refine VM (f := vA) (l := [(⟨now, 5, i, j.no, at_⟩ : Event)]) (id := 14) (sz := 5) rfl rfl rfl rfl rfl rfl rfl rfl rfl rfl rfl rfl rfl rfl ?_
 cases ended
 case false =>
  repeat' (first | refine sU ?_ | refine sQ ?_ ?_ | intro hc | exact trivial)
  refine ww (fun _ => jf (t := 8) rfl rfl rfl) ?_
  exact jK rfl ⟨knX l room B2 S last now opn, leh, rfl, by rw [hB2]⟩
 repeat' (first | refine sU ?_ | refine sQ ?_ ?_ | intro hc | exact trivial)
 refine wle (s' := [(0, .ptr 0 0), (1, .int .i64 i), (9, .ptr 12 0), (11, .own 14)]) (h' := j6X l room S last now opn ⟨now, 5, i, j.no, at_⟩ (B2, j) false) les (show LeH _ (jbO 12 j :: (14, .row 68 5 ([(⟨now, 5, i, j.no, at_⟩ : Event)].map vA)) :: knX l room B2 S last now opn) from leh) ?_
 refine xl (j6X l room S last now opn ⟨now, 5, i, j.no, at_⟩) (fun _ => True) (fun _ => True) [9, 13] [] 0 99 (nwR 9 [5, 6]) (B2, j) (LeH.refl _) (by kernel_rfl) (by kernel_rfl) (by kernel_rfl) trivial trivial rfl rfl rfl rfl ?_
 refine xt (v := .ptr 0 0) rfl rfl (by kernel_rfl) (fun y hy => zf ya) ?_
 repeat' (first | refine sA ?_ | refine sY ?_ | (show QW _ _ _ _ _ _ _ _ _ _ _ _ _ _ _; first | refine qr ?_ | (apply qt; (· exact rfl); (· exact rfl); (· exact rfl); (· intro y' f' hy'; first | exact ya); (· first | exact rfl | kernel_rfl))) | refine sG ?_ | refine sQ ?_ ?_ | intro hc | exact trivial)
 refine xP (x' := (B3, j)) rfl rfl rfl trivial trivial (fun f hf => xD ρL c3 rfl (show LeH (jbO 12 j :: (14, .row 68 5 ([(⟨now, 5, i, j.no, at_⟩ : Event)].map vA)) :: knX l room B2 S last now opn) _ from leh) rfl rfl rfl rfl rfl rfl rfl rfl (show LeH _ (jbO 12 j :: (14, .row 68 5 ([(⟨now, 5, i, j.no, at_⟩ : Event)].map vA)) :: knX l room B3 S last now opn) from leh)) (by kernel_rfl) ?_
 repeat' (first | refine sA ?_ | refine sY ?_ | (show QW _ _ _ _ _ _ _ _ _ _ _ _ _ _ _; first | refine qr ?_ | (apply qt; (· exact rfl); (· exact rfl); (· exact rfl); (· intro y' f' hy'; first | exact ya); (· first | exact rfl | kernel_rfl))) | refine sG ?_ | refine sQ ?_ ?_ | intro hc | exact trivial)
 refine xP (x' := (B3, j2)) rfl rfl rfl trivial trivial (fun f hf => ((xV (VP rfl rfl rfl rfl rfl rfl (Nat.le_of_ble_eq_true rfl)) rfl).post (show LeH _ (jbO 12 j2 :: (14, .row 68 5 ([(⟨now, 5, i, j.no, at_⟩ : Event)].map vA)) :: knX l room B3 S last now opn) from leh)).toL) (by kernel_rfl) ?_
 repeat' (first | refine sA ?_ | refine sY ?_ | (show QW _ _ _ _ _ _ _ _ _ _ _ _ _ _ _; first | refine qr ?_ | (apply qt; (· exact rfl); (· exact rfl); (· exact rfl); (· intro y' f' hy'; first | exact ya); (· first | exact rfl | kernel_rfl))) | refine sG ?_ | refine sQ ?_ ?_ | intro hc | exact trivial)
 refine ole (h' := jbO 12 j2 :: (14, .row 68 5 ([(⟨now, 5, i, j.no, at_⟩ : Event)].map vA)) :: knX l room B3 S last now opn) (LeS.refl _) (LeH.refl _) ?_
 refine jL (fun i => ρK i) (wj l room ⟨B3, S, last, now, opn⟩ 7 i j2.no (j2.fin - j2.release)) rfl rfl leh rfl rfl rfl rfl rfl rfl (fun r h' hR => ?_)
 obtain ⟨rfl, rfl⟩ := hR
 refine ⟨rfl, rfl, ?_⟩
 repeat' (first | refine sT ?_ | refine sQ ?_ ?_ | intro hc | exact trivial)
 (refine v7 (id := 14) (ys := [(⟨now, 7, i, j2.no, j2.fin - j2.release⟩ : Event)]) (by_ := 40) rfl rfl rfl rfl rfl rfl rfl rfl rfl rfl (fun _ _ => rfl) ?_ ?_ rfl rfl rfl rfl rfl ?_; (· (first | omega | ((try simp only [List.length_cons, List.length_nil, List.length_append, List.length_map]) <;> omega))); (· (first | omega | ((try simp only [List.length_cons, List.length_nil, List.length_append, List.length_map]) <;> omega))))
 repeat' (first | refine sT ?_ | refine sQ ?_ ?_ | intro hc | exact trivial)
 refine ww (fun _ => jf (t := 8) rfl rfl rfl) ?_
 exact jK rfl ⟨knX l room B3 S last now opn, leh, rfl, by rw [hB3]⟩
end Go.Proofs.YtfjoaeghnfkdlaaGreatDoor
