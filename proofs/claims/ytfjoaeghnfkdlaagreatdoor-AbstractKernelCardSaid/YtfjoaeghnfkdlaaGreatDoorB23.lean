/- Releases of a run: the parts that are called. No condition. -/
import Derived.Test.YtfjoaeghnfkdlaaGreatDoorB22
import Derived.Test.YtfjoaeghnfkdlaaGreatDoorB15
import Derived.Test.YtfjoaeghnfkdlaaGreatDoorB9
import Derived.Test.YtfjoaeghnfkdlaaGreatDoorB11
import Derived.Test.YtfjoaeghnfkdlaaGreatDoorB12
import Derived.Test.YtfjoaeghnfkdlaaGreatDoorB16
set_option linter.unusedSimpArgs false
set_option linter.unusedVariables false
set_option maxHeartbeats 1000000
set_option maxRecDepth 100000
namespace Go.Proofs.YtfjoaeghnfkdlaaGreatDoor
open Go.RowKit
def orI (a b : Int) : Int := if a ≠ 0 then a else b
def Yz (x y : Due) : Int := orI (zW x.at_ y.at_) (zW x.task y.task)
theorem Jd {x y : Due} : Yz x y < 0 ↔ x.at_ < y.at_ ∨ x.at_ = y.at_ ∧ x.task < y.task := by
 have h1 := @y5 x.at_ y.at_
 have h2 := @y5 x.task y.task
 have h3 := @j5d x.at_ y.at_
 unfold Yz orI
 split <;> omega
theorem j6Y : SWO (jQ Yz) :=
 ⟨fun x => by simp only [jQ, decide_eq_false_iff_not, Jd]; omega, fun x y z h1 h2 => by simp only [jQ, decide_eq_true_eq, Jd] at *; omega, fun x y z h1 h2 => by simp only [jQ, decide_eq_false_iff_not, Jd] at *; omega⟩
theorem Yd {l r : List Due} (h : StS (jQ Yz) l r) : r = jO l := by
 refine xf h.1.perm (h.2.imp fun {a b} h1 => ?_)
 simp only [jQ, decide_eq_false_iff_not, Jd] at h1
 unfold leD
 omega
theorem j5P (a b : Int) : Fn Tryz.prog 89 [.lst 1 ([a, b].map eI)] (.int .i64 (orI a b)) := by
 obtain ⟨l, hl⟩ : ∃ l, l = [a, b] := ⟨_, rfl⟩
 have h0 : l.length = 2 := by rw [hl]; rfl
 have h1 : l.getD 0 default = a := by rw [hl]; rfl
 have h2 : l.getD 1 default = b := by rw [hl]; rfl
 rw [<- hl]
 refine fnb Tryz.func89 (j5 (by kernel_rfl)) rfl rfl rfl ?_
 repeat' (first | refine sT ?_ | refine sQ ?_ ?_ | intro hc | exact trivial)
 refine jk (fun k : Nat => ([(0, .lst 1 (l.map eI)), (3, .int .i64 0), (6, .lst 1 (l.map eI)), (7, .int .i64 l.length), (8, .int .i64 k)], [])) (fun k => k <= 2 ∧ ∀ j, j < k -> l.getD j default = 0) (fun k => 2 - k) 0 ⟨by omega, fun j hj => by omega⟩ les leh (fun k hk => ?_)
 obtain ⟨h3, h4⟩ := hk
 repeat' (first | refine sT ?_ | refine sQ ?_ ?_ | intro hc | exact trivial)
 ·refine jK rfl (congrArg (AV.int .i64) ?_)
  rcases (show k = 0 ∨ k = 1 by omega) with rfl | rfl
  ·unfold orI; rw [h1] at hc ⊢; rw [if_pos hc]
  ·have := h4 0 (by omega); unfold orI; rw [h2]; rw [if_neg (by omega)]
 ·exact ⟨k + 1, ⟨by omega, fun j hj => by
   by_cases e : j = k
   ·subst e; exact hc
   ·exact h4 j (by omega)⟩, by omega, les, leh⟩
 ·have h5 := h4 0 (by omega)
  have h6 := h4 1 (by omega)
  refine jK rfl (congrArg (AV.int .i64) ?_)
  unfold orI; rw [if_neg (by omega)]; omega
theorem Z9 (l : List Due) (hn : l.length <= 1000000) : FnH Tryz.prog 85 [.lst 2 (l.map jD)] [(5, .row 60 2 (([] : List Due).map jD))] (fun r h' => r = .own 5 ∧ h' = [(5, .row 60 2 (l.map jD))]) := by
 refine qo Tryz.func85 (j5 (by kernel_rfl)) rfl rfl ?_
 refine wle (s' := [(0, .lst 2 (l.map jD))]) (h' := []) les (LeH.nil _) ?_
 repeat' (first | refine sT ?_ | refine sQ ?_ ?_ | intro hc | exact trivial)
 refine j0H rfl rfl rfl rfl rfl rfl rfl (fun b hb => ?_)
 cases b
 ·repeat' (first | refine sA ?_ | ((first | apply kM | apply kN); (iterate 3 (· exact rfl)); (· first | exact yag)) | refine sG ?_ | refine sQ ?_ ?_ | intro hc | exact trivial)
  refine VM (f := jD) (l := []) (id := 5) (sz := 2) rfl rfl rfl rfl rfl rfl rfl rfl rfl rfl rfl rfl rfl rfl ?_
  repeat' (first | refine sT ?_ | refine sQ ?_ ?_ | intro hc | exact trivial)
  (refine v7 (id := 5) (ys := l) (by_ := 16) rfl rfl rfl rfl rfl rfl rfl rfl rfl rfl (fun _ _ => rfl) ?_ ?_ rfl rfl rfl rfl rfl ?_; (· (first | omega | ((try simp only [List.length_cons, List.length_nil, List.length_append, List.length_map]) <;> omega))); (· (first | omega | ((try simp only [List.length_cons, List.length_nil, List.length_append, List.length_map]) <;> omega))))
  repeat' (first | refine sT ?_ | refine sQ ?_ ?_ | intro hc | exact trivial)
  exact JU rfl leh ⟨rfl, rfl⟩
 ·have h0 : l = [] := by simpa using hb rfl
  subst h0
  repeat' (first | refine sT ?_ | refine sQ ?_ ?_ | intro hc | exact trivial)
  refine ww (fun n => vN jD (t := 2) rfl 5 60 2 (by omega) rfl) ?_
  exact JU rfl leh ⟨rfl, rfl⟩
theorem j4I (x y : Due) : Fn Tryz.prog 95 ([.agg (jD x), .agg (jD y)] ++ []) (.int .i64 (Yz x y)) := by
 refine fnb Tryz.func95 (j5 (by kernel_rfl)) rfl rfl rfl ?_
 have c1 := VE x.at_ y.at_
 have c2 := VE x.task y.task
 have c3 := j5P (zW x.at_ y.at_) (zW x.task y.task)
 repeat' (first | refine sT ?_ | refine sC (c1) ?_ | refine sC (c2) ?_ | refine sC (c3) ?_ | refine sQ ?_ ?_ | intro hc | exact trivial)
 exact jK rfl rfl
theorem XB (l : List Due) (hn : l.length <= 1000000) : Fn Tryz.prog 64 [.lst 2 (l.map jD)] (.lst 2 ((jO l).map jD)) := by
 refine fnb Tryz.func64 (j5 (by kernel_rfl)) rfl rfl rfl ?_
 repeat' (first | refine sT ?_ | refine sQ ?_ ?_ | intro hc | exact trivial)
 refine jh (jA jD 10 60 2 (by omega) rfl) ?_
 refine jL (fun i => i + 5) (Z9 l hn) rfl rfl leh rfl rfl rfl rfl rfl rfl (fun r h' hR => ?_)
 obtain ⟨rfl, rfl⟩ := hR
 refine ⟨rfl, rfl, ?_⟩
 repeat' (first | refine sT ?_ | refine sQ ?_ ?_ | intro hc | exact trivial)
 refine jL (fun i => i + 6) (YS 95 Yz (fun x => True) j6Y (fun x y hx hy => j4I x y) l (fun x hx => trivial) (by omega)) rfl rfl leh rfl rfl rfl rfl rfl rfl (fun r h' hR => ?_)
 obtain ⟨rfl, o, ho, rfl⟩ := hR
 refine ⟨rfl, rfl, ?_⟩
 have h1 := Yd ho
 subst h1
 repeat' (first | refine sT ?_ | refine sQ ?_ ?_ | intro hc | exact trivial)
 refine ww (fun _ => jf (t := 2) rfl rfl rfl) ?_
 exact jK rfl rfl
theorem Yn (a b : Due) : Fn Tryz.prog 102 [.agg (jD a), .agg (jD b)] (.bool (ltD a b)) := by
 refine fnb Tryz.func102 (j5 (by kernel_rfl)) rfl rfl rfl ?_
 repeat' (first | refine sT ?_ | refine sQ ?_ ?_ | intro hc | exact trivial)
 all_goals exact jK rfl (congrArg AV.bool (by rw [Bool.eq_iff_iff]; (try simp only [ltD, cond_true, cond_false, decide_eq_true_eq, Bool.not_eq_true', decide_eq_false_iff_not, Bool.and_eq_true, Bool.or_eq_true, true_iff, false_iff, iff_true, iff_false, Bool.false_eq_true, Bool.not_true, Bool.not_false, reduceCtorEq]); (first | done | omega | (constructor <;> intros <;> omega))))
theorem j3y (l : List Due) (d : Due) (hn : l.length <= 1000000) : Fn Tryz.prog 68 [.lst 2 (l.map jD), .agg (jD d)] (.lst 2 ((zb l d).map jD)) := by
 refine fnb Tryz.func68 (j5 (by kernel_rfl)) rfl rfl rfl ?_
 repeat' (first | refine sT ?_ | refine sQ ?_ ?_ | intro hc | exact trivial)
 refine jk (fun k : Nat => ([(0, .lst 2 (l.map jD)), (3, .ref (jD d)), (5, .int .i64 k)], [])) (fun k => k <= l.length ∧ ∀ j, j < k -> ltD d (l.getD j default) = false) (fun k => l.length - k) 0 ⟨by omega, fun j hj => by omega⟩ les leh (fun k hk => ?_)
 obtain ⟨h1, h2⟩ := hk
 have c1 := Yn d (l.getD k default)
 have fin : (k = l.length ∨ k < l.length ∧ ltD d (l.getD k default) = true) -> l.take k ++ [d] ++ (l.take l.length).drop k = zb l d := fun h => by rw [Zv l d k h2 h]; simp
 have e1 : (l.take k).length <= l.length := by rw [List.length_take]; omega
 have e2 : ((l.take l.length).drop k).length <= l.length := by rw [List.length_drop, List.take_length]; omega
 cases hb : ltD d (l.getD k default) <;> rw [hb] at c1
 ·repeat' (first | refine sA ?_ | ((first | apply kM | apply kN); (iterate 3 (· exact rfl)); (· first | exact yag)) | refine sC (c1) ?_ | refine sG ?_ | refine sQ ?_ ?_ | intro hc | exact trivial)
  ·exact ⟨k + 1, ⟨by omega, fun j hj => by
    by_cases e : j = k
    ·subst e; exact hb
    ·exact h2 j (by omega)⟩, by omega, les, leh⟩
  ·have fin := fin (.inl (by omega))
   refine VM (f := jD) (l := []) (id := 10) (sz := 2) rfl rfl rfl rfl rfl rfl rfl rfl rfl rfl rfl rfl rfl rfl ?_
   repeat' (first | refine sT ?_ | refine sQ ?_ ?_ | intro hc | exact trivial)
   (refine v7 (id := 10) (ys := l.take k) (by_ := 16) rfl rfl rfl rfl rfl rfl rfl rfl rfl rfl (fun _ _ => rfl) ?_ ?_ rfl rfl rfl rfl rfl ?_; (· (first | omega | ((try simp only [List.length_cons, List.length_nil, List.length_append, List.length_map]) <;> omega))); (· (first | omega | ((try simp only [List.length_cons, List.length_nil, List.length_append, List.length_map]) <;> omega))))
   repeat' (first | refine sT ?_ | refine sQ ?_ ?_ | intro hc | exact trivial)
   (refine v7 (id := 10) (ys := [d]) (by_ := 16) rfl rfl rfl rfl rfl rfl rfl rfl rfl rfl (fun _ _ => rfl) ?_ ?_ rfl rfl rfl rfl rfl ?_; (· (first | omega | ((try simp only [List.length_cons, List.length_nil, List.length_append, List.length_map]) <;> omega))); (· (first | omega | ((try simp only [List.length_cons, List.length_nil, List.length_append, List.length_map]) <;> omega))))
   repeat' (first | refine sT ?_ | refine sQ ?_ ?_ | intro hc | exact trivial)
   (refine v7 (id := 10) (ys := (l.take l.length).drop k) (by_ := 16) rfl rfl rfl rfl rfl rfl rfl rfl rfl rfl (fun _ _ => rfl) ?_ ?_ rfl rfl rfl rfl rfl ?_; (· (first | omega | ((try simp only [List.length_cons, List.length_nil, List.length_append, List.length_map]) <;> omega))); (· (first | omega | ((try simp only [List.length_cons, List.length_nil, List.length_append, List.length_map]) <;> omega))))
   repeat' (first | refine sT ?_ | refine sQ ?_ ?_ | intro hc | exact trivial)
   refine ww (fun _ => jf (t := 4) rfl rfl rfl) ?_
   exact jK rfl (by rw [<- fin, List.nil_append])
 ·repeat' (first | refine sA ?_ | ((first | apply kM | apply kN); (iterate 3 (· exact rfl)); (· first | exact yag)) | refine sC (c1) ?_ | refine sG ?_ | refine sQ ?_ ?_ | intro hc | exact trivial)
  all_goals have fin := fin (by rcases Nat.lt_or_ge k l.length with h | h; exact .inr ⟨h, hb⟩; exact .inl (by omega))
  all_goals refine VM (f := jD) (l := []) (id := 10) (sz := 2) rfl rfl rfl rfl rfl rfl rfl rfl rfl rfl rfl rfl rfl rfl ?_
  all_goals repeat' (first | refine sT ?_ | refine sQ ?_ ?_ | intro hc | exact trivial)
  all_goals (refine v7 (id := 10) (ys := l.take k) (by_ := 16) rfl rfl rfl rfl rfl rfl rfl rfl rfl rfl (fun _ _ => rfl) ?_ ?_ rfl rfl rfl rfl rfl ?_; (· (first | omega | ((try simp only [List.length_cons, List.length_nil, List.length_append, List.length_map]) <;> omega))); (· (first | omega | ((try simp only [List.length_cons, List.length_nil, List.length_append, List.length_map]) <;> omega))))
  all_goals repeat' (first | refine sT ?_ | refine sQ ?_ ?_ | intro hc | exact trivial)
  all_goals (refine v7 (id := 10) (ys := [d]) (by_ := 16) rfl rfl rfl rfl rfl rfl rfl rfl rfl rfl (fun _ _ => rfl) ?_ ?_ rfl rfl rfl rfl rfl ?_; (· (first | omega | ((try simp only [List.length_cons, List.length_nil, List.length_append, List.length_map]) <;> omega))); (· (first | omega | ((try simp only [List.length_cons, List.length_nil, List.length_append, List.length_map]) <;> omega))))
  all_goals repeat' (first | refine sT ?_ | refine sQ ?_ ?_ | intro hc | exact trivial)
  all_goals (refine v7 (id := 10) (ys := (l.take l.length).drop k) (by_ := 16) rfl rfl rfl rfl rfl rfl rfl rfl rfl rfl (fun _ _ => rfl) ?_ ?_ rfl rfl rfl rfl rfl ?_; (· (first | omega | ((try simp only [List.length_cons, List.length_nil, List.length_append, List.length_map]) <;> omega))); (· (first | omega | ((try simp only [List.length_cons, List.length_nil, List.length_append, List.length_map]) <;> omega))))
  all_goals repeat' (first | refine sT ?_ | refine sQ ?_ ?_ | intro hc | exact trivial)
  all_goals refine ww (fun _ => jf (t := 4) rfl rfl rfl) ?_
  all_goals exact jK rfl (by rw [<- fin, List.nil_append])
def eGt (g : Gt) : List AV := [.int .i64 g.per, .int .i64 g.last, .bool g.op]
def upG (g : Gt) (x : Int) : Gt := if JY g x then ⟨g.per, x, true⟩ else g
theorem j37 (gs : List Gt) (i : Nat) (x : Int) (hi : i < gs.length) (h0 : (gs.getD i default).op = true -> 0 <= (gs.getD i default).last) : FnH Tryz.prog 65 [.eptr 4 3 i 0, .int .i64 x] [(4, .row 115 3 (gs.map eGt))]
  (fun r h' => r = .bool (JY (gs.getD i default) x) ∧ h' = [(4, .row 115 3 ((gs.set i (upG (gs.getD i default) x)).map eGt))]) := by
 refine qo Tryz.func65 (j5 (by kernel_rfl)) rfl rfl ?_
 refine Qe 1 rfl (fun hr => ?_)
 simp only [jS] at hr
 obtain ⟨g, hg⟩ : ∃ g, g = gs.getD i default := ⟨_, rfl⟩
 have hset : gs.set i g = gs := by rw [hg]; simp [hi]
 have st1 : ∀ a : Gt, (gs.set i a).getD i default = a := fun a => by simp [hi]
 have st2 : ∀ a b : Gt, (gs.set i a).set i b = gs.set i b := fun a b => by simp
 rw [<- hg] at h0 ⊢
 obtain ⟨per, last, op⟩ := g
 simp only at h0
 cases op <;> cases hb : JY ⟨per, last, _⟩ x
 all_goals have hup := hb
 all_goals simp only [JY, Bool.not_false, Bool.not_true, Bool.true_or, Bool.false_or, Bool.and_true, Bool.and_eq_true, Bool.and_eq_false_iff, decide_eq_true_eq, decide_eq_false_iff_not] at hb
 ·repeat' (first | refine sA ?_ | ((first | apply kM | apply kN); (iterate 3 (· exact rfl)); (· first | (show Y _ ⟨_, .load _ _, _, _, _, _⟩ _ _ _; first | exact jn hg.symm))) | refine sY ?_ | refine sG ?_ | refine sQ ?_ ?_ | intro hc | exact trivial)
  all_goals first | (exfalso; omega) | skip
  all_goals rw [upG, if_neg (by rw [hup]; simp), hset]
  all_goals exact jK rfl ⟨rfl, rfl⟩
 ·rw [upG, if_pos hup]
  repeat' (first | refine sA ?_ | ((first | apply kM | apply kN); (iterate 3 (· exact rfl)); (· first | (show Y _ ⟨_, .load _ _, _, _, _, _⟩ _ _ _; first | exact jn hg.symm))) | refine sY ?_ | refine sG ?_ | refine sQ ?_ ?_ | intro hc | exact trivial)
  all_goals first | (exfalso; omega) | skip
  (refine yc (x' := (⟨(gs.getD i default).per, x, (gs.getD i default).op⟩ : Gt)) rfl rfl rfl rfl rfl rfl rfl rfl rfl ?_ rfl rfl rfl ?_; (· (first | omega | ((try simp only [List.length_set, List.length_cons, List.length_nil, List.length_append, List.length_map]) <;> omega))))
  repeat' (first | refine sT ?_ | refine sQ ?_ ?_ | intro hc | exact trivial)
  (refine yc (x' := (⟨((gs.set i ⟨(gs.getD i default).per, x, (gs.getD i default).op⟩).getD i default).per, ((gs.set i ⟨(gs.getD i default).per, x, (gs.getD i default).op⟩).getD i default).last, true⟩ : Gt)) rfl rfl rfl rfl rfl rfl rfl rfl rfl ?_ rfl rfl rfl ?_; (· (first | omega | ((try simp only [List.length_set, List.length_cons, List.length_nil, List.length_append, List.length_map]) <;> omega))))
  repeat' (first | refine sT ?_ | refine sQ ?_ ?_ | intro hc | exact trivial)
  refine JU (h' := [(4, .row 115 3 ((gs.set i ⟨per, x, true⟩).map eGt))]) rfl (by
   rw [st1, st2, <- hg]
   exact leh) ⟨rfl, rfl⟩
 ·have h0 := h0 rfl
  repeat' (first | refine sA ?_ | ((first | apply kM | apply kN); (iterate 3 (· exact rfl)); (· first | (show Y _ ⟨_, .load _ _, _, _, _, _⟩ _ _ _; first | exact jn hg.symm))) | refine sY ?_ | refine sG ?_ | refine sQ ?_ ?_ | intro hc | exact trivial)
  all_goals first | (exfalso; omega) | skip
  all_goals rw [upG, if_neg (by rw [hup]; simp), hset]
  all_goals exact jK rfl ⟨rfl, rfl⟩
 ·have h0 := h0 rfl
  rw [upG, if_pos hup]
  repeat' (first | refine sA ?_ | ((first | apply kM | apply kN); (iterate 3 (· exact rfl)); (· first | (show Y _ ⟨_, .load _ _, _, _, _, _⟩ _ _ _; first | exact jn hg.symm))) | refine sY ?_ | refine sG ?_ | refine sQ ?_ ?_ | intro hc | exact trivial)
  all_goals first | (exfalso; omega) | skip
  (refine yc (x' := (⟨(gs.getD i default).per, x, (gs.getD i default).op⟩ : Gt)) rfl rfl rfl rfl rfl rfl rfl rfl rfl ?_ rfl rfl rfl ?_; (· (first | omega | ((try simp only [List.length_set, List.length_cons, List.length_nil, List.length_append, List.length_map]) <;> omega))))
  repeat' (first | refine sT ?_ | refine sQ ?_ ?_ | intro hc | exact trivial)
  (refine yc (x' := (⟨((gs.set i ⟨(gs.getD i default).per, x, (gs.getD i default).op⟩).getD i default).per, ((gs.set i ⟨(gs.getD i default).per, x, (gs.getD i default).op⟩).getD i default).last, true⟩ : Gt)) rfl rfl rfl rfl rfl rfl rfl rfl rfl ?_ rfl rfl rfl ?_; (· (first | omega | ((try simp only [List.length_set, List.length_cons, List.length_nil, List.length_append, List.length_map]) <;> omega))))
  repeat' (first | refine sT ?_ | refine sQ ?_ ?_ | intro hc | exact trivial)
  refine JU (h' := [(4, .row 115 3 ((gs.set i ⟨per, x, true⟩).map eGt))]) rfl (by
   rw [st1, st2, <- hg]
   exact leh) ⟨rfl, rfl⟩
--BEGIN
def dG (l : List Due) (i : Nat) : Due := l.getD i default
def gtD (a b : Due) : Prop := b.at_ < a.at_ ∨ b.at_ = a.at_ ∧ b.task < a.task
theorem JE {a b : Due} : ltD a b = true ↔ gtD b a := by simp [ltD, gtD]
theorem Jc {a b : Due} : ltD a b = false ↔ ¬ gtD b a := by simp [ltD, gtD]
def HpA (l : List Due) : Prop := ∀ j, 0 < j -> j < l.length -> ¬ gtD (dG l ((j - 1) / 2)) (dG l j)
def HpU (l : List Due) (i : Nat) : Prop := (∀ j, 0 < j -> j < l.length -> j ≠ i -> ¬ gtD (dG l ((j - 1) / 2)) (dG l j)) ∧ ∀ j, 0 < j -> j < l.length -> (j - 1) / 2 = i -> 0 < i -> ¬ gtD (dG l ((i - 1) / 2)) (dG l j)
def HpD (l : List Due) (i : Nat) : Prop := (∀ j, 0 < j -> j < l.length -> (j - 1) / 2 ≠ i -> ¬ gtD (dG l ((j - 1) / 2)) (dG l j)) ∧ ∀ j, 0 < j -> j < l.length -> (j - 1) / 2 = i -> 0 < i -> ¬ gtD (dG l ((i - 1) / 2)) (dG l j)
def swD (l : List Due) (i p : Nat) : List Due := (l.set i (dG l p)).set p (dG l i)
theorem vB (l : List Due) (i p : Nat) : (swD l i p).length = l.length := by simp [swD]
theorem Xu (l : List Due) (i p : Nat) (hi : i < l.length) (hp : p < l.length) (j : Nat) (hj : j < l.length) : dG (swD l i p) j = if j = p then dG l i else if j = i then dG l p else dG l j := by
 unfold dG swD
 rw [List.getD_eq_getElem?_getD, List.getElem?_set]
 by_cases h1 : p = j
 ·subst h1
  rw [if_pos rfl, if_pos rfl, List.length_set, if_pos hp]; rfl
 ·rw [if_neg h1, if_neg (fun e => h1 e.symm), List.getElem?_set]
  by_cases h2 : i = j
  ·subst h2
   rw [if_pos rfl, if_pos rfl, if_pos hi]; rfl
  ·rw [if_neg h2, if_neg (fun e => h2 e.symm)]
   rw [<- List.getD_eq_getElem?_getD]
theorem QT {l : List Due} {p i : Nat} (hpi : p < i) (hi : i < l.length) : (swD l i p).Perm l := by
 obtain ⟨a, x, t, rfl, ha⟩ := V5 (l := l) (k := p) (by omega)
 simp only [List.length_append, List.length_cons] at hi
 obtain ⟨b, y, r, rfl, hb⟩ := V5 (l := t) (k := i - p - 1) (by omega)
 have e : a ++ x :: (b ++ y :: r) = a ++ x :: b ++ y :: r := by simp
 rw [e]
 have hj : i = a.length + 1 + b.length := by omega
 have e1 : dG (a ++ x :: b ++ y :: r) p = x := by
  rw [dG, <- e]; exact Zq rfl ha.symm
 have e2 : dG (a ++ x :: b ++ y :: r) i = y := by rw [dG, hj]; exact XX a b r x y
 rw [swD, e1, e2, hj, <- ha, j0F a b r x y]
 have h1 : (a ++ y :: b ++ x :: r) = a ++ (y :: (b ++ x :: r)) := by simp
 have h2 : (a ++ x :: b ++ y :: r) = a ++ (x :: (b ++ y :: r)) := by simp
 rw [h1, h2]
 refine List.Perm.append_left a ?_
 have h3 : (y :: (b ++ x :: r)).Perm (y :: x :: (b ++ r)) := (List.perm_middle).cons y
 have h4 : (x :: (b ++ y :: r)).Perm (x :: y :: (b ++ r)) := (List.perm_middle).cons x
 exact h3.trans ((List.Perm.swap x y _).trans h4.symm)
theorem j4T {l : List Due} {i : Nat} (h : HpU l i) (h0 : 0 < i) (hi : i < l.length) (hlt : gtD (dG l ((i - 1) / 2)) (dG l i)) : HpU (swD l i ((i - 1) / 2)) ((i - 1) / 2) := by
 obtain ⟨p, hp⟩ : ∃ p, p = (i - 1) / 2 := ⟨_, rfl⟩
 rw [<- hp] at hlt ⊢
 have hpl : p < l.length := by omega
 have hpi : p < i := by omega
 have at_ := Xu l i p hi hpl
 refine ⟨fun j j0 jl jne => ?_, fun j j0 jl jp p0 => ?_⟩
 ·rw [vB] at jl
  rw [at_ j jl, at_ ((j - 1) / 2) (by omega), if_neg jne]
  by_cases h1 : j = i
  ·subst h1
   rw [if_pos rfl, <- hp, if_pos rfl]
   unfold gtD at *; omega
  ·rw [if_neg h1]
   by_cases h2 : (j - 1) / 2 = p
   ·rw [if_pos h2]
    have h3 := h.1 j j0 jl h1
    rw [h2] at h3
    unfold gtD at *; omega
   ·rw [if_neg h2]
    by_cases h4 : (j - 1) / 2 = i
    ·rw [if_pos h4]
     have h3 := h.2 j j0 jl h4 h0
     rw [<- hp] at h3; exact h3
    ·rw [if_neg h4]; exact h.1 j j0 jl h1
 ·rw [vB] at jl
  rw [at_ j jl, at_ ((p - 1) / 2) (by omega), if_neg (by omega), if_neg (by omega), if_neg (by omega)]
  have h5 := h.1 p p0 hpl (by omega)
  by_cases h1 : j = i
  ·rw [if_pos h1]; exact h5
  ·rw [if_neg h1]
   have h3 := h.1 j j0 jl h1
   rw [jp] at h3
   unfold gtD at *; omega
theorem j5p {l : List Due} (h : HpU l 0) : HpA l := fun j j0 jl => h.1 j j0 jl (by omega)
theorem j5y {l : List Due} {i : Nat} (h : HpU l i) (hlt : ¬ gtD (dG l ((i - 1) / 2)) (dG l i)) : HpA l := fun j j0 jl => by
 by_cases h1 : j = i
 ·subst h1; exact hlt
 ·exact h.1 j j0 jl h1
theorem j5c {l : List Due} (h : HpA l) (d : Due) : HpU (l ++ [d]) l.length := by
 have e : ∀ j, j < l.length -> dG (l ++ [d]) j = dG l j := fun j hj => by rw [dG, dG, List.getD_eq_getElem?_getD, List.getElem?_append_left hj, <- List.getD_eq_getElem?_getD]
 refine ⟨fun j j0 jl jne => ?_, fun j j0 jl jp h0 => ?_⟩
 ·simp at jl
  rw [e j (by omega), e _ (by omega)]
  exact h j j0 (by omega)
 ·simp at jl; omega
theorem Jy {l : List Due} {i k : Nat} (h : HpD l i) (hk0 : 0 < k) (hk : k < l.length) (hki : (k - 1) / 2 = i) (hlt : gtD (dG l i) (dG l k)) (hsm : ∀ j, 0 < j -> j < l.length -> (j - 1) / 2 = i -> ¬ gtD (dG l k) (dG l j)) : HpD (swD l i k) k := by
 have hi : i < l.length := by omega
 have at_ := Xu l i k hi hk
 refine ⟨fun j j0 jl jne => ?_, fun j j0 jl jp k0 => ?_⟩
 ·rw [vB] at jl
  rw [at_ j jl, at_ ((j - 1) / 2) (by omega), if_neg (show ¬ (j - 1) / 2 = k from jne)]
  by_cases h1 : j = k
  ·subst h1
   rw [if_pos rfl, if_pos hki]
   unfold gtD at *; omega
  ·rw [if_neg h1]
   by_cases h2 : j = i
   ·subst h2
    rw [if_pos rfl, if_neg (by omega)]
    have := h.2 k hk0 hk hki j0
    exact this
   ·rw [if_neg h2]
    by_cases h3 : (j - 1) / 2 = i
    ·rw [if_pos h3]; exact hsm j j0 jl h3
    ·rw [if_neg h3]; exact h.1 j j0 jl h3
 ·rw [vB] at jl
  rw [at_ j jl, hki, at_ i hi, if_neg (show ¬ i = k by omega), if_pos rfl, if_neg (show ¬ j = k by omega), if_neg (show ¬ j = i by omega)]
  have := h.1 j j0 jl (by omega)
  rw [jp] at this; exact this
theorem J5 {l : List Due} {i : Nat} (h : HpD l i) (hlt : ∀ j, 0 < j -> j < l.length -> (j - 1) / 2 = i -> ¬ gtD (dG l i) (dG l j)) : HpA l := fun j j0 jl => by
 by_cases h1 : (j - 1) / 2 = i
 ·rw [h1]; exact hlt j j0 jl h1
 ·exact h.1 j j0 jl h1
theorem ZY {l : List Due} (h : HpA l) : ∀ j, j < l.length -> leD (dG l 0) (dG l j) := by
 intro j
 induction j using Nat.strongRecOn with
 | ind j ih =>
  intro hj
  by_cases h0 : j = 0
  ·subst h0; unfold leD; omega
  ·have h1 := ih ((j - 1) / 2) (by omega) (by omega)
   have h2 := h j (by omega) hj
   unfold leD gtD at *; omega
def QC (l : List Due) : List Due := (l.set 0 (dG l (l.length - 1))).take (l.length - 1)
theorem V1 (l : List Due) : (QC l).length = l.length - 1 := by simp [QC]
theorem XJ {l : List Due} (h : 0 < l.length) : l.Perm (dG l 0 :: QC l) := by
 cases l with
 | nil => simp at h
 | cons x r =>
  rcases List.eq_nil_or_concat r with rfl | ⟨s, y, rfl⟩
  ·simp [QC, dG]
  ·have e1 : dG (x :: (s ++ [y])) ((x :: (s ++ [y])).length - 1) = y := by simp [dG]
   have e2 : QC (x :: (s ++ [y])) = y :: s := by
    unfold QC
    rw [e1]
    simp
   rw [List.concat_eq_append] at *
   rw [e2]
   show (x :: (s ++ [y])).Perm (x :: y :: s)
   exact (List.perm_append_comm (l₁ := s) (l₂ := [y])).cons x
theorem j19 {l : List Due} (h : HpA l) : HpD (QC l) 0 := by
 have e : ∀ j, 0 < j -> j < (QC l).length -> dG (QC l) j = dG l j := fun j j0 jl => by
  rw [V1] at jl
  unfold dG QC
  rw [List.getD_eq_getElem?_getD, List.getElem?_take, if_pos jl, List.getElem?_set, if_neg (by omega), <- List.getD_eq_getElem?_getD]
 refine ⟨fun j j0 jl jp => ?_, fun j j0 jl jp h0 => by omega⟩
 rw [e j j0 jl, e _ (by omega) (by omega)]
 rw [V1] at jl
 exact h j j0 (by omega)
theorem FnH.drop {P : Program} {f : FuncId} {args : List AV} {hin : j8} {R : AV -> j8 -> Prop} (hf : FnH P f args hin (fun r h' => ∃ h2, LeH h' h2 ∧ R r h2)) : FnH P f args hin R :=
 ⟨hf.1, fun may pin σ ι w vs hr hv => (hf.2 may pin σ ι w vs hr hv).mono fun e w' ⟨u, r, h', σ', ι', h1, ⟨h2, hl, hR⟩, h3, h4⟩ => ⟨u, r, h2, σ', ι', h1, hR, h3, h4.le hl⟩⟩
abbrev agH (r : Nat) (room : Int) (xs : List Due) : j8 := [(r, .row 60 2 (xs.map jD)), (0, .blk 129 [.int .i64 room, .own r])]
theorem xe (a b : Due) : Fn Tryz.prog 103 [.agg (jD a), .agg (jD b)] (.bool (ltD a b)) := by
 refine fnb Tryz.func103 (j5 (by kernel_rfl)) rfl rfl rfl ?_
 repeat' (first | refine sT ?_ | refine sQ ?_ ?_ | intro hc | exact trivial)
 all_goals exact jK rfl (congrArg AV.bool (by rw [Bool.eq_iff_iff]; (try simp only [ltD, cond_true, cond_false, decide_eq_true_eq, Bool.not_eq_true', decide_eq_false_iff_not, Bool.and_eq_true, Bool.or_eq_true, true_iff, false_iff, iff_true, iff_false, Bool.false_eq_true, Bool.not_true, Bool.not_false, reduceCtorEq]); (first | done | omega | (constructor <;> intros <;> omega))))
theorem j21 (room : Int) (xs : List Due) : FnH Tryz.prog 129 [.ptr 0 0] (agH 4 room xs) (fun r h' => r = .int .i64 xs.length ∧ h' = agH 4 room xs) := by
 refine qo Tryz.func129 (j5 (by kernel_rfl)) rfl rfl ?_
 repeat' (first | refine sT ?_ | refine sQ ?_ ?_ | intro hc | exact trivial)
 exact jK rfl ⟨rfl, rfl⟩
theorem Vp (room : Int) (xs : List Due) : FnH Tryz.prog 111 [.ptr 0 0] (agH 4 room xs) (fun r h' => r = .tup [.agg (jD (dG xs 0)), .bool (decide (0 < xs.length))] ∧ h' = agH 4 room xs) := by
 refine (qo Tryz.func111 (j5 (by kernel_rfl)) rfl rfl ?_).drop
 repeat' (first | refine sA ?_ | (show O _ _ _ _ _ _ _; first | refine jR (id := 10) rfl rfl rfl rfl rfl rfl rfl ?_) | refine sY ?_ | refine sG ?_ | refine sQ ?_ ?_ | intro hc | exact trivial)
 refine jL (fun i => i) (j21 room xs) rfl rfl leh rfl rfl rfl rfl rfl rfl (fun r h' hR => ?_)
 obtain ⟨rfl, rfl⟩ := hR
 refine ⟨rfl, rfl, ?_⟩
 by_cases h0 : xs.length = 0
 ·have e : xs = [] := List.eq_nil_of_length_eq_zero h0
  subst e
  repeat' (first | refine sT ?_ | refine sQ ?_ ?_ | intro hc | exact trivial)
  all_goals exact jK rfl ⟨agH 4 room [], leh, rfl, rfl⟩
 ·repeat' (first | refine sA ?_ | ((first | apply kM | apply kN); (iterate 3 (· exact rfl)); (· first | (show Y _ ⟨_, .indexAddr _ _ _, _, _, _, _⟩ _ _ _; first | exact jP (0) rfl rfl rfl rfl rfl rfl (by omega) (by omega)))) | refine sY ?_ | refine sG ?_ | refine sQ ?_ ?_ | intro hc | exact trivial)
  all_goals first | (exfalso; omega) | skip
  all_goals exact jK rfl ⟨agH 4 room xs, leh, by rw [decide_eq_true (show 0 < xs.length by omega)]; rfl, rfl⟩
theorem j3w (room : Int) (xs : List Due) (i : Nat) (hi : i < xs.length) (hl : xs.length <= 100000) (hu : HpU xs i) : FnH Tryz.prog 73 [.ptr 0 0, .int .i64 i] (agH 4 room xs) (fun r h' => r = .tup [] ∧ ∃ ys, ys.Perm xs ∧ HpA ys ∧ h' = agH 4 room ys) := by
 refine qo Tryz.func73 (j5 (by kernel_rfl)) rfl rfl ?_
 repeat' (first | refine sT ?_ | refine sQ ?_ ?_ | intro hc | exact trivial)
 refine jk (fun z : Nat × List Due => ([(0, .ptr 0 0), (1, .int .i64 z.1)], agH 4 room z.2)) (fun z => z.1 < z.2.length ∧ z.2.Perm xs ∧ HpU z.2 z.1) (fun z => z.1) (i, xs) ⟨hi, List.Perm.refl _, hu⟩ les leh (fun z hz => ?_)
 obtain ⟨i, ys⟩ := z
 obtain ⟨h1, h2, h3⟩ := hz
 simp only at h1 h2 h3 ⊢
 have hyl := h2.length_eq
 rcases Nat.eq_zero_or_pos i with h0 | h0
 ·subst h0
  repeat' (first | refine sT ?_ | refine sQ ?_ ?_ | intro hc | exact trivial)
  all_goals first | (exfalso; omega) | skip
  exact vb rfl ⟨rfl, ys, h2, j5p h3, rfl⟩
 ·have c1 := xe (dG ys i) (dG ys ((i - 1) / 2))
  cases hb : ltD (dG ys i) (dG ys ((i - 1) / 2)) <;> rw [hb] at c1
  ·rw [Jc] at hb
   repeat' (first | refine sA ?_ | ((first | apply kM | apply kN); (iterate 3 (· exact rfl)); (· first | (show Y _ ⟨_, .indexAddr _ _ _, _, _, _, _⟩ _ _ _; first | exact jP (i) rfl rfl rfl rfl rfl rfl (by omega) (by omega) | exact jP ((i - 1) / 2) rfl rfl rfl rfl rfl rfl (by omega) (by omega)))) | refine sY ?_ | refine sC (c1) ?_ | refine sG ?_ | refine sQ ?_ ?_ | intro hc | exact trivial)
   all_goals first | (exfalso; omega) | skip
   exact vb rfl ⟨rfl, ys, h2, j5y h3 hb, rfl⟩
  ·rw [JE] at hb
   repeat' (first | refine ve rfl (by kernel_rfl) (by kernel_rfl) (by kernel_rfl) ?_ | refine sA ?_ | ((first | apply kM | apply kN); (iterate 3 (· exact rfl)); (· first | (show Y _ ⟨_, .indexAddr _ _ _, _, _, _, _⟩ _ _ _; first | exact jP (i) rfl rfl rfl rfl rfl rfl (by omega) (by omega) | exact jP ((i - 1) / 2) rfl rfl rfl rfl rfl rfl (by omega) (by omega)))) | refine sY ?_ | refine sC (c1) ?_ | (show F _ _ _ _ _ _ _ _ _ _ _; first | refine yj ?_ | (apply yn; (· exact rfl); (· exact rfl); (· first | exact yp)) | refine wI (x' := dG ys ((i - 1) / 2)) rfl rfl rfl rfl rfl rfl rfl rfl rfl (by (first | rfl | omega | (simp only [List.length_set]; omega) | simp only [List.length_set])) (by (first | rfl | omega | (simp only [List.length_set]; omega) | simp only [List.length_set])) ?_ | refine wI (x' := dG ys i) rfl rfl rfl rfl rfl rfl rfl rfl rfl (by (first | rfl | omega | (simp only [List.length_set]; omega) | simp only [List.length_set])) (by (first | rfl | omega | (simp only [List.length_set]; omega) | simp only [List.length_set])) ?_ | (apply f_k; (· exact rfl); (· intro y' hy'; first | (show Y _ ⟨_, .indexAddr _ _ _, _, _, _, _⟩ _ _ _; first | exact jP (i) rfl rfl rfl rfl rfl rfl (by omega) (by omega) | exact jP ((i - 1) / 2) rfl rfl rfl rfl rfl rfl (by omega) (by omega)) | exact ya | exact q_c (c1) rfl))) | refine sG ?_ | refine sQ ?_ ?_ | intro hc | exact trivial)
   all_goals first | (exfalso; omega) | skip
   have hs := j4T h3 h0 h1 hb
   have hp := QT (l := ys) (p := (i - 1) / 2) (i := i) (by omega) h1
   exact ⟨((i - 1) / 2, swD ys i ((i - 1) / 2)), ⟨by simp only [vB]; omega, hp.trans h2, hs⟩, by simp only; omega, les, leh⟩
theorem VH (l : List Due) (i p : Nat) (hi : i < l.length) (hp : p < l.length) (hne : i ≠ p) : swD l i p = swD l p i := by
 apply List.ext_getElem
 ·rw [vB, vB]
 ·intro j h1 h2
  rw [vB] at h1
  have e1 := Xu l i p hi hp j h1
  have e2 := Xu l p i hp hi j h1
  have g1 : dG (swD l i p) j = (swD l i p)[j]'(by rw [vB]; exact h1) := by rw [dG, List.getD_eq_getElem?_getD, List.getElem?_eq_getElem (by rw [vB]; exact h1)]; rfl
  have g2 : dG (swD l p i) j = (swD l p i)[j]'(by rw [vB]; exact h1) := by rw [dG, List.getD_eq_getElem?_getD, List.getElem?_eq_getElem (by rw [vB]; exact h1)]; rfl
  rw [<- g1, <- g2, e1, e2]
  by_cases h3 : j = p
  ·rw [if_pos h3, if_neg (by omega), if_pos h3]
  ·rw [if_neg h3, if_neg h3]
set_option maxHeartbeats 4000000 in
theorem j1U (room : Int) (xs : List Due) (hl : xs.length <= 100000) (i0 : Nat) (hu : HpD xs i0) (hi0 : i0 <= xs.length) : FnH Tryz.prog 130 [.ptr 0 0, .int .i64 i0] (agH 4 room xs) (fun r h' => r = .tup [] ∧ ∃ ys, ys.Perm xs ∧ HpA ys ∧ h' = agH 4 room ys) := by
 refine qo Tryz.func130 (j5 (by kernel_rfl)) rfl rfl ?_
 repeat' (first | refine sT ?_ | refine sQ ?_ ?_ | intro hc | exact trivial)
 refine jk (fun z : Nat × List Due => ([(0, .ptr 0 0), (1, .int .i64 z.1)], agH 4 room z.2)) (fun z => z.1 <= z.2.length ∧ z.2.Perm xs ∧ HpD z.2 z.1) (fun z => z.2.length - z.1) (i0, xs) ⟨hi0, List.Perm.refl _, hu⟩ les leh (fun z hz => ?_)
 obtain ⟨i, ys⟩ := z
 obtain ⟨h1, h2, h3⟩ := hz
 simp only at h1 h2 h3 ⊢
 have hyl := h2.length_eq
 by_cases hk : 2 * i + 1 < ys.length
 case neg =>
  repeat' (first | refine sT ?_ | refine sQ ?_ ?_ | intro hc | exact trivial)
  all_goals first | (exfalso; omega) | skip
  exact jK rfl ⟨rfl, ys, h2, J5 h3 (fun j j0 jl jp => by omega), rfl⟩
 have h1 : i < ys.length := by omega
 by_cases hk2 : 2 * i + 2 < ys.length
 case neg =>
  have hsm : ∀ j, 0 < j -> j < ys.length -> (j - 1) / 2 = i -> ¬ gtD (dG ys (2 * i + 1)) (dG ys j) := fun j j0 jl jp => by
   rw [show j = 2 * i + 1 by omega]; unfold gtD; omega
  have c2 := xe (dG ys (2 * i + 1)) (dG ys i)
  have hki : (2 * i + 1 - 1) / 2 = i := by omega
  cases hb2 : ltD (dG ys (2 * i + 1)) (dG ys i) <;> rw [hb2] at c2
  ·rw [Jc] at hb2
   repeat' (first | refine sA ?_ | ((first | apply kM | apply kN); (iterate 3 (· exact rfl)); (· first | (show Y _ ⟨_, .indexAddr _ _ _, _, _, _, _⟩ _ _ _; first | exact jP (2 * i + 1) rfl rfl rfl rfl rfl rfl (by omega) (by omega) | exact jP (2 * i + 2) rfl rfl rfl rfl rfl rfl (by omega) (by omega) | exact jP (i) rfl rfl rfl rfl rfl rfl (by omega) (by omega)))) | refine sY ?_ | refine sC (c2) ?_ | refine sG ?_ | refine sQ ?_ ?_ | intro hc | exact trivial)
   all_goals first | (exfalso; omega) | skip
   all_goals exact jK rfl ⟨rfl, ys, h2, J5 h3 (fun j j0 jl jp => by
    have := hsm j j0 jl jp
    unfold gtD at *; omega), rfl⟩
  ·rw [JE] at hb2
   repeat' (first | refine ve rfl (by kernel_rfl) (by kernel_rfl) (by kernel_rfl) ?_ | refine sA ?_ | ((first | apply kM | apply kN); (iterate 3 (· exact rfl)); (· first | (show Y _ ⟨_, .indexAddr _ _ _, _, _, _, _⟩ _ _ _; first | exact jP (2 * i + 1) rfl rfl rfl rfl rfl rfl (by omega) (by omega) | exact jP (2 * i + 2) rfl rfl rfl rfl rfl rfl (by omega) (by omega) | exact jP (i) rfl rfl rfl rfl rfl rfl (by omega) (by omega)))) | refine sY ?_ | refine sC (c2) ?_ | (show F _ _ _ _ _ _ _ _ _ _ _; first | refine yj ?_ | (apply yn; (· exact rfl); (· exact rfl); (· first | exact yp)) | refine wI (x' := dG ys (2 * i + 1)) rfl rfl rfl rfl rfl rfl rfl rfl rfl (by (first | rfl | omega | (simp only [List.length_set]; omega) | simp only [List.length_set])) (by (first | rfl | omega | (simp only [List.length_set]; omega) | simp only [List.length_set])) ?_ | refine wI (x' := dG ys i) rfl rfl rfl rfl rfl rfl rfl rfl rfl (by (first | rfl | omega | (simp only [List.length_set]; omega) | simp only [List.length_set])) (by (first | rfl | omega | (simp only [List.length_set]; omega) | simp only [List.length_set])) ?_ | (apply f_k; (· exact rfl); (· intro y' hy'; first | (show Y _ ⟨_, .indexAddr _ _ _, _, _, _, _⟩ _ _ _; first | exact jP (2 * i + 1) rfl rfl rfl rfl rfl rfl (by omega) (by omega) | exact jP (2 * i + 2) rfl rfl rfl rfl rfl rfl (by omega) (by omega) | exact jP (i) rfl rfl rfl rfl rfl rfl (by omega) (by omega)) | exact ya | exact q_c (c2) rfl))) | refine sG ?_ | refine sQ ?_ ?_ | intro hc | exact trivial)
   all_goals first | (exfalso; omega) | skip
   have hs := Jy h3 (show 0 < 2 * i + 1 by omega) hk hki hb2 hsm
   have hp := QT (l := ys) (p := i) (i := 2 * i + 1) (by omega) hk
   rw [VH ys _ _ hk h1 (by omega)] at hp
   exact ⟨(2 * i + 1, swD ys i (2 * i + 1)), ⟨by simp only [vB]; omega, hp.trans h2, hs⟩, by simp only [vB]; omega, les, leh⟩
 have c1 := xe (dG ys (2 * i + 2)) (dG ys (2 * i + 1))
 cases hb : ltD (dG ys (2 * i + 2)) (dG ys (2 * i + 1)) <;> rw [hb] at c1
 ·rw [Jc] at hb
  have hsm : ∀ j, 0 < j -> j < ys.length -> (j - 1) / 2 = i -> ¬ gtD (dG ys (2 * i + 1)) (dG ys j) := fun j j0 jl jp => by
   rcases (show j = 2 * i + 1 ∨ j = 2 * i + 2 by omega) with e | e <;> rw [e]
   ·unfold gtD; omega
   ·exact hb
  have c2 := xe (dG ys (2 * i + 1)) (dG ys i)
  have hki : (2 * i + 1 - 1) / 2 = i := by omega
  cases hb2 : ltD (dG ys (2 * i + 1)) (dG ys i) <;> rw [hb2] at c2
  ·rw [Jc] at hb2
   repeat' (first | refine sA ?_ | ((first | apply kM | apply kN); (iterate 3 (· exact rfl)); (· first | (show Y _ ⟨_, .indexAddr _ _ _, _, _, _, _⟩ _ _ _; first | exact jP (2 * i + 1) rfl rfl rfl rfl rfl rfl (by omega) (by omega) | exact jP (2 * i + 2) rfl rfl rfl rfl rfl rfl (by omega) (by omega) | exact jP (i) rfl rfl rfl rfl rfl rfl (by omega) (by omega)))) | refine sY ?_ | refine sC (c1) ?_ | refine sC (c2) ?_ | refine sG ?_ | refine sQ ?_ ?_ | intro hc | exact trivial)
   all_goals first | (exfalso; omega) | skip
   all_goals exact jK rfl ⟨rfl, ys, h2, J5 h3 (fun j j0 jl jp => by
    have := hsm j j0 jl jp
    unfold gtD at *; omega), rfl⟩
  ·rw [JE] at hb2
   repeat' (first | refine ve rfl (by kernel_rfl) (by kernel_rfl) (by kernel_rfl) ?_ | refine sA ?_ | ((first | apply kM | apply kN); (iterate 3 (· exact rfl)); (· first | (show Y _ ⟨_, .indexAddr _ _ _, _, _, _, _⟩ _ _ _; first | exact jP (2 * i + 1) rfl rfl rfl rfl rfl rfl (by omega) (by omega) | exact jP (2 * i + 2) rfl rfl rfl rfl rfl rfl (by omega) (by omega) | exact jP (i) rfl rfl rfl rfl rfl rfl (by omega) (by omega)))) | refine sY ?_ | refine sC (c1) ?_ | refine sC (c2) ?_ | (show F _ _ _ _ _ _ _ _ _ _ _; first | refine yj ?_ | (apply yn; (· exact rfl); (· exact rfl); (· first | exact yp)) | refine wI (x' := dG ys (2 * i + 1)) rfl rfl rfl rfl rfl rfl rfl rfl rfl (by (first | rfl | omega | (simp only [List.length_set]; omega) | simp only [List.length_set])) (by (first | rfl | omega | (simp only [List.length_set]; omega) | simp only [List.length_set])) ?_ | refine wI (x' := dG ys i) rfl rfl rfl rfl rfl rfl rfl rfl rfl (by (first | rfl | omega | (simp only [List.length_set]; omega) | simp only [List.length_set])) (by (first | rfl | omega | (simp only [List.length_set]; omega) | simp only [List.length_set])) ?_ | (apply f_k; (· exact rfl); (· intro y' hy'; first | (show Y _ ⟨_, .indexAddr _ _ _, _, _, _, _⟩ _ _ _; first | exact jP (2 * i + 1) rfl rfl rfl rfl rfl rfl (by omega) (by omega) | exact jP (2 * i + 2) rfl rfl rfl rfl rfl rfl (by omega) (by omega) | exact jP (i) rfl rfl rfl rfl rfl rfl (by omega) (by omega)) | exact ya | exact q_c (c1) rfl | exact q_c (c2) rfl))) | refine sG ?_ | refine sQ ?_ ?_ | intro hc | exact trivial)
   all_goals first | (exfalso; omega) | skip
   have hs := Jy h3 (show 0 < 2 * i + 1 by omega) hk hki hb2 hsm
   have hp := QT (l := ys) (p := i) (i := 2 * i + 1) (by omega) hk
   rw [VH ys _ _ hk h1 (by omega)] at hp
   exact ⟨(2 * i + 1, swD ys i (2 * i + 1)), ⟨by simp only [vB]; omega, hp.trans h2, hs⟩, by simp only [vB]; omega, les, leh⟩
 ·rw [JE] at hb
  have hsm : ∀ j, 0 < j -> j < ys.length -> (j - 1) / 2 = i -> ¬ gtD (dG ys (2 * i + 2)) (dG ys j) := fun j j0 jl jp => by
   rcases (show j = 2 * i + 1 ∨ j = 2 * i + 2 by omega) with e | e <;> rw [e]
   ·unfold gtD at *; omega
   ·unfold gtD; omega
  have hk := hk2
  have c2 := xe (dG ys (2 * i + 2)) (dG ys i)
  have hki : (2 * i + 2 - 1) / 2 = i := by omega
  cases hb2 : ltD (dG ys (2 * i + 2)) (dG ys i) <;> rw [hb2] at c2
  ·rw [Jc] at hb2
   repeat' (first | refine sA ?_ | ((first | apply kM | apply kN); (iterate 3 (· exact rfl)); (· first | (show Y _ ⟨_, .indexAddr _ _ _, _, _, _, _⟩ _ _ _; first | exact jP (2 * i + 1) rfl rfl rfl rfl rfl rfl (by omega) (by omega) | exact jP (2 * i + 2) rfl rfl rfl rfl rfl rfl (by omega) (by omega) | exact jP (i) rfl rfl rfl rfl rfl rfl (by omega) (by omega)))) | refine sY ?_ | refine sC (c1) ?_ | refine sC (c2) ?_ | refine sG ?_ | refine sQ ?_ ?_ | intro hc | exact trivial)
   all_goals first | (exfalso; omega) | skip
   all_goals exact jK rfl ⟨rfl, ys, h2, J5 h3 (fun j j0 jl jp => by
    have := hsm j j0 jl jp
    unfold gtD at *; omega), rfl⟩
  ·rw [JE] at hb2
   repeat' (first | refine ve rfl (by kernel_rfl) (by kernel_rfl) (by kernel_rfl) ?_ | refine sA ?_ | ((first | apply kM | apply kN); (iterate 3 (· exact rfl)); (· first | (show Y _ ⟨_, .indexAddr _ _ _, _, _, _, _⟩ _ _ _; first | exact jP (2 * i + 1) rfl rfl rfl rfl rfl rfl (by omega) (by omega) | exact jP (2 * i + 2) rfl rfl rfl rfl rfl rfl (by omega) (by omega) | exact jP (i) rfl rfl rfl rfl rfl rfl (by omega) (by omega)))) | refine sY ?_ | refine sC (c1) ?_ | refine sC (c2) ?_ | (show F _ _ _ _ _ _ _ _ _ _ _; first | refine yj ?_ | (apply yn; (· exact rfl); (· exact rfl); (· first | exact yp)) | refine wI (x' := dG ys (2 * i + 2)) rfl rfl rfl rfl rfl rfl rfl rfl rfl (by (first | rfl | omega | (simp only [List.length_set]; omega) | simp only [List.length_set])) (by (first | rfl | omega | (simp only [List.length_set]; omega) | simp only [List.length_set])) ?_ | refine wI (x' := dG ys i) rfl rfl rfl rfl rfl rfl rfl rfl rfl (by (first | rfl | omega | (simp only [List.length_set]; omega) | simp only [List.length_set])) (by (first | rfl | omega | (simp only [List.length_set]; omega) | simp only [List.length_set])) ?_ | (apply f_k; (· exact rfl); (· intro y' hy'; first | (show Y _ ⟨_, .indexAddr _ _ _, _, _, _, _⟩ _ _ _; first | exact jP (2 * i + 1) rfl rfl rfl rfl rfl rfl (by omega) (by omega) | exact jP (2 * i + 2) rfl rfl rfl rfl rfl rfl (by omega) (by omega) | exact jP (i) rfl rfl rfl rfl rfl rfl (by omega) (by omega)) | exact ya | exact q_c (c1) rfl | exact q_c (c2) rfl))) | refine sG ?_ | refine sQ ?_ ?_ | intro hc | exact trivial)
   all_goals first | (exfalso; omega) | skip
   have hs := Jy h3 (show 0 < 2 * i + 2 by omega) hk hki hb2 hsm
   have hp := QT (l := ys) (p := i) (i := 2 * i + 2) (by omega) hk
   rw [VH ys _ _ hk h1 (by omega)] at hp
   exact ⟨(2 * i + 2, swD ys i (2 * i + 2)), ⟨by simp only [vB]; omega, hp.trans h2, hs⟩, by simp only [vB]; omega, les, leh⟩
def ρ45 (i : Nat) : Nat := [0, 1, 2, 3, 5].getD i i
def xS (room : Int) (n : Nat) (d : Due) : Int := if d.at_ < 0 ∨ d.task < 0 then 5 else if room <= n then 6 else 0
theorem j12 (room : Int) (xs : List Due) (d : Due) (hl : xs.length <= 10000) (hh : HpA xs) : FnH Tryz.prog 39 [.ptr 0 0, .agg (jD d)] (agH 5 room xs) (fun r h' => r = .int .i64 (xS room xs.length d) ∧ ∃ ys, HpA ys ∧ ys.Perm (if xS room xs.length d = 0 then xs ++ [d] else xs) ∧ h' = agH 5 room ys) := by
 refine (qo Tryz.func39 (j5 (by kernel_rfl)) rfl rfl ?_).drop
 by_cases h1 : d.at_ < 0 ∨ d.task < 0
 ·have e : xS room xs.length d = 5 := by rw [xS, if_pos h1]
  rw [e, if_neg (by omega)]
  repeat' (first | refine sT ?_ | refine sQ ?_ ?_ | intro hc | exact trivial)
  all_goals first | (exfalso; omega) | skip
  all_goals exact jK rfl ⟨agH 5 room xs, leh, rfl, xs, hh, List.Perm.refl _, rfl⟩
 by_cases h2 : room <= xs.length
 ·have e : xS room xs.length d = 6 := by rw [xS, if_neg h1, if_pos h2]
  rw [e, if_neg (by omega)]
  repeat' (first | refine sT ?_ | refine sQ ?_ ?_ | intro hc | exact trivial)
  all_goals first | (exfalso; omega) | skip
  all_goals exact jK rfl ⟨agH 5 room xs, leh, rfl, xs, hh, List.Perm.refl _, rfl⟩
 have e : xS room xs.length d = 0 := by rw [xS, if_neg h1, if_neg h2]
 rw [e, if_pos rfl]
 repeat' (first | refine sU ?_ | refine sQ ?_ ?_ | intro hc | exact trivial)
 all_goals first | (exfalso; omega) | skip
 refine j5K (by kernel_rfl) (by kernel_rfl) ?_
 repeat' (first | refine sU ?_ | refine sQ ?_ ?_ | intro hc | exact trivial)
 all_goals first | (exfalso; omega) | skip
 refine ZK (H := fun y : j8 => y) (ok := fun _ => True) (tn := [7, 10]) (ln := [4]) (c := 7) (R := 5) (agH 5 room xs) leh (by kernel_rfl) (by kernel_rfl) (by kernel_rfl) trivial ?_
 repeat' (first | refine sA ?_ | refine sY ?_ | (show KW _ _ _ _ _ _ _ _ _ _ _ _ _; first | refine Xk rfl ?_ | (apply J3; (· exact rfl); (· exact rfl); (· exact rfl); (· intro y' hy'; first | exact ya); (· first | exact rfl | kernel_rfl)) | (apply Xs; (· exact rfl); (· exact rfl); (· exact rfl); (· exact rfl); (· first | exact ya); (· first | exact rfl | kernel_rfl))) | refine sG ?_ | refine sQ ?_ ?_ | intro hc | exact trivial)
 refine j5t (x' := [(5, .row 60 2 ((xs ++ [d]).map jD)), (0, .blk 129 [.int .i64 room, .undef])]) rfl rfl rfl trivial
  (TuK.post (TuK.pre (Qu (h2 := [(5, .row 60 2 (xs.map jD)), (0, .blk 129 [.int .i64 room, .undef])]) [false, true] (id := 0) rfl leh)
    (Jx (ys := [d]) (by_ := 16) rfl rfl rfl rfl rfl rfl rfl rfl rfl rfl (fun _ _ => rfl) (by simp only [List.length_cons, List.length_nil]; omega) (by simp only [List.length_cons, List.length_nil]; omega) rfl rfl)) leh) ?_
 repeat' (first | refine sA ?_ | refine sY ?_ | (show KW _ _ _ _ _ _ _ _ _ _ _ _ _; first | refine Xk rfl ?_ | (apply J3; (· exact rfl); (· exact rfl); (· exact rfl); (· intro y' hy'; first | exact ya); (· first | exact rfl | kernel_rfl)) | (apply Xs; (· exact rfl); (· exact rfl); (· exact rfl); (· exact rfl); (· first | exact ya); (· first | exact rfl | kernel_rfl))) | refine sG ?_ | refine sQ ?_ ?_ | intro hc | exact trivial)
 refine j68 (x' := agH 5 room (xs ++ [d])) rfl rfl rfl trivial ((xV (VP rfl rfl rfl rfl rfl rfl (Nat.le_of_ble_eq_true rfl)) rfl).post leh) (by kernel_rfl) ?_
 have hlen : (xs ++ [d]).length = xs.length + 1 := by simp
 repeat' (first | refine sA ?_ | refine sY ?_ | (show KW _ _ _ _ _ _ _ _ _ _ _ _ _; first | refine Xk rfl ?_ | (apply J3; (· exact rfl); (· exact rfl); (· exact rfl); (· intro y' hy'; first | exact ya); (· first | exact rfl | kernel_rfl)) | (apply Xs; (· exact rfl); (· exact rfl); (· exact rfl); (· exact rfl); (· first | exact ya); (· first | exact rfl | kernel_rfl))) | refine sG ?_ | refine sQ ?_ ?_ | intro hc | exact trivial)
 refine ole (s' := [(38, .ptr 0 0), (44, .int .i64 xs.length)]) (h' := agH 5 room (xs ++ [d])) les leh ?_
 refine jL (fun i => ρ45 i) (j3w room (xs ++ [d]) xs.length (by omega) (by omega) (j5c hh d)) rfl rfl leh rfl rfl rfl rfl rfl rfl (fun r h' hR => ?_)
 obtain ⟨rfl, ys, h3, h4, rfl⟩ := hR
 refine ⟨rfl, rfl, ?_⟩
 repeat' (first | refine sT ?_ | refine sQ ?_ ?_ | intro hc | exact trivial)
 exact jK rfl ⟨agH 5 room ys, leh, rfl, ys, h4, h3, rfl⟩
theorem j38 (room : Int) (xs : List Due) (hl : xs.length <= 10000) (hh : HpA xs) : FnH Tryz.prog 112 [.ptr 0 0] (agH 5 room xs) (fun r h' => r = .tup [.agg (jD (dG xs 0)), .bool (decide (0 < xs.length))] ∧ ∃ ys, HpA ys ∧ (0 < xs.length -> xs.Perm (dG xs 0 :: ys)) ∧ (xs.length = 0 -> ys = []) ∧ h' = agH 5 room ys) := by
 refine (qo Tryz.func112 (j5 (by kernel_rfl)) rfl rfl ?_).drop
 repeat' (first | refine sA ?_ | (show O _ _ _ _ _ _ _; first | refine jR (id := 12) rfl rfl rfl rfl rfl rfl rfl ?_) | refine sY ?_ | refine sG ?_ | refine sQ ?_ ?_ | intro hc | exact trivial)
 refine jL (fun i => ρ45 i) (Vp room xs) rfl rfl leh rfl rfl rfl rfl rfl rfl (fun r h' hR => ?_)
 obtain ⟨rfl, rfl⟩ := hR
 refine ⟨rfl, rfl, ?_⟩
 by_cases h0 : 0 < xs.length
 ·rw [decide_eq_true h0]
  repeat' (first | refine sB ?_ | (show O _ _ _ _ _ _ _; first | refine jR (id := 14) rfl rfl rfl rfl rfl rfl rfl ?_) | refine sY ?_ | refine sG ?_ | refine sQ ?_ ?_ | intro hc | exact trivial)
  all_goals first | (exfalso; omega) | skip
  refine wle (s' := [(0, .ptr 0 0), (2, .ptr 12 0), (4, .ptr 14 0), (6, .int .i64 (xs.length - 1 : Nat))]) (h' := [(5, .row 60 2 (xs.map jD)), (0, .blk 129 [.int .i64 room, .own 5]), (12, .blk 60 [.int .i64 0, .int .i64 0]), (14, .blk 60 (jD (dG xs 0)))]) les leh ?_
  have e1 : xs.getD (xs.length - 1) default = dG xs (xs.length - 1) := rfl
  repeat' (first | refine ve rfl (by kernel_rfl) (by kernel_rfl) (by kernel_rfl) ?_ | refine sA ?_ | ((first | apply kM | apply kN); (iterate 3 (· exact rfl)); (· first | (show Y _ ⟨_, .indexAddr _ _ _, _, _, _, _⟩ _ _ _; first | exact jP (0) rfl rfl rfl rfl rfl rfl (by omega) (by omega) | exact jP (xs.length - 1) rfl rfl rfl rfl rfl rfl (by omega) (by omega)))) | refine sY ?_ | (show F _ _ _ _ _ _ _ _ _ _ _; first | refine yj ?_ | (apply yn; (· exact rfl); (· exact rfl); (· first | exact yp)) | refine wI (x' := dG xs (xs.length - 1)) rfl rfl rfl rfl rfl rfl rfl rfl rfl (by (first | rfl | omega | (simp only [List.length_set]; omega) | simp only [List.length_set])) (by (first | rfl | omega | (simp only [List.length_set]; omega) | simp only [List.length_set])) ?_ | (apply f_k; (· exact rfl); (· intro y' hy'; first | (show Y _ ⟨_, .indexAddr _ _ _, _, _, _, _⟩ _ _ _; first | exact jP (0) rfl rfl rfl rfl rfl rfl (by omega) (by omega) | exact jP (xs.length - 1) rfl rfl rfl rfl rfl rfl (by omega) (by omega)) | exact ya))) | refine sG ?_ | refine sQ ?_ ?_ | intro hc | exact trivial)
  all_goals first | (exfalso; omega) | skip
  refine jh (yL [false, true] (id := 0) rfl) ?_
  refine ole (h' := [(5, .row 60 2 ((xs.set 0 (dG xs (xs.length - 1))).map jD)), (0, .blk 129 [.int .i64 room, .undef]), (12, .blk 60 [.int .i64 0, .int .i64 0]), (14, .blk 60 (jD (dG xs 0)))]) (LeS.refl _) leh ?_
  (refine j6E rfl rfl rfl rfl rfl rfl ?_ rfl rfl rfl rfl rfl ?_; (· first | omega | (simp only [List.length_set, List.length_cons, List.length_nil, List.length_append, List.length_map, List.length_take, List.length_replicate]; omega)))
  repeat' (first | refine sT ?_ | refine sQ ?_ ?_ | intro hc | exact trivial)
  refine jL (fun i => ρ45 i) (j1U room (QC xs) (by rw [V1]; omega) 0 (j19 hh) (by omega)) rfl rfl leh rfl rfl rfl rfl rfl rfl (fun r h' hR => ?_)
  obtain ⟨rfl, ys, h3, h4, rfl⟩ := hR
  refine ⟨rfl, rfl, ?_⟩
  repeat' (first | refine sT ?_ | refine sQ ?_ ?_ | intro hc | exact trivial)
  exact jK rfl ⟨agH 5 room ys, leh, rfl, ys, h4, fun _ => (XJ h0).trans (h3.symm.cons _), fun h => by omega, rfl⟩
 ·rw [decide_eq_false h0]
  have e : xs = [] := List.eq_nil_of_length_eq_zero (by omega)
  subst e
  repeat' (first | refine sA ?_ | (show O _ _ _ _ _ _ _; first | refine jR (id := 14) rfl rfl rfl rfl rfl rfl rfl ?_) | refine sY ?_ | refine sG ?_ | refine sQ ?_ ?_ | intro hc | exact trivial)
  all_goals exact jK rfl ⟨agH 5 room [], leh, rfl, [], hh, fun h => absurd h (by simp), fun _ => rfl, rfl⟩
theorem j2z (most : Int) : FnH Tryz.prog 37 [.int .i64 most] [(5, .row 3 1 (([] : List Int).map eI))] (fun r h' => r = .ptr 5 0 ∧ h' = [(5, .blk 129 [.int .i64 (max 0 (min most 4096)), .nils])]) := by
 refine qo Tryz.func37 (j5 (by kernel_rfl)) rfl rfl ?_
 refine wle (s' := [(0, .int .i64 most)]) (h' := []) les (LeH.nil _) ?_
 repeat' (first | refine sA ?_ | (show O _ _ _ _ _ _ _; first | (show O _ _ _ _ (⟨_, .box _ _, _, _, _, _⟩ :: _) _ _; first | refine wx (id := 5) rfl rfl rfl rfl rfl rfl rfl rfl ?_)) | ((first | apply kM | apply kN); (iterate 3 (· exact rfl)); (· first | exact yab)) | refine sG ?_ | refine sQ ?_ ?_ | intro hc | exact trivial)
 exact jK rfl ⟨rfl, rfl⟩
end Go.Proofs.YtfjoaeghnfkdlaaGreatDoor
