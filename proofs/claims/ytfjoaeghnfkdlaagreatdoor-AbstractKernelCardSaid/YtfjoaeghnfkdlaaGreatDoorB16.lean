/- Maps from integers, of the call's own. No condition. -/
import Derived.Test.YtfjoaeghnfkdlaaGreatDoorB11
import Derived.MapKept
import Derived.Test.YtfjoaeghnfkdlaaGreatDoorB8
import Derived.WalkKit
import Derived.Test.YtfjoaeghnfkdlaaGreatDoorB9
import Derived.Test.YtfjoaeghnfkdlaaGreatDoorB13
import Derived.Test.YtfjoaeghnfkdlaaGreatDoorB12
import Derived.Test.YtfjoaeghnfkdlaaGreatDoorB10
set_option linter.unusedSimpArgs false
set_option linter.unusedVariables false
set_option maxHeartbeats 1000000
set_option maxRecDepth 100000
namespace Go.Proofs.YtfjoaeghnfkdlaaGreatDoor
open Go.RowKit Go.MapKept
section
variable {α : Type}
def jw : List (Int × α) -> Int -> Option α
 | [], _ => none
 | (k', v) :: r, k => if k' = k then some v else jw r k
def jq : List (Int × α) -> Int -> α -> List (Int × α)
 | [], k, x => [(k, x)]
 | (k', v) :: r, k, x => if k' = k then (k, x) :: r else (k', v) :: jq r k x
def Js : List (Int × α) -> Int -> List (Int × α)
 | [], _ => []
 | (k', v) :: r, k => if k' = k then r else (k', v) :: Js r k
def noK (m : List (Int × α)) (k : Int) : Prop := ∀ p ∈ m, p.1 ≠ k
theorem JW (k : Int) : noK ([] : List (Int × α)) k := fun p hp => by cases hp
theorem JA {k' : Int} {v : α} {m : List (Int × α)} {k : Int} (h1 : k' ≠ k) (h2 : noK m k) : noK ((k', v) :: m) k := fun p hp => by
 rcases List.mem_cons.1 hp with rfl | hp
 ·exact h1
 ·exact h2 p hp
theorem Xb {m : List (Int × α)} {k : Int} (h : noK m k) : jw m k = none := by
 induction m with
 | nil => rfl
 | cons p r ih =>
  obtain ⟨k', v⟩ := p
  rw [jw, if_neg (h (k', v) List.mem_cons_self)]
  exact ih fun q hq => h q (List.mem_cons_of_mem _ hq)
theorem QN {m : List (Int × α)} {k : Int} {x : α} (h : noK m k) : jq m k x = m ++ [(k, x)] := by
 induction m with
 | nil => rfl
 | cons p r ih =>
  obtain ⟨k', v⟩ := p
  rw [jq, if_neg (h (k', v) List.mem_cons_self), ih fun q hq => h q (List.mem_cons_of_mem _ hq)]
  rfl
theorem j4m {m : List (Int × α)} {k : Int} (h : noK m k) : Js m k = m := by
 induction m with
 | nil => rfl
 | cons p r ih =>
  obtain ⟨k', v⟩ := p
  rw [Js, if_neg (h (k', v) List.mem_cons_self), ih fun q hq => h q (List.mem_cons_of_mem _ hq)]
theorem Zr {m1 m2 : List (Int × α)} {k : Int} {v : α} (h : noK m1 k) (x : α) : jw (m1 ++ (k, v) :: m2) k = some v ∧ jq (m1 ++ (k, v) :: m2) k x = m1 ++ (k, x) :: m2 ∧ Js (m1 ++ (k, v) :: m2) k = m1 ++ m2 := by
 induction m1 with
 | nil => simp [jw, jq, Js]
 | cons p r ih =>
  obtain ⟨k', v'⟩ := p
  have h1 := h (k', v') List.mem_cons_self
  obtain ⟨h2, h3, h4⟩ := ih fun q hq => h q (List.mem_cons_of_mem _ hq)
  simp only [List.cons_append, jw, jq, Js, if_neg h1, h2, h3, h4, and_self]
def ME (σ : Sig) (f : α -> AV) : List MapEntry -> List (Int × α) -> Prop
 | [], [] => True
 | e :: es, p :: m => e.key = .int .i64 p.1 ∧ VR0 σ (f p.2) e.val ∧ ME σ f es m
 | _, _ => False
theorem ME.mono {σ σ' : Sig} {f : α -> AV} (hs : Sig.le σ σ') : ∀ {es : List MapEntry} {m : List (Int × α)}, ME σ f es m -> ME σ' f es m
 | [], [], _ => trivial
 | [], _ :: _, h => h.elim
 | _ :: _, [], h => h.elim
 | _ :: _, _ :: _, ⟨h1, h2, h3⟩ => ⟨h1, h2.mono hs, ME.mono hs h3⟩
theorem ME.app {σ : Sig} {f : α -> AV} : ∀ {es es' : List MapEntry} {m m' : List (Int × α)}, ME σ f es m -> ME σ f es' m' -> ME σ f (es ++ es') (m ++ m')
 | [], _, [], _, _, h => h
 | [], _, _ :: _, _, h, _ => h.elim
 | _ :: _, _, [], _, h, _ => h.elim
 | _ :: _, _, _ :: _, _, ⟨h1, h2, h3⟩, h => ⟨h1, h2, ME.app h3 h⟩
theorem ME.keys {σ : Sig} {f : α -> AV} : ∀ {es : List MapEntry} {m : List (Int × α)}, ME σ f es m -> ∀ x ∈ es, IsKey (.int .i64) x.key
 | [], [], _, x, hx => by cases hx
 | [], _ :: _, h, _, _ => h.elim
 | _ :: _, [], h, _, _ => h.elim
 | e :: es, p :: m, ⟨h1, _, h3⟩, x, hx => by
  rcases List.mem_cons.1 hx with rfl | hx
  ·rw [h1]; rfl
  ·exact ME.keys h3 x hx
theorem ME.find {σ : Sig} {f : α -> AV} (k : Int) : ∀ {es : List MapEntry} {m : List (Int × α)} (i : Nat), ME σ f es m ->
  (Instr.findNow (.int .i64) (.int .i64 k) es i = some none ∧ noK m k) ∨
  ∃ e1 e e2 m1 v m2, es = e1 ++ e :: e2 ∧ m = m1 ++ (k, v) :: m2 ∧ e1.length = m1.length ∧ noK m1 k ∧ ME σ f e1 m1 ∧ ME σ f e2 m2 ∧ e.key = .int .i64 k ∧ VR0 σ (f v) e.val ∧ Instr.findNow (.int .i64) (.int .i64 k) es i = some (some (i + e1.length, e.val))
 | [], [], i, _ => .inl ⟨rfl, JW k⟩
 | [], _ :: _, _, h => h.elim
 | _ :: _, [], _, h => h.elim
 | e :: es, (k', v) :: m, i, ⟨h1, h2, h3⟩ => by
  simp only at h1 h2
  by_cases hk : k' = k
  ·subst hk
   exact .inr ⟨[], e, es, [], v, m, rfl, rfl, rfl, JW _, trivial, h3, h1, h2, by simp [Instr.findNow, h1, Instr.sameNow]⟩
  ·rcases ME.find k (i + 1) h3 with ⟨g1, g2⟩ | ⟨e1, e', e2, m1, v', m2, rfl, rfl, g3, g4, g5, g6, g7, g8, g9⟩
   ·refine .inl ⟨?_, JA hk g2⟩
    rw [Instr.findNow, h1]
    simp only [Instr.sameNow, if_true]
    rw [show ((k == k') : Bool) = false by simp; exact fun e => hk e.symm]
    exact g1
   ·refine .inr ⟨e :: e1, e', e2, (k', v) :: m1, v', m2, rfl, rfl, by simp [g3], JA hk g4, ⟨h1, h2, g5⟩, g6, g7, g8, ?_⟩
    rw [Instr.findNow, h1]
    simp only [Instr.sameNow, if_true]
    rw [show ((k == k') : Bool) = false by simp; exact fun e => hk e.symm]
    simp only
    rw [g9, List.length_cons, Nat.add_assoc, Nat.add_comm 1]
def j5W (f : α -> AV) (m : List (Int × α)) (σ : Sig) (H : Array Obj) (v : Value) : Prop := ∃ b es clock, v = .map (some b) ∧ H[b]? = some (.map es clock) ∧ ME σ f es.toList m
def yK (f : α -> AV) (m : List (Int × α)) : SemC where
 rel := j5W f m
 keep := fun σ σ' H H' v ⟨b, es, clock, h1, h2, h3⟩ hs hw => ⟨b, es, clock, h1, by rw [hw b (.inl (by rw [h1]; rfl))]; exact h2, h3.mono hs⟩
 lt := fun σ H v g ⟨b, es, clock, h1, h2, _⟩ hg => by
  have hg := hg.one (fun vs e => by rw [h1] at e; cases e)
  rw [h1] at hg; simp only [jC, Option.some.injEq] at hg; subst hg
  exact (Array.getElem?_eq_some_iff.1 h2).1
end
theorem Jh {β : Type} (l1 : List β) (x : β) (l2 : List β) (f : β -> β) : (l1 ++ x :: l2).modify l1.length f = l1 ++ f x :: l2 := by
 induction l1 with
 | nil => rfl
 | cons y l1 ih => rw [List.cons_append, List.length_cons, List.modify_succ_cons, ih]; rfl
theorem j3d {β : Type} (l1 : List β) (x : β) (l2 : List β) : (l1 ++ x :: l2).eraseIdx l1.length = l1 ++ l2 := by
 induction l1 with
 | nil => rfl
 | cons y l1 ih => rw [List.cons_append, List.length_cons, List.eraseIdx_cons_succ, ih]; rfl
def V6 (P : Program) (t : TypeId) : Option (TypeId × TypeId) := match P.underlying t with
 | some (.map k e) => match P.underlying k with
  | some (.int .i64) => some (k, e)
  | _ => none
 | _ => none
theorem wV {P : Program} {t k e : TypeId} (h : V6 P t = some (k, e)) : P.underlying t = some (.map k e) ∧ P.underlying k = some (.int .i64) := by
 unfold V6 at h
 split at h
 ·rename_i k' e' hu
  split at h
  ·rename_i hk; cases h; exact ⟨hu, hk⟩
  ·cases h
 ·cases h
section
variable {P : Program} {n : Md} {Q : Exit -> j6 -> j8 -> Prop} {s : j6} {h : j8} {ops : Array Oper} {rest : List Oper} {o : Oper}
theorem Rel.mapNew {α : Type} {E : Env} {σ : Sig} {ι : Nat -> Value} {w : World} (hr : Rel E σ ι h w) {f : α -> AV} {m m' : List (Int × α)} {id b clock' : Nat} {es' : Array MapEntry} (hg : j9 h id = some (.sem (yK f m))) (hb : ι id = .map (some b)) (hlt : b < w.heap.size)
  (hE : ME σ f es'.toList m') : Rel E σ ι ((id, .sem (yK f m')) :: h) { w with heap := w.heap.setIfInBounds b (.map es' clock') } := by
 have hsame : upd ι id (ι id) = ι := by funext i; unfold upd; split <;> simp_all
 have hnew := hr.turn (id := id) (u := ι id) (h' := (id, .sem (yK f m')) :: h) (c' := .sem (yK f m')) (w' := { w with heap := w.heap.setIfInBounds b (.map es' clock') })
  (fun i c hi hc => by rw [j7, if_neg (fun e => hi e.symm)] at hc; exact ⟨hc, .inl rfl⟩) (by rw [j7, if_pos rfl])
  (by rw [hsame]; exact ⟨b, es', clock', hb, by simp [hlt], hE⟩)
  rfl rfl rfl (by simp) (fun k hk hne => by
   have : k ≠ b := fun e => hne _ hg (by rw [hb, e]; rfl)
   simp [Ne.symm this])
  (fun g2 hg2 => .inl ⟨_, hg, hg2⟩) (.inr rfl)
 rw [hsame] at hnew
 exact hnew
theorem QZ {α : Type} {f : α -> AV} {m : List (Int × α)} {t kt et : TypeId} {x y z : Operand} {id : Nat} {k : Int} (a : α) (ho : o.op = .mapUpdate t x y z) (ht : V6 P t = some (kt, et)) (hx : evA s x = .own id) (hg : j9 h id = some (.sem (yK f m))) (hy : evA s y = .int .i64 k)
  (hz : evA s z = f a) (hp : w9 (f a) = true) : StO P o s h ((id, .sem (yK f (jq m k a))) :: h) := fun E σ ι act w hr hop => by
 have hX : VR σ ι (evA s x) (act.eval x) := hop x (by rw [ho]; simp [Op.operands])
 have hY : VR σ ι (evA s y) (act.eval y) := hop y (by rw [ho]; simp [Op.operands])
 have hZ : VR σ ι (evA s z) (act.eval z) := hop z (by rw [ho]; simp [Op.operands])
 rw [hx] at hX
 rw [hy] at hY
 rw [hz] at hZ
 obtain ⟨hm, hd⟩ := wV ht
 obtain ⟨b, es, clock, h1, h2, h3⟩ := hr.ch id _ hg
 have hlt : b < w.heap.size := (Array.getElem?_eq_some_iff.1 h2).1
 have hV := hZ.pure hp
 have ex := hX.own_inv.trans h1
 have ey := hY.int_inv.1
 have hik : IsKey (.int .i64) (.int .i64 k) := rfl
 rcases h3.find k 0 with ⟨g1, g2⟩ | ⟨e1, e, e2, m1, v, m2, ges, rfl, g3, g4, g5, g6, g7, g8, g9⟩
 ·refine ⟨{ w with heap := w.heap.setIfInBounds b (.map (es.push { key := .int .i64 k, val := act.eval z, born := clock }) (clock + 1)) }, ?_, hr.mapNew hg h1 hlt ?_⟩
  ·simp [execOp, ho, ex, ey, Instr.mapUpdate, run_underlying hm, Go.MapKept.run_getObj_map h2, Go.MapKept.run_checkKey hd hik, Go.MapKept.run_findKey hd g1, Go.MapKept.run_setObj_map _ h2, Result.andThen]
  ·rw [QN g2, Array.toList_push]
   exact h3.app ⟨rfl, hV, trivial⟩
 ·rw [Nat.zero_add] at g9
  have hj : es[e1.length]? = some e := by rw [<- Array.getElem?_toList, ges]; simp
  refine ⟨{ w with heap := w.heap.setIfInBounds b (.map (es.modify e1.length fun e => { e with key := .int .i64 k, val := act.eval z }) clock) }, ?_, hr.mapNew hg h1 hlt ?_⟩
  ·simp [execOp, ho, ex, ey, Instr.mapUpdate, run_underlying hm, Go.MapKept.run_getObj_map h2, Go.MapKept.run_checkKey hd hik, Go.MapKept.run_findKey hd g9, hj, g7, Go.MapKept.run_keyThatStays hik, Go.MapKept.run_setObj_map _ h2, Result.andThen]
  ·rw [(Zr g4 a).2.1]
   have hmod : (es.modify e1.length fun e => { e with key := .int .i64 k, val := act.eval z }).toList = e1 ++ { e with key := .int .i64 k, val := act.eval z } :: e2 := by
    rw [Array.toList_modify, ges]
    exact Jh e1 e e2 _
   rw [hmod]
   exact g5.app ⟨rfl, hV, g6⟩
theorem j3t {α : Type} {t : TypeId} (id : Nat) (f : α -> AV) (ho : o.op = .makeMap t none) (hf : jd id s h = true) (hgd : o.guard = none) (hdo : qj n o.dst = true)
  (hk : O P n ops Q rest (jX s o.dst (.own id)) ((id, .sem (yK f [])) :: h)) : O P n ops Q (o :: rest) s h := ⟨v8 hgd fun E σ ι a w hr ht => by
 simp only [jd, Bool.and_eq_true, Nat.ble_eq] at hf
 unfold Oper.wp
 have hrun : (execOp a.eval o).run P w = .ok (.value (.map (some w.heap.size))) (w.alloc (.map #[] 0)) := by
  simp [execOp, ho, Instr.makeMap, Result.andThen]
 rw [hrun]
 have hkeep : ∀ g, g < w.heap.size -> (w.alloc (.map #[] 0)).heap[g]? = w.heap[g]? := fun g hg => Below.heap_alloc _ _ _ hg
 have hnew := hr.turn (id := id) (u := .map (some w.heap.size)) (h' := (id, .sem (yK f [])) :: h) (c' := .sem (yK f [])) (w' := w.alloc (.map #[] 0))
  (fun i c hi hc => by
    rw [j7, if_neg (fun e => hi e.symm)] at hc
    exact ⟨hc, .inr (ju hf.2 i c hc).2⟩)
  (by rw [j7, if_pos rfl])
  (by show j5W f [] _ _ _; rw [jM]; exact ⟨w.heap.size, #[], 0, rfl, heap_alloc_new w _, trivial⟩)
  rfl rfl rfl (by simp) (fun k hk _ => hkeep k hk) (fun g hv => by cases hv; exact .inr (Nat.le_refl _)) (.inl hf.1.1)
 refine hk.out E σ _ _ _ hnew ((ht.upd hf.1.1 hf.1.2 _).putS hdo ?_)
 have h5 := VR.own (σ := σ) (ι := upd ι id (.map (some w.heap.size))) id (by rw [jM]; rfl)
 rwa [jM] at h5⟩
theorem wZ {α : Type} {f : α -> AV} {m : List (Int × α)} {t kt et : TypeId} {x y : Operand} {cm : Bool} {id : Nat} {k : Int} {z0 : AV} (v : AV) (b : Bool) (ho : o.op = .lookup t x y cm) (ht : V6 P t = some (kt, et)) (hx : evA s x = .own id) (hg : j9 h id = some (.sem (yK f m))) (hy : evA s y = .int .i64 k)
  (hz : ∀ (w : World) (σ : Sig), ∃ z, (zeroValue et).run P w = .ok z w ∧ VR0 σ z0 z) (hv : (jw m k = none ∧ v = z0 ∧ b = false) ∨ ∃ a, jw m k = some a ∧ v = f a ∧ b = true) : OkO P o s h (if cm then .tup [v, .bool b] else v) := by
 refine ja fun E σ ι a w hr hop => ?_
 have hX : VR σ ι (evA s x) (a.eval x) := hop x (by rw [ho]; simp [Op.operands])
 have hY : VR σ ι (evA s y) (a.eval y) := hop y (by rw [ho]; simp [Op.operands])
 rw [hx] at hX
 rw [hy] at hY
 obtain ⟨hm, hd⟩ := wV ht
 obtain ⟨r, es, clock, h1, h2, h3⟩ := hr.ch id _ hg
 have ex := hX.own_inv.trans h1
 have ey := hY.int_inv.1
 have hik : IsKey (.int .i64) (.int .i64 k) := rfl
 have fin : ∀ u, VR0 σ v u -> ∃ q, (if cm then Value.tuple #[u, .bool b] else u) = q ∧ VR σ ι (if cm then .tup [v, .bool b] else v) q := fun u hu => by
  refine ⟨_, rfl, ?_⟩
  cases cm with
  | false => exact .base _ _ hu
  | true =>
   have h4 : L2 (VR σ ι) [v, .bool b] [u, .bool b] := ((L2.nil _).cons (.base _ _ (.bool b))).cons (.base _ _ hu)
   exact .tup _ _ h4.1 h4.2
 rcases h3.find k 0 with ⟨g1, g2⟩ | ⟨e1, e, e2, m1, v', m2, ges, rfl, g3, g4, g5, g6, g7, g8, g9⟩
 ·rcases hv with ⟨_, rfl, rfl⟩ | ⟨a', h4, _⟩
  ·obtain ⟨z, hz1, hz2⟩ := hz w σ
   obtain ⟨q, hq1, hq2⟩ := fin z hz2
   refine ⟨q, ?_, hq2⟩
   rw [<- hq1]
   simp [execOp, ho, ex, ey, Instr.lookup, run_underlying hm, Go.MapKept.run_getObj_map h2, Go.MapKept.run_checkKey hd hik, Go.MapKept.run_findKey hd g1, hz1, Result.andThen]
  ·rw [Xb g2] at h4; cases h4
 ·have h5 := (Zr (m2 := m2) (v := v') g4 v').1
  rcases hv with ⟨h4, _⟩ | ⟨a', h4, rfl, rfl⟩
  ·rw [h5] at h4; cases h4
  ·rw [h5] at h4; cases h4
   obtain ⟨q, hq1, hq2⟩ := fin e.val g8
   refine ⟨q, ?_, hq2⟩
   rw [<- hq1]
   simp [execOp, ho, ex, ey, Instr.lookup, run_underlying hm, Go.MapKept.run_getObj_map h2, Go.MapKept.run_checkKey hd hik, Go.MapKept.run_findKey hd g9, Result.andThen]
theorem j1f {α : Type} {f : α -> AV} {m : List (Int × α)} {t kt et t2 : TypeId} {x y : Operand} {id : Nat} {k : Int} (ho : o.op = .call { callee := .builtin .delete, args := #[x, y], argTypes := #[t, t2] }) (ht : V6 P t = some (kt, et)) (hx : evA s x = .own id) (hg : j9 h id = some (.sem (yK f m))) (hy : evA s y = .int .i64 k) :
  TuO P o s h ((id, .sem (yK f (Js m k))) :: h) (.tup []) := fun E σ ι act w hr hop K Q hK => by
 have hX : VR σ ι (evA s x) (act.eval x) := hop x (by rw [ho]; simp [Op.operands, Call.operands])
 have hY : VR σ ι (evA s y) (act.eval y) := hop y (by rw [ho]; simp [Op.operands, Call.operands])
 rw [hx] at hX
 rw [hy] at hY
 obtain ⟨hm, hd⟩ := wV ht
 obtain ⟨b, es, clock, h1, h2, h3⟩ := hr.ch id _ hg
 have hlt : b < w.heap.size := (Array.getElem?_eq_some_iff.1 h2).1
 have ex := hX.own_inv.trans h1
 have ey := hY.int_inv.1
 have hik : IsKey (.int .i64) (.int .i64 k) := rfl
 obtain ⟨w', h4, h5⟩ : ∃ w', (execOp act.eval o).run P w = .ok (.value (.tuple #[])) w' ∧ Rel E σ ι ((id, .sem (yK f (Js m k))) :: h) w' := by
  rcases h3.find k 0 with ⟨g1, g2⟩ | ⟨e1, e, e2, m1, v, m2, ges, rfl, g3, g4, g5, g6, g7, g8, g9⟩
  ·refine ⟨{ w with heap := w.heap.setIfInBounds b (.map es clock) }, ?_, hr.mapNew hg h1 hlt (by rw [j4m g2]; exact h3)⟩
   simp [execOp, ho, resolve, invoke, builtin, ex, ey, Builtin.delete_, run_underlying hm, Go.MapKept.run_getObj_map h2, Go.MapKept.run_checkKey hd hik, Go.MapKept.run_findKey hd g1, Go.MapKept.run_setObj_map _ h2, Result.andThen]
  ·rw [Nat.zero_add] at g9
   refine ⟨{ w with heap := w.heap.setIfInBounds b (.map (es.eraseIdxIfInBounds e1.length) clock) }, ?_, hr.mapNew hg h1 hlt ?_⟩
   ·simp [execOp, ho, resolve, invoke, builtin, ex, ey, Builtin.delete_, run_underlying hm, Go.MapKept.run_getObj_map h2, Go.MapKept.run_checkKey hd hik, Go.MapKept.run_findKey hd g9, Go.MapKept.run_setObj_map _ h2, Result.andThen]
   ·rw [(Zr (m2 := m2) (v := v) g4 v).2.2]
    have hl : e1.length < es.size := by rw [<- Array.length_toList, ges]; simp
    have her : (es.eraseIdxIfInBounds e1.length).toList = e1 ++ e2 := by
     unfold Array.eraseIdxIfInBounds
     rw [dif_pos hl, Array.toList_eraseIdx, ges]
     exact j3d e1 e e2
    rw [her]
    exact g5.app g6
 unfold Oper.wp
 rw [h4]
 exact hK σ ι w' _ (Sig.le.refl σ) (fun _ _ _ t => t) h5 VR.tup0
theorem j5S {h' : j8} {v : AV} (hs : TuO P o s h h' v) (hgd : o.guard = none) (hco : qC o = true) (hdo : qj n o.dst = true) (hk : O P n ops Q rest (jX s o.dst v) h') : O P n ops Q (o :: rest) s h := ⟨v8 hgd fun E σ ι a w hr ht =>
 hs E σ ι a w hr (fun x hx => jZ (List.all_eq_true.1 hco x hx) fun t _ => ht.at_ t) _ _ fun σ' ι' w' u h1 h2 h3 h4 => hk.out E σ' ι' _ w' h3 ((h2 _ _ _ ht).putS hdo h4)⟩
theorem w8 {α : Type} (f : α -> List AV) {b : Nat} {ty : TypeId} {cs : List AV} (j : Nat) (hg : j9 h b = some (.blk ty cs)) (hj : cs[j]? = some .nils) (id : Nat) (e : TypeId) (sz : Nat) (hsz : 0 < sz) (hf : jd id s h = true) : Turns n s h s ((b, .blk ty (cs.set j (.own id))) :: (id, .row e sz (([] : List α).map f)) :: h) := by
 intro E σ ι a w hr ht
 simp only [jd, Bool.and_eq_true, Nat.ble_eq] at hf
 have hbi : b ≠ id := (ju hf.2 b _ hg).1
 have r1 : Rel E σ (upd ι id (.slice none 0 0)) ((id, .row e sz (([] : List α).map f)) :: h) w := by
  refine hr.turn (c' := .row e sz []) ?_ (by rw [j7, if_pos rfl]; rfl) ⟨hsz, by simp, [], by rw [jM]; exact World.ownsRow_nil w 0 e sz, L2.nil _⟩ rfl rfl rfl (Nat.le_refl _) (fun _ _ _ => rfl) (fun g hg => by cases hg) (.inl hf.1.1)
  intro i c hi hc
  rw [j7, if_neg (fun e => hi e.symm)] at hc
  exact ⟨hc, .inr (ju hf.2 i c hc).2⟩
 have t1 := ht.upd hf.1.1 hf.1.2 (.slice none 0 0)
 have hown : VR σ (upd ι id (.slice none 0 0)) (.own id) (.slice none 0 0) := by
  have h4 := VR.own (σ := σ) (ι := upd ι id (.slice none 0 0)) id (by rw [jM]; rfl)
  rwa [jM] at h4
 generalize upd ι id (.slice none 0 0) = ι1 at *
 have hgb : j9 ((id, .row e sz (([] : List α).map f)) :: h) b = some (.blk ty cs) := by rw [j7, if_neg (fun e => hbi e.symm)]; exact hg
 obtain ⟨g, cur, e1, e2, e3⟩ := r1.ch b _ hgb
 have hsame : upd ι1 b (ι1 b) = ι1 := by funext i; unfold upd; split <;> simp_all
 have hnew := r1.turn (id := b) (u := ι1 b) (h' := (b, .blk ty (cs.set j (.own id))) :: (id, .row e sz (([] : List α).map f)) :: h) (c' := .blk ty (cs.set j (.own id))) (w' := w)
  (fun i c hi hc => by rw [j7, if_neg (fun e => hi e.symm)] at hc; exact ⟨hc, .inl rfl⟩) (by rw [j7, if_pos rfl])
  (by rw [hsame]; exact ⟨g, cur, e1, e2, by rw [List.length_set]; exact e3.1, fun k x y hx hy => by
    rw [List.getElem?_set] at hx
    by_cases hjk : j = k
    ·subst hjk
     have h5 := e3.2 j .nils y hj hy
     have hjl := (List.getElem?_eq_some_iff.1 hj).1
     rw [if_pos rfl, if_pos hjl] at hx
     cases hx
     have h6 : y = .slice none 0 0 := by
      cases h5 with
      | base _ _ h0 => cases h0; rfl
     rw [h6]; exact hown
    ·rw [if_neg hjk] at hx
     exact e3.2 k x y hx hy⟩)
  rfl rfl rfl (Nat.le_refl _) (fun _ _ _ => rfl) (fun g hv => .inl ⟨_, hgb, hv⟩) (.inr rfl)
 rw [hsame] at hnew
 exact ⟨σ, ι1, hnew, t1⟩
end
end Go.Proofs.YtfjoaeghnfkdlaaGreatDoor
namespace Go.Proofs.YtfjoaeghnfkdlaaGreatDoor
open Go.RowKit Go.MapKept
theorem Y7 {P : Program} {s : j6} {h : j8} {o : Oper} {m : List (Int × Int)} {t kt et : TypeId} {x y : Operand} {id : Nat} {k : Int} (hz : ∀ (w : World) (σ : Sig), ∃ z, (zeroValue et).run P w = .ok z w ∧ VR0 σ (.int .i64 0) z)
  (ho : o.op = .lookup t x y false) (ht : V6 P t = some (kt, et)) (hx : evA s x = .own id) (hg : j9 h id = some (.sem (yK (fun n : Int => AV.int .i64 n) m))) (hy : evA s y = .int .i64 k) : OkO P o s h (.int .i64 ((jw m k).getD 0)) := by
 cases hm : jw m k with
 | none => exact wZ (.int .i64 0) false ho ht hx hg hy hz (.inl ⟨hm, rfl, rfl⟩)
 | some a => exact wZ (.int .i64 a) true ho ht hx hg hy hz (.inr ⟨a, hm, rfl, rfl⟩)
theorem Yt : ∀ (w : World) (σ : Sig), ∃ z, (zeroValue 3).run Tryz.prog w = .ok z w ∧ VR0 σ (.int .i64 0) z := fun w σ => ⟨.int .i64 0, rfl, .int _ _ (by simp only [jS]; omega)⟩
abbrev mI (m : List (Int × Int)) : Chunk := .sem (yK (fun n : Int => AV.int .i64 n) m)
end Go.Proofs.YtfjoaeghnfkdlaaGreatDoor
namespace Go.Proofs.YtfjoaeghnfkdlaaGreatDoor
open Go.RowKit Go.MapKept
section
variable {α : Type}
def j5R (f : α -> AV) (m : List (Int × α)) (σ : Sig) (H : Array Obj) (v : Value) : Prop := ∃ b es clock, v = .map (some b) ∧ H[b]? = some (.map es clock) ∧ ME σ f es.toList m ∧ Stamped es clock ∧ ∀ p ∈ m, jS .i64 p.1
def yU (f : α -> AV) (m : List (Int × α)) : SemC where
 rel := j5R f m
 keep := fun σ σ' H H' v ⟨b, es, clock, h1, h2, h3, h4⟩ hs hw => ⟨b, es, clock, h1, by rw [hw b (.inl (by rw [h1]; rfl))]; exact h2, h3.mono hs, h4⟩
 lt := fun σ H v g ⟨b, es, clock, h1, h2, _⟩ hg => by
  have hg := hg.one (fun vs e => by rw [h1] at e; cases e)
  rw [h1] at hg; simp only [jC, Option.some.injEq] at hg; subst hg
  exact (Array.getElem?_eq_some_iff.1 h2).1
theorem ME.len {σ : Sig} {f : α -> AV} : ∀ {es : List MapEntry} {m : List (Int × α)}, ME σ f es m -> es.length = m.length
 | [], [], _ => rfl
 | [], _ :: _, h => h.elim
 | _ :: _, [], h => h.elim
 | _ :: _, _ :: _, ⟨_, _, h⟩ => by rw [List.length_cons, List.length_cons, ME.len h]
theorem ME.key_of {σ : Sig} {f : α -> AV} : ∀ {es : List MapEntry} {m : List (Int × α)}, ME σ f es m -> ∀ e ∈ es, ∃ p ∈ m, e.key = .int .i64 p.1
 | [], [], _, e, he => by cases he
 | [], _ :: _, h, _, _ => h.elim
 | _ :: _, [], h, _, _ => h.elim
 | e0 :: es, p :: m, ⟨h1, _, h⟩, e, he => by
  rcases List.mem_cons.1 he with rfl | he
  ·exact ⟨p, List.mem_cons_self, h1⟩
  ·obtain ⟨q, hq, h2⟩ := ME.key_of h e he
   exact ⟨q, List.mem_cons_of_mem _ hq, h2⟩
theorem ME.maps {σ : Sig} {f : α -> AV} : ∀ {es : List MapEntry} {m : List (Int × α)}, ME σ f es m -> es.map (·.key) = m.map fun p => Value.int .i64 p.1
 | [], [], _ => rfl
 | [], _ :: _, h => h.elim
 | _ :: _, [], h => h.elim
 | _ :: _, _ :: _, ⟨h1, _, h⟩ => by rw [List.map_cons, List.map_cons, h1, ME.maps h]
theorem j3X {m : List (Int × α)} {k : Int} {x : α} : ∀ {p}, p ∈ jq m k x -> p.1 = k ∨ p ∈ m := by
 induction m with
 | nil => intro p hp; simp only [jq, List.mem_singleton] at hp; subst hp; exact .inl rfl
 | cons q r ih =>
  obtain ⟨k', v⟩ := q
  intro p hp
  rw [jq] at hp
  split at hp
  ·rcases List.mem_cons.1 hp with rfl | hp
   ·exact .inl rfl
   ·exact .inr (List.mem_cons_of_mem _ hp)
  ·rcases List.mem_cons.1 hp with rfl | hp
   ·exact .inr List.mem_cons_self
   ·exact (ih hp).imp id (List.mem_cons_of_mem _)
end
section
variable {P : Program} {n : Md} {Q : Exit -> j6 -> j8 -> Prop} {s : j6} {h : j8} {ops : Array Oper} {rest : List Oper} {o : Oper}
theorem Rel.mapNewK {α : Type} {E : Env} {σ : Sig} {ι : Nat -> Value} {w : World} (hr : Rel E σ ι h w) {f : α -> AV} {m m' : List (Int × α)} {id b clock' : Nat} {es' : Array MapEntry} (hg : j9 h id = some (.sem (yU f m))) (hb : ι id = .map (some b)) (hlt : b < w.heap.size)
  (hE : ME σ f es'.toList m') (hst : Stamped es' clock') (hrg : ∀ p ∈ m', jS .i64 p.1) : Rel E σ ι ((id, .sem (yU f m')) :: h) { w with heap := w.heap.setIfInBounds b (.map es' clock') } := by
 have hsame : upd ι id (ι id) = ι := by funext i; unfold upd; split <;> simp_all
 have hnew := hr.turn (id := id) (u := ι id) (h' := (id, .sem (yU f m')) :: h) (c' := .sem (yU f m')) (w' := { w with heap := w.heap.setIfInBounds b (.map es' clock') })
  (fun i c hi hc => by rw [j7, if_neg (fun e => hi e.symm)] at hc; exact ⟨hc, .inl rfl⟩) (by rw [j7, if_pos rfl])
  (by rw [hsame]; exact ⟨b, es', clock', hb, by simp [hlt], hE, hst, hrg⟩)
  rfl rfl rfl (by simp) (fun k hk hne => by
   have : k ≠ b := fun e => hne _ hg (by rw [hb, e]; rfl)
   simp [Ne.symm this])
  (fun g2 hg2 => .inl ⟨_, hg, hg2⟩) (.inr rfl)
 rw [hsame] at hnew
 exact hnew
theorem Y8 {α : Type} {f : α -> AV} {m : List (Int × α)} {t kt et : TypeId} {x y z : Operand} {id : Nat} {k : Int} (a : α) (ho : o.op = .mapUpdate t x y z) (ht : V6 P t = some (kt, et)) (hx : evA s x = .own id) (hg : j9 h id = some (.sem (yU f m))) (hy : evA s y = .int .i64 k)
  (hz : evA s z = f a) (hp : w9 (f a) = true) : StO P o s h ((id, .sem (yU f (jq m k a))) :: h) := fun E σ ι act w hr hop => by
 have hX : VR σ ι (evA s x) (act.eval x) := hop x (by rw [ho]; simp [Op.operands])
 have hY : VR σ ι (evA s y) (act.eval y) := hop y (by rw [ho]; simp [Op.operands])
 have hZ : VR σ ι (evA s z) (act.eval z) := hop z (by rw [ho]; simp [Op.operands])
 rw [hx] at hX
 rw [hy] at hY
 rw [hz] at hZ
 obtain ⟨hm, hd⟩ := wV ht
 obtain ⟨b, es, clock, h1, h2, h3, hst, hrg⟩ := hr.ch id _ hg
 have hlt : b < w.heap.size := (Array.getElem?_eq_some_iff.1 h2).1
 have hV := hZ.pure hp
 have ex := hX.own_inv.trans h1
 have ey := hY.int_inv.1
 have hrg' : ∀ p ∈ jq m k a, jS .i64 p.1 := fun p hp => by
  rcases j3X hp with e | hp
  ·rw [e]; exact hY.int_inv.2
  ·exact hrg p hp
 have hik : IsKey (.int .i64) (.int .i64 k) := rfl
 rcases h3.find k 0 with ⟨g1, g2⟩ | ⟨e1, e, e2, m1, v, m2, ges, rfl, g3, g4, g5, g6, g7, g8, g9⟩
 ·refine ⟨{ w with heap := w.heap.setIfInBounds b (.map (es.push { key := .int .i64 k, val := act.eval z, born := clock }) (clock + 1)) }, ?_, hr.mapNewK hg h1 hlt ?_ ?_ hrg'⟩
  ·simp [execOp, ho, ex, ey, Instr.mapUpdate, run_underlying hm, Go.MapKept.run_getObj_map h2, Go.MapKept.run_checkKey hd hik, Go.MapKept.run_findKey hd g1, Go.MapKept.run_setObj_map _ h2, Result.andThen]
  ·rw [QN g2, Array.toList_push]
   exact h3.app ⟨rfl, hV, trivial⟩
  ·exact stamped_push hst fun x hx e => by
    obtain ⟨p, hp, e2⟩ := ME.key_of h3 x hx
    rw [e] at e2
    exact g2 p hp (by simpa using e2.symm)
 ·rw [Nat.zero_add] at g9
  have hj : es[e1.length]? = some e := by rw [<- Array.getElem?_toList, ges]; simp
  refine ⟨{ w with heap := w.heap.setIfInBounds b (.map (es.modify e1.length fun e => { e with key := .int .i64 k, val := act.eval z }) clock) }, ?_, hr.mapNewK hg h1 hlt ?_ ?_ hrg'⟩
  ·simp [execOp, ho, ex, ey, Instr.mapUpdate, run_underlying hm, Go.MapKept.run_getObj_map h2, Go.MapKept.run_checkKey hd hik, Go.MapKept.run_findKey hd g9, hj, g7, Go.MapKept.run_keyThatStays hik, Go.MapKept.run_setObj_map _ h2, Result.andThen]
  ·rw [(Zr g4 a).2.1]
   have hmod : (es.modify e1.length fun e => { e with key := .int .i64 k, val := act.eval z }).toList = e1 ++ { e with key := .int .i64 k, val := act.eval z } :: e2 := by
    rw [Array.toList_modify, ges]
    exact Jh e1 e e2 _
   rw [hmod]
   exact g5.app ⟨rfl, hV, g6⟩
  ·exact stamped_modify hst _ _ (fun _ _ => rfl) fun e' _ hj' => by
    rw [hj] at hj'; cases hj'; exact g7.symm
theorem j3e {α : Type} {t : TypeId} (id : Nat) (f : α -> AV) (ho : o.op = .makeMap t none) (hf : jd id s h = true) (hgd : o.guard = none) (hdo : qj n o.dst = true)
  (hk : O P n ops Q rest (jX s o.dst (.own id)) ((id, .sem (yU f [])) :: h)) : O P n ops Q (o :: rest) s h := ⟨v8 hgd fun E σ ι a w hr ht => by
 simp only [jd, Bool.and_eq_true, Nat.ble_eq] at hf
 unfold Oper.wp
 have hrun : (execOp a.eval o).run P w = .ok (.value (.map (some w.heap.size))) (w.alloc (.map #[] 0)) := by
  simp [execOp, ho, Instr.makeMap, Result.andThen]
 rw [hrun]
 have hkeep : ∀ g, g < w.heap.size -> (w.alloc (.map #[] 0)).heap[g]? = w.heap[g]? := fun g hg => Below.heap_alloc _ _ _ hg
 have hnew := hr.turn (id := id) (u := .map (some w.heap.size)) (h' := (id, .sem (yU f [])) :: h) (c' := .sem (yU f [])) (w' := w.alloc (.map #[] 0))
  (fun i c hi hc => by
    rw [j7, if_neg (fun e => hi e.symm)] at hc
    exact ⟨hc, .inr (ju hf.2 i c hc).2⟩)
  (by rw [j7, if_pos rfl])
  (by show j5R f [] _ _ _; rw [jM]; exact ⟨w.heap.size, #[], 0, rfl, heap_alloc_new w _, trivial, stamped_empty 0, fun p hp => by cases hp⟩)
  rfl rfl rfl (by simp) (fun k hk _ => hkeep k hk) (fun g hv => by cases hv; exact .inr (Nat.le_refl _)) (.inl hf.1.1)
 refine hk.out E σ _ _ _ hnew ((ht.upd hf.1.1 hf.1.2 _).putS hdo ?_)
 have h5 := VR.own (σ := σ) (ι := upd ι id (.map (some w.heap.size))) id (by rw [jM]; rfl)
 rwa [jM] at h5⟩
theorem j30 {α : Type} {f : α -> AV} {m : List (Int × α)} {t kt et : TypeId} {x y : Operand} {id : Nat} {k : Int} (v : α) (ho : o.op = .lookup t x y false) (ht : V6 P t = some (kt, et)) (hx : evA s x = .own id) (hg : j9 h id = some (.sem (yU f m))) (hy : evA s y = .int .i64 k)
  (hv : jw m k = some v) : OkO P o s h (f v) := by
 refine ja fun E σ ι a w hr hop => ?_
 have hX : VR σ ι (evA s x) (a.eval x) := hop x (by rw [ho]; simp [Op.operands])
 have hY : VR σ ι (evA s y) (a.eval y) := hop y (by rw [ho]; simp [Op.operands])
 rw [hx] at hX
 rw [hy] at hY
 obtain ⟨hm, hd⟩ := wV ht
 obtain ⟨r, es, clock, h1, h2, h3, hst, hrg⟩ := hr.ch id _ hg
 have ex := hX.own_inv.trans h1
 have ey := hY.int_inv.1
 have hik : IsKey (.int .i64) (.int .i64 k) := rfl
 rcases h3.find k 0 with ⟨g1, g2⟩ | ⟨e1, e, e2, m1, v', m2, ges, rfl, g3, g4, g5, g6, g7, g8, g9⟩
 ·rw [Xb g2] at hv; cases hv
 ·have h5 := (Zr (m2 := m2) (v := v') g4 v').1
  rw [h5] at hv; cases hv
  refine ⟨e.val, ?_, .base _ _ g8⟩
  simp [execOp, ho, ex, ey, Instr.lookup, run_underlying hm, Go.MapKept.run_getObj_map h2, Go.MapKept.run_checkKey hd hik, Go.MapKept.run_findKey hd g9, Result.andThen]
end
end Go.Proofs.YtfjoaeghnfkdlaaGreatDoor
namespace Go.Proofs.YtfjoaeghnfkdlaaGreatDoor
open Go.RowKit Go.ChangeShapes Go.WideShapes

structure Instr where
 op : Int
 a : Int
 b : Int
 c : Int
 n : Int
instance : Inhabited Instr := ⟨⟨0, 0, 0, 0, 0⟩⟩
theorem Instr.ext_ {x y : Instr} (h : x.op = y.op ∧ x.a = y.a ∧ x.b = y.b ∧ x.c = y.c ∧ x.n = y.n) : x = y := by cases x; cases y; simp_all
instance : DecidableEq Instr := fun x y => decidable_of_iff (x.op = y.op ∧ x.a = y.a ∧ x.b = y.b ∧ x.c = y.c ∧ x.n = y.n) ⟨Instr.ext_, fun h => by subst h; simp⟩
def Instr.cells (x : Instr) : List Value := [.int .i64 x.op, .int .i64 x.a, .int .i64 x.b, .int .i64 x.c, .int .u32 x.n]
def Instr.ok (x : Instr) : Prop := (Lit.int .i64 x.op).wf = true ∧ (Lit.int .i64 x.a).wf = true ∧ (Lit.int .i64 x.b).wf = true ∧ (Lit.int .i64 x.c).wf = true ∧ (Lit.int .u32 x.n).wf = true
def Instr.cod : Cod Instr := fun _ cs x => cs = x.cells ∧ x.ok
theorem Instr.mono : Mono Instr.cod := fun _ _ _ _ _ h => h
theorem Instr.size {w : World} {cs : List Value} {x : Instr} (h : Instr.cod w cs x) : cs.length = 5 := by rw [h.1]; rfl
theorem Instr.at {w : World} {b off : Nat} {xs : List Instr} (h : Row' Instr.cod 5 w b off xs) (i : Nat) (hi : i < xs.length) :
  w.cell? ⟨b, off + i * 5, none⟩ = some (.int .i64 xs[i].op) ∧ w.cell? ⟨b, off + i * 5 + 1, none⟩ = some (.int .i64 xs[i].a) ∧ w.cell? ⟨b, off + i * 5 + 2, none⟩ = some (.int .i64 xs[i].b) ∧ w.cell? ⟨b, off + i * 5 + 3, none⟩ = some (.int .i64 xs[i].c) ∧ w.cell? ⟨b, off + i * 5 + 4, none⟩ = some (.int .u32 xs[i].n) ∧ xs[i].ok := by
 obtain ⟨cs, hx, _, hc⟩ := h i xs[i] (List.getElem?_eq_getElem hi)
 obtain ⟨rfl, hk⟩ := hx
 exact ⟨hc 0 _ rfl, hc 1 _ rfl, hc 2 _ rfl, hc 3 _ rfl, hc 4 _ rfl, hk⟩
theorem Instr.run_eqIn (x y : Instr) (w : World) : (Op.equalIn 10000 217 (.agg #[.int .i64 x.op, .int .i64 x.a, .int .i64 x.b, .int .i64 x.c, .int .u32 x.n]) (.agg #[.int .i64 y.op, .int .i64 y.a, .int .i64 y.b, .int .i64 y.c, .int .u32 y.n])).run Tryz.prog w = .ok (decide (x = y)) w := by
 have hs : Tryz.prog.stoodInHeld 217 = false := by kernel_rfl
 rw [run_equalIn_agg w 9999 217 _ _ (by simp only [Program.fieldsOf, Tryz.underlying217]) hs]
 simp only [Program.fieldsOf, Tryz.underlying217]
 simp [go_sem]
 by_cases h : x = y
 ·subst h; simp
 ·rw [show decide (x = y) = false from by simp [h]]
  repeat' split
  all_goals first | rfl | exact absurd (Instr.ext_ ⟨by assumption, by assumption, by assumption, by assumption, by assumption⟩) h
theorem Instr.run_guard (op : BinOp) (xo yo : Operand) (xs ys : Array Value) (w : World) : (eqGuard op 217 xo yo (.agg xs) (.agg ys)).run Tryz.prog w = .ok () w := run_eqGuard_agg w op 217 xo yo xs ys (by kernel_rfl)
end Go.Proofs.YtfjoaeghnfkdlaaGreatDoor
namespace Go.Proofs.YtfjoaeghnfkdlaaGreatDoor
open Go.RowKit Go.ChangeShapes Go.WideShapes

structure Task where
 kind : Int
 prio : Int
 period : Int
 offset : Int
 deadline : Int
 own : Int
 code : List Instr
instance : Inhabited Task := ⟨⟨0, 0, 0, 0, 0, 0, []⟩⟩
theorem Task.ext_ {x y : Task} (h : x.kind = y.kind ∧ x.prio = y.prio ∧ x.period = y.period ∧ x.offset = y.offset ∧ x.deadline = y.deadline ∧ x.own = y.own ∧ x.code = y.code) : x = y := by cases x; cases y; simp_all
instance : DecidableEq Task := fun x y => decidable_of_iff (x.kind = y.kind ∧ x.prio = y.prio ∧ x.period = y.period ∧ x.offset = y.offset ∧ x.deadline = y.deadline ∧ x.own = y.own ∧ x.code = y.code) ⟨Task.ext_, fun h => by subst h; simp⟩
def Task.ok (x : Task) : Prop := (Lit.int .i64 x.kind).wf = true ∧ (Lit.int .i64 x.prio).wf = true ∧ (Lit.int .i64 x.period).wf = true ∧ (Lit.int .i64 x.offset).wf = true ∧ (Lit.int .i64 x.deadline).wf = true ∧ (Lit.int .i64 x.own).wf = true
def Task.cod : Cod Task := fun w cs x => ∃ (A_code : Option Addr) (c_code : Nat), cs = [.int .i64 x.kind, .int .i64 x.prio, .int .i64 x.period, .int .i64 x.offset, .int .i64 x.deadline, .int .i64 x.own, .slice A_code x.code.length c_code] ∧ x.ok ∧ x.code.length <= c_code ∧ c_code <= maxLen ∧ Row Instr.cod 5 w A_code x.code
theorem Task.mono : Mono Task.cod := fun _ _ _ _ he ⟨A_code, c_code, h, hk, l_code, m_code, r_code⟩ => ⟨A_code, c_code, h, hk, l_code, m_code, r_code.ext Instr.mono he⟩
theorem Task.size {w : World} {cs : List Value} {x : Task} (h : Task.cod w cs x) : cs.length = 7 := by obtain ⟨A_code, c_code, h, _⟩ := h; rw [h]; rfl
theorem Task.at {w : World} {b off : Nat} {xs : List Task} (h : Row' Task.cod 7 w b off xs) (i : Nat) (hi : i < xs.length) :
  ∃ (A_code : Option Addr) (c_code : Nat), w.cell? ⟨b, off + i * 7, none⟩ = some (.int .i64 xs[i].kind) ∧ w.cell? ⟨b, off + i * 7 + 1, none⟩ = some (.int .i64 xs[i].prio) ∧ w.cell? ⟨b, off + i * 7 + 2, none⟩ = some (.int .i64 xs[i].period) ∧ w.cell? ⟨b, off + i * 7 + 3, none⟩ = some (.int .i64 xs[i].offset) ∧ w.cell? ⟨b, off + i * 7 + 4, none⟩ = some (.int .i64 xs[i].deadline) ∧ w.cell? ⟨b, off + i * 7 + 5, none⟩ = some (.int .i64 xs[i].own) ∧ w.cell? ⟨b, off + i * 7 + 6, none⟩ = some (.slice A_code xs[i].code.length c_code) ∧ xs[i].ok ∧ xs[i].code.length <= c_code ∧ c_code <= maxLen ∧ Row Instr.cod 5 w A_code xs[i].code := by
 obtain ⟨cs, hx, _, hc⟩ := h i xs[i] (List.getElem?_eq_getElem hi)
 obtain ⟨A_code, c_code, rfl, hk, l_code, m_code, r_code⟩ := hx
 exact ⟨A_code, c_code, hc 0 _ rfl, hc 1 _ rfl, hc 2 _ rfl, hc 3 _ rfl, hc 4 _ rfl, hc 5 _ rfl, hc 6 _ rfl, hk, l_code, m_code, r_code⟩
end Go.Proofs.YtfjoaeghnfkdlaaGreatDoor
namespace Go.Proofs.YtfjoaeghnfkdlaaGreatDoor
open Go.RowKit
def j2P (x : Instr) : List AV := [.int .i64 x.op, .int .i64 x.a, .int .i64 x.b, .int .i64 x.c, .int .u32 x.n]
theorem j3T : Br Instr.cod j2P := fun w cs x ⟨h1, h2⟩ => by
 subst h1
 obtain ⟨h_op, h_a, h_b, h_c, h_n⟩ := h2
 exact (((((L2.nil _).cons (.int _ _ (qc.2 h_n))).cons (.int _ _ (qc.2 h_c))).cons (.int _ _ (qc.2 h_b))).cons (.int _ _ (qc.2 h_a))).cons (.int _ _ (qc.2 h_op))
def jJ (x : Task) : List AV := [.int .i64 x.kind, .int .i64 x.prio, .int .i64 x.period, .int .i64 x.offset, .int .i64 x.deadline, .int .i64 x.own, .lst 5 (x.code.map j2P)]
theorem j46 : Br Task.cod jJ := fun w cs x ⟨A_code, c_code, h1, hk, l_code, m_code, r_code⟩ => by
 subst h1
 obtain ⟨h_kind, h_prio, h_period, h_offset, h_deadline, h_own⟩ := hk
 exact (((((((L2.nil _).cons (Qd j3T (fun _ => rfl) r_code l_code m_code)).cons (.int _ _ (qc.2 h_own))).cons (.int _ _ (qc.2 h_deadline))).cons (.int _ _ (qc.2 h_offset))).cons (.int _ _ (qc.2 h_period))).cons (.int _ _ (qc.2 h_prio))).cons (.int _ _ (qc.2 h_kind))
def inT (n : Int) : Int := max 0 (min n 1099511627776)
def Vc (a b : Int) : Int := inT (inT a + inT b)
theorem zk (n : Int) : 0 <= inT n ∧ inT n <= 1099511627776 := by unfold inT; omega
def eLI (x : List Int) : List AV := [.lst 1 (x.map eI)]
theorem Vs (n low high : Int) : Fn Tryz.prog 107 [.int .i64 n, .int .i64 low, .int .i64 high] (.int .i64 (max low (min n high))) := by
 refine fnb Tryz.func107 (j5 (by kernel_rfl)) rfl rfl rfl ?_
 repeat' (first | refine sT ?_ | refine sQ ?_ ?_ | intro hc | exact trivial)
 exact jK rfl rfl
theorem j13 (n : Int) : Fn Tryz.prog 131 [.int .i64 n] (.int .i64 (inT n)) := by
 refine fnb Tryz.func131 (j5 (by kernel_rfl)) rfl rfl rfl ?_
 repeat' (first | refine sT ?_ | refine sC (Vs _ _ _) ?_ | refine sQ ?_ ?_ | intro hc | exact trivial)
 exact jK rfl rfl
theorem Jf (a b : Int) : Fn Tryz.prog 114 [.int .i64 a, .int .i64 b] (.int .i64 (Vc a b)) := by
 have h1 := zk a
 have h2 := zk b
 refine fnb Tryz.func114 (j5 (by kernel_rfl)) rfl rfl rfl ?_
 repeat' (first | refine sT ?_ | refine sC (j13 _) ?_ | refine sQ ?_ ?_ | intro hc | exact trivial)
 exact jK rfl rfl
abbrev mJ (m : List (Int × Job)) : Chunk := .sem (yU (fun j : Job => AV.agg (vX j)) m)
abbrev mD (m : List (Int × Due)) : Chunk := .sem (yU (fun d : Due => AV.agg (jD d)) m)
abbrev bdH (l : List Task) (dm : List (List Int)) (T : List Int) (m1 : List (Int × Job)) (m2 : List (Int × Due)) : j8 :=
 [(4, .row 3 1 (T.map eI)), (0, .blk 120 [.lst 7 (l.map jJ), .lst 1 (dm.map eLI), .own 4, .own 2, .own 3]), (2, mJ m1), (3, mD m2)]
def ji (dm : List (List Int)) (i no : Int) : Int := if (dm.length : Int) <= i ∨ ((dm.getD i.toNat default).length : Int) <= no then 1 else max 1 ((dm.getD i.toNat default).getD no.toNat default)
theorem Zl (l : List Task) (dm : List (List Int)) (T : List Int) (m1 : List (Int × Job)) (m2 : List (Int × Due)) (i no : Int) (hi : 0 <= i) (hn : 0 <= no) : FnH Tryz.prog 145 [.ptr 0 0, .int .i64 i, .int .i64 no] (bdH l dm T m1 m2) (fun r h' => r = .int .i64 (ji dm i no) ∧ h' = bdH l dm T m1 m2) := by
 refine qo Tryz.func145 (j5 (by kernel_rfl)) rfl rfl ?_
 by_cases h1 : (dm.length : Int) <= i
 ·repeat' (first | refine sT ?_ | refine sQ ?_ ?_ | intro hc | exact trivial)
  all_goals first | (exfalso; omega) | exact jK rfl ⟨by rw [ji, if_pos (.inl h1)], rfl⟩
 by_cases h2 : ((dm.getD i.toNat default).length : Int) <= no
 ·repeat' (first | refine sT ?_ | refine sQ ?_ ?_ | intro hc | exact trivial)
  all_goals first | (exfalso; omega) | exact jK rfl ⟨by rw [ji, if_pos (.inr h2)], rfl⟩
 ·repeat' (first | refine sT ?_ | refine sQ ?_ ?_ | intro hc | exact trivial)
  all_goals first | (exfalso; omega) | exact jK rfl ⟨by rw [ji, if_neg (by omega)], rfl⟩
def qH (most : Int) (j : Job) (t : Nat) : Job := { j with start := if j.steps = 0 then (t : Int) else j.start, steps := j.steps + 1, fin := if j.steps + 1 = most then (t : Int) + 1 else j.fin }
def jy (most : Int) : Nat -> List Int -> Job -> Nat -> List Int × Job
 | 0, T, j, t => (T, j)
 | n + 1, T, j, t => if j.steps < most then (if T.getD t default = -1 then jy most n (T.set t j.task) (qH most j t) (t + 1) else jy most n T j (t + 1)) else (T, j)
def x8 (N : Nat) (j : Job) : Job := { j with missed := decide ((j.fin < 0 ∨ j.deadline < j.fin) ∧ j.deadline < N) }
def zc (dm : List (List Int)) (T : List Int) (j : Job) : List Int × Job :=
 let r := jy (ji dm j.task j.no) (T.length - j.release.toNat) T j j.release.toNat
 (r.1, x8 T.length r.2)
theorem zR (most : Int) : ∀ (n : Nat) (T : List Int) (j : Job) (t : Nat), (jy most n T j t).1.length = T.length
 | 0, _, _, _ => rfl
 | n + 1, T, j, t => by
  rw [jy]
  split
  ·split
   ·rw [zR most n]; simp
   ·exact zR most n T j (t + 1)
  ·rfl
set_option maxHeartbeats 4000000 in
theorem j0x (l : List Task) (dm : List (List Int)) (T : List Int) (m1 : List (Int × Job)) (m2 : List (Int × Due)) (j : Job) (hi : 0 <= j.task) (hn : 0 <= j.no) (hr : 0 <= j.release ∧ j.release <= T.length) (hT : T.length <= 100000) (hs : j.steps = 0) (hm : j.missed = false) :
  FnH Tryz.prog 126 [.ptr 0 0, .agg (vX j)] (bdH l dm T m1 m2) (fun r h' => r = .agg (vX (zc dm T j).2) ∧ h' = bdH l dm (zc dm T j).1 m1 m2) := by
 refine FnH.drop' (qo Tryz.func126 (j5 (by kernel_rfl)) rfl rfl ?_)
 repeat' (first | refine sA ?_ | (show O _ _ _ _ _ _ _; first | (show O _ _ _ _ (⟨_, .box _ _, _, _, _, _⟩ :: _) _ _; first | refine wx (id := 10) rfl rfl rfl rfl rfl rfl rfl rfl ?_) | refine jR (id := 11) rfl rfl rfl rfl rfl rfl rfl ?_) | ((first | apply kM | apply kN); (iterate 3 (· exact rfl)); (· first | exact yab)) | refine sG ?_ | refine sQ ?_ ?_ | intro hc | exact trivial)
 refine jL (fun i => i) (Zl l dm T m1 m2 j.task j.no hi hn) rfl rfl leh rfl rfl rfl rfl rfl rfl (fun r h' hR => ?_)
 obtain ⟨rfl, rfl⟩ := hR
 refine ⟨rfl, rfl, ?_⟩
 obtain ⟨t0, ht0⟩ : ∃ t0 : Nat, j.release = t0 := ⟨j.release.toNat, by omega⟩
 obtain ⟨most, hmost⟩ : ∃ most, most = ji dm j.task j.no := ⟨_, rfl⟩
 rw [<- hmost]
 repeat' (first | refine sT ?_ | refine sQ ?_ ?_ | intro hc | exact trivial)
 have e0 : zc dm T j = ((jy most (T.length - t0) T j t0).1, x8 T.length (jy most (T.length - t0) T j t0).2) := by
  rw [zc, hmost, ht0]; simp
 rw [e0]
 refine jk (fun z : Nat × List Int × Job => ([(0, .ptr 0 0), (3, .ptr 10 0), (4, .ptr 11 0), (5, .int .i64 most), (6, .int .i64 z.1)], bdH l dm z.2.1 m1 m2 ++ [(10, .blk 71 (vX z.2.2)), (11, .blk 71 (vX ⟨0, 0, 0, 0, 0, 0, 0, false⟩))]))
  (fun z => z.1 <= T.length ∧ z.2.1.length = T.length ∧ z.2.2.task = j.task ∧ 0 <= z.2.2.steps ∧ z.2.2.steps <= z.1 ∧ jy most (T.length - z.1) z.2.1 z.2.2 z.1 = jy most (T.length - t0) T j t0) (fun z => T.length - z.1) (t0, T, j) ⟨by simp only; omega, rfl, rfl, by simp only [hs]; omega, by simp only [hs]; omega, rfl⟩ (by simp only [<- ht0]; exact les) leh (fun z hz => ?_)
 obtain ⟨t, T', j'⟩ := z
 obtain ⟨h1, h2, h3, h4, h5, h6⟩ := hz
 simp only at h1 h2 h3 h4 h5 h6 ⊢
 rw [<- h6]
 by_cases hgo : t < T.length ∧ j'.steps < most
 ·have e1 : T.length - t = (T.length - (t + 1)) + 1 := by omega
  by_cases hT1 : T'.getD t default = -1
  ·rw [e1, jy, if_pos hgo.2, if_pos hT1] at h6 ⊢
   by_cases hs0 : j'.steps = 0
   ·by_cases hs1 : j'.steps + 1 = most
    ·have e2 : qH most j' t = ⟨j'.task, j'.no, j'.release, j'.deadline, (t : Int), (t : Int) + 1, j'.steps + 1, j'.missed⟩ := by simp only [qH, if_pos hs0, if_pos hs1]
     rw [e2] at h6 ⊢
     repeat' (first | refine ve rfl (by kernel_rfl) (by kernel_rfl) (by kernel_rfl) ?_ | refine sA ?_ | refine sY ?_ | (show F _ _ _ _ _ _ _ _ _ _ _; first | refine yj ?_ | (apply yn; (· exact rfl); (· exact rfl); (· first | exact yp)) | refine wI (x' := j'.task) rfl rfl rfl rfl rfl rfl rfl rfl rfl (by (first | rfl | omega | (simp only [List.length_set]; omega) | simp only [List.length_set])) (by (first | rfl | omega | (simp only [List.length_set]; omega) | simp only [List.length_set])) ?_ | (apply f_k; (· exact rfl); (· intro y' hy'; first | exact ya))) | refine sG ?_ | refine sQ ?_ ?_ | intro hc | exact trivial)
     all_goals first | (exfalso; omega) | skip
     exact ⟨(t + 1, T'.set t j'.task, ⟨j'.task, j'.no, j'.release, j'.deadline, (t : Int), (t : Int) + 1, j'.steps + 1, j'.missed⟩), ⟨by simp only; omega, by simp only [List.length_set]; exact h2, h3, by simp only; omega, by simp only; omega, rfl⟩, by simp only; omega, les, leh⟩
    ·have e2 : qH most j' t = ⟨j'.task, j'.no, j'.release, j'.deadline, (t : Int), j'.fin, j'.steps + 1, j'.missed⟩ := by simp only [qH, if_pos hs0, if_neg hs1]
     rw [e2] at h6 ⊢
     repeat' (first | refine ve rfl (by kernel_rfl) (by kernel_rfl) (by kernel_rfl) ?_ | refine sA ?_ | refine sY ?_ | (show F _ _ _ _ _ _ _ _ _ _ _; first | refine yj ?_ | (apply yn; (· exact rfl); (· exact rfl); (· first | exact yp)) | refine wI (x' := j'.task) rfl rfl rfl rfl rfl rfl rfl rfl rfl (by (first | rfl | omega | (simp only [List.length_set]; omega) | simp only [List.length_set])) (by (first | rfl | omega | (simp only [List.length_set]; omega) | simp only [List.length_set])) ?_ | (apply f_k; (· exact rfl); (· intro y' hy'; first | exact ya))) | refine sG ?_ | refine sQ ?_ ?_ | intro hc | exact trivial)
     all_goals first | (exfalso; omega) | skip
     exact ⟨(t + 1, T'.set t j'.task, ⟨j'.task, j'.no, j'.release, j'.deadline, (t : Int), j'.fin, j'.steps + 1, j'.missed⟩), ⟨by simp only; omega, by simp only [List.length_set]; exact h2, h3, by simp only; omega, by simp only; omega, rfl⟩, by simp only; omega, les, leh⟩
   ·by_cases hs1 : j'.steps + 1 = most
    ·have e2 : qH most j' t = ⟨j'.task, j'.no, j'.release, j'.deadline, j'.start, (t : Int) + 1, j'.steps + 1, j'.missed⟩ := by simp only [qH, if_neg hs0, if_pos hs1]
     rw [e2] at h6 ⊢
     repeat' (first | refine ve rfl (by kernel_rfl) (by kernel_rfl) (by kernel_rfl) ?_ | refine sA ?_ | refine sY ?_ | (show F _ _ _ _ _ _ _ _ _ _ _; first | refine yj ?_ | (apply yn; (· exact rfl); (· exact rfl); (· first | exact yp)) | refine wI (x' := j'.task) rfl rfl rfl rfl rfl rfl rfl rfl rfl (by (first | rfl | omega | (simp only [List.length_set]; omega) | simp only [List.length_set])) (by (first | rfl | omega | (simp only [List.length_set]; omega) | simp only [List.length_set])) ?_ | (apply f_k; (· exact rfl); (· intro y' hy'; first | exact ya))) | refine sG ?_ | refine sQ ?_ ?_ | intro hc | exact trivial)
     all_goals first | (exfalso; omega) | skip
     exact ⟨(t + 1, T'.set t j'.task, ⟨j'.task, j'.no, j'.release, j'.deadline, j'.start, (t : Int) + 1, j'.steps + 1, j'.missed⟩), ⟨by simp only; omega, by simp only [List.length_set]; exact h2, h3, by simp only; omega, by simp only; omega, rfl⟩, by simp only; omega, les, leh⟩
    ·have e2 : qH most j' t = ⟨j'.task, j'.no, j'.release, j'.deadline, j'.start, j'.fin, j'.steps + 1, j'.missed⟩ := by simp only [qH, if_neg hs0, if_neg hs1]
     rw [e2] at h6 ⊢
     repeat' (first | refine ve rfl (by kernel_rfl) (by kernel_rfl) (by kernel_rfl) ?_ | refine sA ?_ | refine sY ?_ | (show F _ _ _ _ _ _ _ _ _ _ _; first | refine yj ?_ | (apply yn; (· exact rfl); (· exact rfl); (· first | exact yp)) | refine wI (x' := j'.task) rfl rfl rfl rfl rfl rfl rfl rfl rfl (by (first | rfl | omega | (simp only [List.length_set]; omega) | simp only [List.length_set])) (by (first | rfl | omega | (simp only [List.length_set]; omega) | simp only [List.length_set])) ?_ | (apply f_k; (· exact rfl); (· intro y' hy'; first | exact ya))) | refine sG ?_ | refine sQ ?_ ?_ | intro hc | exact trivial)
     all_goals first | (exfalso; omega) | skip
     exact ⟨(t + 1, T'.set t j'.task, ⟨j'.task, j'.no, j'.release, j'.deadline, j'.start, j'.fin, j'.steps + 1, j'.missed⟩), ⟨by simp only; omega, by simp only [List.length_set]; exact h2, h3, by simp only; omega, by simp only; omega, rfl⟩, by simp only; omega, les, leh⟩
  ·rw [e1, jy, if_pos hgo.2, if_neg hT1] at h6 ⊢
   repeat' (first | refine sT ?_ | refine sQ ?_ ?_ | intro hc | exact trivial)
   all_goals first | (exfalso; omega) | skip
   exact ⟨(t + 1, T', j'), ⟨by simp only; omega, h2, h3, h4, by simp only; omega, rfl⟩, by simp only; omega, les, leh⟩
 ·have e3 : jy most (T.length - t) T' j' t = (T', j') := by
   cases hn : T.length - t with
   | zero => rfl
   | succ n => rw [jy, if_neg (by omega)]
  rw [e3]
  simp only
  have e5 : ∀ b, b = decide ((j'.fin < 0 ∨ j'.deadline < j'.fin) ∧ j'.deadline < T.length) -> AV.agg (vX { j' with missed := b }) = AV.agg (vX (x8 T.length j')) := by rintro _ rfl; rfl
  repeat' (first | refine sU ?_ | refine sQ ?_ ?_ | intro hc | exact trivial)
  all_goals first | (exfalso; omega) | skip
  all_goals refine zt (H := fun y : Bool => bdH l dm T' m1 m2 ++ [(10, .blk 71 [.int .i64 j'.task, .int .i64 j'.no, .int .i64 j'.release, .int .i64 j'.deadline, .int .i64 j'.start, .int .i64 j'.fin, .int .i64 j'.steps, .bool y]), (11, .blk 71 (vX ⟨0, 0, 0, 0, 0, 0, 0, false⟩))]) (ok := fun _ => True) (tn := [12]) (ln := []) j'.missed leh (by kernel_rfl) (by kernel_rfl) (by kernel_rfl) trivial ?_
  all_goals repeat' (first | refine sA ?_ | refine sY ?_ | (show C _ _ _ _ _ _ _ _ _ _ _; first | refine JZ ?_ | (apply xj; (· exact rfl); (· exact rfl); (· intro y' hy'; first | exact ya)) | (apply JI; (· exact rfl); (· exact rfl); (· exact rfl); (· first | exact ya)) | refine wP rfl rfl rfl ?_) | refine sG ?_ | ((first | refine kQ rfl rfl ?_ ?_ | refine kR rfl rfl rfl rfl rfl ?_ ?_ | refine kS rfl rfl rfl ?_ ?_ | refine xh rfl rfl rfl ?_ ?_) <;> intro hc <;> (try simp only [KL, sL, reduceCtorEq] at hc) <;> (try (have hT : True := hc; clear hT hc)) <;> (try (exfalso; omega))))
  all_goals first | (refine Yl (x' := false) rfl rfl trivial (TuO.post (xV (VP rfl rfl rfl rfl rfl rfl (Nat.le_of_ble_eq_true rfl)) rfl) ?_) ?_; (· repeat' (first | exact LeH.nil _ | refine LeH.cons ?_ ?_ | rfl))) | (refine Yl (x' := decide (j'.deadline < (T'.length : Int))) rfl rfl trivial (TuO.post (xV (VP rfl rfl rfl rfl rfl rfl (Nat.le_of_ble_eq_true rfl)) rfl) ?_) ?_; (· repeat' (first | exact LeH.nil _ | refine LeH.cons ?_ ?_ | rfl)))
  all_goals repeat' (first | refine sA ?_ | refine sY ?_ | (show C _ _ _ _ _ _ _ _ _ _ _; first | refine JZ ?_ | (apply xj; (· exact rfl); (· exact rfl); (· intro y' hy'; first | exact ya)) | (apply JI; (· exact rfl); (· exact rfl); (· exact rfl); (· first | exact ya)) | refine wP rfl rfl rfl ?_) | refine sG ?_ | ((first | refine kQ rfl rfl ?_ ?_ | refine kR rfl rfl rfl rfl rfl ?_ ?_ | refine kS rfl rfl rfl ?_ ?_ | refine xh rfl rfl rfl ?_ ?_) <;> intro hc <;> (try simp only [KL, sL, reduceCtorEq] at hc) <;> (try (have hT : True := hc; clear hT hc)) <;> (try (exfalso; omega))))
  all_goals first | exact jK rfl ⟨bdH l dm T' m1 m2, leh, e5 (false) (by rw [Bool.eq_iff_iff]; (try simp only [cond_true, cond_false, decide_eq_true_eq, Bool.not_eq_true', decide_eq_false_iff_not, Bool.and_eq_true, Bool.or_eq_true, true_iff, false_iff, iff_true, iff_false, Bool.false_eq_true, Bool.not_true, Bool.not_false, reduceCtorEq]); (first | done | omega | (constructor <;> intros <;> omega))), rfl⟩ | exact jK rfl ⟨bdH l dm T' m1 m2, leh, e5 (decide (j'.deadline < (T'.length : Int))) (by rw [Bool.eq_iff_iff]; (try simp only [cond_true, cond_false, decide_eq_true_eq, Bool.not_eq_true', decide_eq_false_iff_not, Bool.and_eq_true, Bool.or_eq_true, true_iff, false_iff, iff_true, iff_false, Bool.false_eq_true, Bool.not_true, Bool.not_false, reduceCtorEq]); (first | done | omega | (constructor <;> intros <;> omega))), rfl⟩
open Go.RowKit
open Go.RowKit
end Go.Proofs.YtfjoaeghnfkdlaaGreatDoor
