/- Maps from integers, of the call's own. No condition. -/
import Derived.Test.YtfjoaeghnfkdlaaAvDrN
import Derived.MapKept
namespace Go.Proofs.Ytfjoaeghnfkdlaa
set_option linter.unusedSimpArgs false
set_option linter.unusedVariables false
set_option maxRecDepth 100000
set_option linter.unusedVariables false
set_option linter.unusedSimpArgs false
open Go.RowKit Go.MapKept
section
variable {α : Type}
def getM : List (Int × α) → Int → Option α
  | [], _ => none
  | (k', v) :: r, k => if k' = k then some v else getM r k
def setM : List (Int × α) → Int → α → List (Int × α)
  | [], k, x => [(k, x)]
  | (k', v) :: r, k, x => if k' = k then (k, x) :: r else (k', v) :: setM r k x
def delM : List (Int × α) → Int → List (Int × α)
  | [], _ => []
  | (k', v) :: r, k => if k' = k then r else (k', v) :: delM r k
def noK (m : List (Int × α)) (k : Int) : Prop := ∀ p ∈ m, p.1 ≠ k
theorem noK_nil (k : Int) : noK ([] : List (Int × α)) k := fun p hp => by cases hp
theorem noK_cons {k' : Int} {v : α} {m : List (Int × α)} {k : Int} (h1 : k' ≠ k) (h2 : noK m k) : noK ((k', v) :: m) k := fun p hp => by
  rcases List.mem_cons.1 hp with rfl | hp
  · exact h1
  · exact h2 p hp
theorem getM_no {m : List (Int × α)} {k : Int} (h : noK m k) : getM m k = none := by
  induction m with
  | nil => rfl
  | cons p r ih =>
    obtain ⟨k', v⟩ := p
    rw [getM, if_neg (h (k', v) List.mem_cons_self)]
    exact ih fun q hq => h q (List.mem_cons_of_mem _ hq)
theorem setM_no {m : List (Int × α)} {k : Int} {x : α} (h : noK m k) : setM m k x = m ++ [(k, x)] := by
  induction m with
  | nil => rfl
  | cons p r ih =>
    obtain ⟨k', v⟩ := p
    rw [setM, if_neg (h (k', v) List.mem_cons_self), ih fun q hq => h q (List.mem_cons_of_mem _ hq)]
    rfl
theorem delM_no {m : List (Int × α)} {k : Int} (h : noK m k) : delM m k = m := by
  induction m with
  | nil => rfl
  | cons p r ih =>
    obtain ⟨k', v⟩ := p
    rw [delM, if_neg (h (k', v) List.mem_cons_self), ih fun q hq => h q (List.mem_cons_of_mem _ hq)]
theorem M_at {m1 m2 : List (Int × α)} {k : Int} {v : α} (h : noK m1 k) (x : α) : getM (m1 ++ (k, v) :: m2) k = some v ∧ setM (m1 ++ (k, v) :: m2) k x = m1 ++ (k, x) :: m2 ∧ delM (m1 ++ (k, v) :: m2) k = m1 ++ m2 := by
  induction m1 with
  | nil => simp [getM, setM, delM]
  | cons p r ih =>
    obtain ⟨k', v'⟩ := p
    have h1 := h (k', v') List.mem_cons_self
    obtain ⟨h2, h3, h4⟩ := ih fun q hq => h q (List.mem_cons_of_mem _ hq)
    simp only [List.cons_append, getM, setM, delM, if_neg h1, h2, h3, h4, and_self]
/-- A map's entries. -/
def ME (σ : Sig) (f : α → AV) : List MapEntry → List (Int × α) → Prop
  | [], [] => True
  | e :: es, p :: m => e.key = .int .i64 p.1 ∧ VR0 σ (f p.2) e.val ∧ ME σ f es m
  | _, _ => False
theorem ME.mono {σ σ' : Sig} {f : α → AV} (hs : Sig.le σ σ') : ∀ {es : List MapEntry} {m : List (Int × α)}, ME σ f es m → ME σ' f es m
  | [], [], _ => trivial
  | [], _ :: _, h => h.elim
  | _ :: _, [], h => h.elim
  | _ :: _, _ :: _, ⟨h1, h2, h3⟩ => ⟨h1, h2.mono hs, ME.mono hs h3⟩
theorem ME.app {σ : Sig} {f : α → AV} : ∀ {es es' : List MapEntry} {m m' : List (Int × α)}, ME σ f es m → ME σ f es' m' → ME σ f (es ++ es') (m ++ m')
  | [], _, [], _, _, h => h
  | [], _, _ :: _, _, h, _ => h.elim
  | _ :: _, _, [], _, h, _ => h.elim
  | _ :: _, _, _ :: _, _, ⟨h1, h2, h3⟩, h => ⟨h1, h2, ME.app h3 h⟩
theorem ME.keys {σ : Sig} {f : α → AV} : ∀ {es : List MapEntry} {m : List (Int × α)}, ME σ f es m → ∀ x ∈ es, IsKey (.int .i64) x.key
  | [], [], _, x, hx => by cases hx
  | [], _ :: _, h, _, _ => h.elim
  | _ :: _, [], h, _, _ => h.elim
  | e :: es, p :: m, ⟨h1, _, h3⟩, x, hx => by
    rcases List.mem_cons.1 hx with rfl | hx
    · rw [h1]; rfl
    · exact ME.keys h3 x hx
/-- Where a key stands. -/
theorem ME.find {σ : Sig} {f : α → AV} (k : Int) : ∀ {es : List MapEntry} {m : List (Int × α)} (i : Nat), ME σ f es m →
    (Instr.findNow (.int .i64) (.int .i64 k) es i = some none ∧ noK m k) ∨
    ∃ e1 e e2 m1 v m2, es = e1 ++ e :: e2 ∧ m = m1 ++ (k, v) :: m2 ∧ e1.length = m1.length ∧ noK m1 k ∧ ME σ f e1 m1 ∧ ME σ f e2 m2 ∧ e.key = .int .i64 k ∧ VR0 σ (f v) e.val ∧ Instr.findNow (.int .i64) (.int .i64 k) es i = some (some (i + e1.length, e.val))
  | [], [], i, _ => .inl ⟨rfl, noK_nil k⟩
  | [], _ :: _, _, h => h.elim
  | _ :: _, [], _, h => h.elim
  | e :: es, (k', v) :: m, i, ⟨h1, h2, h3⟩ => by
    simp only at h1 h2
    by_cases hk : k' = k
    · subst hk
      exact .inr ⟨[], e, es, [], v, m, rfl, rfl, rfl, noK_nil _, trivial, h3, h1, h2, by simp [Instr.findNow, h1, Instr.sameNow]⟩
    · rcases ME.find k (i + 1) h3 with ⟨g1, g2⟩ | ⟨e1, e', e2, m1, v', m2, rfl, rfl, g3, g4, g5, g6, g7, g8, g9⟩
      · refine .inl ⟨?_, noK_cons hk g2⟩
        rw [Instr.findNow, h1]
        simp only [Instr.sameNow, if_true]
        rw [show ((k == k') : Bool) = false by simp; exact fun e => hk e.symm]
        exact g1
      · refine .inr ⟨e :: e1, e', e2, (k', v) :: m1, v', m2, rfl, rfl, by simp [g3], noK_cons hk g4, ⟨h1, h2, g5⟩, g6, g7, g8, ?_⟩
        rw [Instr.findNow, h1]
        simp only [Instr.sameNow, if_true]
        rw [show ((k == k') : Bool) = false by simp; exact fun e => hk e.symm]
        simp only
        rw [g9, List.length_cons, Nat.add_assoc, Nat.add_comm 1]
def mapR (f : α → AV) (m : List (Int × α)) (σ : Sig) (H : Array Obj) (v : Value) : Prop := ∃ b es clock, v = .map (some b) ∧ H[b]? = some (.map es clock) ∧ ME σ f es.toList m
def mapC (f : α → AV) (m : List (Int × α)) : SemC where
  rel := mapR f m
  keep := fun σ σ' H H' v ⟨b, es, clock, h1, h2, h3⟩ hs hw => ⟨b, es, clock, h1, by rw [hw b (.inl (by rw [h1]; rfl))]; exact h2, h3.mono hs⟩
  lt := fun σ H v g ⟨b, es, clock, h1, h2, _⟩ hg => by
    have hg := hg.one (fun vs e => by rw [h1] at e; cases e)
    rw [h1] at hg; simp only [footOf, Option.some.injEq] at hg; subst hg
    exact (Array.getElem?_eq_some_iff.1 h2).1
end
theorem modify_at {β : Type} (l1 : List β) (x : β) (l2 : List β) (f : β → β) : (l1 ++ x :: l2).modify l1.length f = l1 ++ f x :: l2 := by
  induction l1 with
  | nil => rfl
  | cons y l1 ih => rw [List.cons_append, List.length_cons, List.modify_succ_cons, ih]; rfl
theorem erase_at {β : Type} (l1 : List β) (x : β) (l2 : List β) : (l1 ++ x :: l2).eraseIdx l1.length = l1 ++ l2 := by
  induction l1 with
  | nil => rfl
  | cons y l1 ih => rw [List.cons_append, List.length_cons, List.eraseIdx_cons_succ, ih]; rfl
/-- The type of a map from integers. -/
def mapE (P : Program) (t : TypeId) : Option (TypeId × TypeId) := match P.underlying t with
  | some (.map k e) => match P.underlying k with
    | some (.int .i64) => some (k, e)
    | _ => none
  | _ => none
theorem mapE_spec {P : Program} {t k e : TypeId} (h : mapE P t = some (k, e)) : P.underlying t = some (.map k e) ∧ P.underlying k = some (.int .i64) := by
  unfold mapE at h
  split at h
  · rename_i k' e' hu
    split at h
    · rename_i hk; cases h; exact ⟨hu, hk⟩
    · cases h
  · cases h
section
variable {P : Program} {n : Md} {Q : Exit → Slots → Heap → Prop} {s : Slots} {h : Heap} {ops : Array Oper} {rest : List Oper} {o : Oper}
theorem Rel.mapNew {α : Type} {E : Env} {σ : Sig} {ι : Nat → Value} {w : World} (hr : Rel E σ ι h w) {f : α → AV} {m m' : List (Int × α)} {id b clock' : Nat} {es' : Array MapEntry} (hg : hget h id = some (.sem (mapC f m))) (hb : ι id = .map (some b)) (hlt : b < w.heap.size)
    (hE : ME σ f es'.toList m') : Rel E σ ι ((id, .sem (mapC f m')) :: h) { w with heap := w.heap.setIfInBounds b (.map es' clock') } := by
  have hsame : upd ι id (ι id) = ι := by funext i; unfold upd; split <;> simp_all
  have hnew := hr.turn (id := id) (u := ι id) (h' := (id, .sem (mapC f m')) :: h) (c' := .sem (mapC f m')) (w' := { w with heap := w.heap.setIfInBounds b (.map es' clock') })
    (fun i c hi hc => by rw [hget_cons, if_neg (fun e => hi e.symm)] at hc; exact ⟨hc, .inl rfl⟩) (by rw [hget_cons, if_pos rfl])
    (by rw [hsame]; exact ⟨b, es', clock', hb, by simp [hlt], hE⟩)
    rfl rfl rfl (by simp) (fun k hk hne => by
      have : k ≠ b := fun e => hne _ hg (by rw [hb, e]; rfl)
      simp [Ne.symm this])
    (fun g2 hg2 => .inl ⟨_, hg, hg2⟩) (.inr rfl)
  rw [hsame] at hnew
  exact hnew
/-- m[k] = x -/
theorem sto_map {α : Type} {f : α → AV} {m : List (Int × α)} {t kt et : TypeId} {x y z : Operand} {id : Nat} {k : Int} (a : α) (ho : o.op = .mapUpdate t x y z) (ht : mapE P t = some (kt, et)) (hx : evA s x = .own id) (hg : hget h id = some (.sem (mapC f m))) (hy : evA s y = .int .i64 k)
    (hz : evA s z = f a) (hp : pureA (f a) = true) : StO P o s h ((id, .sem (mapC f (setM m k a))) :: h) := fun E σ ι act w hr hop => by
  have hX : VR σ ι (evA s x) (act.eval x) := hop x (by rw [ho]; simp [Op.operands])
  have hY : VR σ ι (evA s y) (act.eval y) := hop y (by rw [ho]; simp [Op.operands])
  have hZ : VR σ ι (evA s z) (act.eval z) := hop z (by rw [ho]; simp [Op.operands])
  rw [hx] at hX
  rw [hy] at hY
  rw [hz] at hZ
  obtain ⟨hm, hd⟩ := mapE_spec ht
  obtain ⟨b, es, clock, h1, h2, h3⟩ := hr.ch id _ hg
  have hlt : b < w.heap.size := (Array.getElem?_eq_some_iff.1 h2).1
  have hV := hZ.pure hp
  have ex := hX.own_inv.trans h1
  have ey := hY.int_inv.1
  have hik : IsKey (.int .i64) (.int .i64 k) := rfl
  rcases h3.find k 0 with ⟨g1, g2⟩ | ⟨e1, e, e2, m1, v, m2, ges, rfl, g3, g4, g5, g6, g7, g8, g9⟩
  · refine ⟨{ w with heap := w.heap.setIfInBounds b (.map (es.push { key := .int .i64 k, val := act.eval z, born := clock }) (clock + 1)) }, ?_, hr.mapNew hg h1 hlt ?_⟩
    · simp [execOp, ho, ex, ey, Instr.mapUpdate, run_underlying hm, Go.MapKept.run_getObj_map h2, Go.MapKept.run_checkKey hd hik, Go.MapKept.run_findKey hd g1, Go.MapKept.run_setObj_map _ h2, Result.andThen]
    · rw [setM_no g2, Array.toList_push]
      exact h3.app ⟨rfl, hV, trivial⟩
  · rw [Nat.zero_add] at g9
    have hj : es[e1.length]? = some e := by rw [← Array.getElem?_toList, ges]; simp
    refine ⟨{ w with heap := w.heap.setIfInBounds b (.map (es.modify e1.length fun e => { e with key := .int .i64 k, val := act.eval z }) clock) }, ?_, hr.mapNew hg h1 hlt ?_⟩
    · simp [execOp, ho, ex, ey, Instr.mapUpdate, run_underlying hm, Go.MapKept.run_getObj_map h2, Go.MapKept.run_checkKey hd hik, Go.MapKept.run_findKey hd g9, hj, g7, Go.MapKept.run_keyThatStays hik, Go.MapKept.run_setObj_map _ h2, Result.andThen]
    · rw [(M_at g4 a).2.1]
      have hmod : (es.modify e1.length fun e => { e with key := .int .i64 k, val := act.eval z }).toList = e1 ++ { e with key := .int .i64 k, val := act.eval z } :: e2 := by
        rw [Array.toList_modify, ges]
        exact modify_at e1 e e2 _
      rw [hmod]
      exact g5.app ⟨rfl, hV, g6⟩
theorem ao_sto {h' : Heap} (hs : StO P o s h h') (hd : o.dst = none) (hgd : o.guard = none) (hco : constsOk o = true) (hk : O P n ops Q rest s h') : O P n ops Q (o :: rest) s h := ⟨aops_one hgd fun E σ ι a w hr ht => by
  obtain ⟨w', h1, h2⟩ := hs E σ ι a w hr (fun x hx => evA_sound (List.all_eq_true.1 hco x hx) fun t _ => ht.at_ t)
  unfold Oper.wp
  rw [h1, Oper.upon_skip, hd]
  exact hk.out E σ ι a w' h2 ht⟩
/-- make(map[..]..) -/
theorem ao_mm {α : Type} {t : TypeId} (id : Nat) (f : α → AV) (ho : o.op = .makeMap t none) (hf : freshAll id s h = true) (hgd : o.guard = none) (hdo : dstOk n o.dst = true)
    (hk : O P n ops Q rest (putS s o.dst (.own id)) ((id, .sem (mapC f [])) :: h)) : O P n ops Q (o :: rest) s h := ⟨aops_one hgd fun E σ ι a w hr ht => by
  simp only [freshAll, Bool.and_eq_true, Nat.ble_eq] at hf
  unfold Oper.wp
  have hrun : (execOp a.eval o).run P w = .ok (.value (.map (some w.heap.size))) (w.alloc (.map #[] 0)) := by
    simp [execOp, ho, Instr.makeMap, Result.andThen]
  rw [hrun]
  have hkeep : ∀ g, g < w.heap.size → (w.alloc (.map #[] 0)).heap[g]? = w.heap[g]? := fun g hg => Below.heap_alloc _ _ _ hg
  have hnew := hr.turn (id := id) (u := .map (some w.heap.size)) (h' := (id, .sem (mapC f [])) :: h) (c' := .sem (mapC f [])) (w' := w.alloc (.map #[] 0))
    (fun i c hi hc => by
      rw [hget_cons, if_neg (fun e => hi e.symm)] at hc
      exact ⟨hc, .inr (freshH_get hf.2 i c hc).2⟩)
    (by rw [hget_cons, if_pos rfl])
    (by show mapR f [] _ _ _; rw [upd_eq]; exact ⟨w.heap.size, #[], 0, rfl, heap_alloc_new w _, trivial⟩)
    rfl rfl rfl (by simp) (fun k hk _ => hkeep k hk) (fun g hv => by cases hv; exact .inr (Nat.le_refl _)) (.inl hf.1.1)
  refine hk.out E σ _ _ _ hnew ((ht.upd hf.1.1 hf.1.2 _).putS hdo ?_)
  have h5 := VR.own (σ := σ) (ι := upd ι id (.map (some w.heap.size))) id (by rw [upd_eq]; rfl)
  rwa [upd_eq] at h5⟩
/-- m[k], with or without whether it is there. -/
theorem ok_lookup {α : Type} {f : α → AV} {m : List (Int × α)} {t kt et : TypeId} {x y : Operand} {cm : Bool} {id : Nat} {k : Int} {z0 : AV} (v : AV) (b : Bool) (ho : o.op = .lookup t x y cm) (ht : mapE P t = some (kt, et)) (hx : evA s x = .own id) (hg : hget h id = some (.sem (mapC f m))) (hy : evA s y = .int .i64 k)
    (hz : ∀ (w : World) (σ : Sig), ∃ z, (zeroValue et).run P w = .ok z w ∧ VR0 σ z0 z) (hv : (getM m k = none ∧ v = z0 ∧ b = false) ∨ ∃ a, getM m k = some a ∧ v = f a ∧ b = true) : OkO P o s h (if cm then .tup [v, .bool b] else v) := by
  refine ok_of_run fun E σ ι a w hr hop => ?_
  have hX : VR σ ι (evA s x) (a.eval x) := hop x (by rw [ho]; simp [Op.operands])
  have hY : VR σ ι (evA s y) (a.eval y) := hop y (by rw [ho]; simp [Op.operands])
  rw [hx] at hX
  rw [hy] at hY
  obtain ⟨hm, hd⟩ := mapE_spec ht
  obtain ⟨r, es, clock, h1, h2, h3⟩ := hr.ch id _ hg
  have ex := hX.own_inv.trans h1
  have ey := hY.int_inv.1
  have hik : IsKey (.int .i64) (.int .i64 k) := rfl
  have fin : ∀ u, VR0 σ v u → ∃ q, (if cm then Value.tuple #[u, .bool b] else u) = q ∧ VR σ ι (if cm then .tup [v, .bool b] else v) q := fun u hu => by
    refine ⟨_, rfl, ?_⟩
    cases cm with
    | false => exact .base _ _ hu
    | true =>
      have h4 : L2 (VR σ ι) [v, .bool b] [u, .bool b] := ((L2.nil _).cons (.base _ _ (.bool b))).cons (.base _ _ hu)
      exact .tup _ _ h4.1 h4.2
  rcases h3.find k 0 with ⟨g1, g2⟩ | ⟨e1, e, e2, m1, v', m2, ges, rfl, g3, g4, g5, g6, g7, g8, g9⟩
  · rcases hv with ⟨_, rfl, rfl⟩ | ⟨a', h4, _⟩
    · obtain ⟨z, hz1, hz2⟩ := hz w σ
      obtain ⟨q, hq1, hq2⟩ := fin z hz2
      refine ⟨q, ?_, hq2⟩
      rw [← hq1]
      simp [execOp, ho, ex, ey, Instr.lookup, run_underlying hm, Go.MapKept.run_getObj_map h2, Go.MapKept.run_checkKey hd hik, Go.MapKept.run_findKey hd g1, hz1, Result.andThen]
    · rw [getM_no g2] at h4; cases h4
  · have h5 := (M_at (m2 := m2) (v := v') g4 v').1
    rcases hv with ⟨h4, _⟩ | ⟨a', h4, rfl, rfl⟩
    · rw [h5] at h4; cases h4
    · rw [h5] at h4; cases h4
      obtain ⟨q, hq1, hq2⟩ := fin e.val g8
      refine ⟨q, ?_, hq2⟩
      rw [← hq1]
      simp [execOp, ho, ex, ey, Instr.lookup, run_underlying hm, Go.MapKept.run_getObj_map h2, Go.MapKept.run_checkKey hd hik, Go.MapKept.run_findKey hd g9, Result.andThen]
/-- delete(m, k) -/
theorem tu_delete {α : Type} {f : α → AV} {m : List (Int × α)} {t kt et t2 : TypeId} {x y : Operand} {id : Nat} {k : Int} (ho : o.op = .call { callee := .builtin .delete, args := #[x, y], argTypes := #[t, t2] }) (ht : mapE P t = some (kt, et)) (hx : evA s x = .own id) (hg : hget h id = some (.sem (mapC f m))) (hy : evA s y = .int .i64 k) :
    TuO P o s h ((id, .sem (mapC f (delM m k))) :: h) (.tup []) := fun E σ ι act w hr hop K Q hK => by
  have hX : VR σ ι (evA s x) (act.eval x) := hop x (by rw [ho]; simp [Op.operands, Call.operands])
  have hY : VR σ ι (evA s y) (act.eval y) := hop y (by rw [ho]; simp [Op.operands, Call.operands])
  rw [hx] at hX
  rw [hy] at hY
  obtain ⟨hm, hd⟩ := mapE_spec ht
  obtain ⟨b, es, clock, h1, h2, h3⟩ := hr.ch id _ hg
  have hlt : b < w.heap.size := (Array.getElem?_eq_some_iff.1 h2).1
  have ex := hX.own_inv.trans h1
  have ey := hY.int_inv.1
  have hik : IsKey (.int .i64) (.int .i64 k) := rfl
  obtain ⟨w', h4, h5⟩ : ∃ w', (execOp act.eval o).run P w = .ok (.value (.tuple #[])) w' ∧ Rel E σ ι ((id, .sem (mapC f (delM m k))) :: h) w' := by
    rcases h3.find k 0 with ⟨g1, g2⟩ | ⟨e1, e, e2, m1, v, m2, ges, rfl, g3, g4, g5, g6, g7, g8, g9⟩
    · refine ⟨{ w with heap := w.heap.setIfInBounds b (.map es clock) }, ?_, hr.mapNew hg h1 hlt (by rw [delM_no g2]; exact h3)⟩
      simp [execOp, ho, resolve, invoke, builtin, ex, ey, Builtin.delete_, run_underlying hm, Go.MapKept.run_getObj_map h2, Go.MapKept.run_checkKey hd hik, Go.MapKept.run_findKey hd g1, Go.MapKept.run_setObj_map _ h2, Result.andThen]
    · rw [Nat.zero_add] at g9
      refine ⟨{ w with heap := w.heap.setIfInBounds b (.map (es.eraseIdxIfInBounds e1.length) clock) }, ?_, hr.mapNew hg h1 hlt ?_⟩
      · simp [execOp, ho, resolve, invoke, builtin, ex, ey, Builtin.delete_, run_underlying hm, Go.MapKept.run_getObj_map h2, Go.MapKept.run_checkKey hd hik, Go.MapKept.run_findKey hd g9, Go.MapKept.run_setObj_map _ h2, Result.andThen]
      · rw [(M_at (m2 := m2) (v := v) g4 v).2.2]
        have hl : e1.length < es.size := by rw [← Array.length_toList, ges]; simp
        have her : (es.eraseIdxIfInBounds e1.length).toList = e1 ++ e2 := by
          unfold Array.eraseIdxIfInBounds
          rw [dif_pos hl, Array.toList_eraseIdx, ges]
          exact erase_at e1 e e2
        rw [her]
        exact g5.app g6
  unfold Oper.wp
  rw [h4]
  exact hK σ ι w' _ (Sig.le.refl σ) (fun _ _ _ t => t) h5 VR.tup0
theorem ao_tu {h' : Heap} {v : AV} (hs : TuO P o s h h' v) (hgd : o.guard = none) (hco : constsOk o = true) (hdo : dstOk n o.dst = true) (hk : O P n ops Q rest (putS s o.dst v) h') : O P n ops Q (o :: rest) s h := ⟨aops_one hgd fun E σ ι a w hr ht =>
  hs E σ ι a w hr (fun x hx => evA_sound (List.all_eq_true.1 hco x hx) fun t _ => ht.at_ t) _ _ fun σ' ι' w' u h1 h2 h3 h4 => hk.out E σ' ι' _ w' h3 ((h2 _ _ _ ht).putS hdo h4)⟩
/-- A nil slice in a cell of a block is a row of the call's own without elements. -/
theorem turn_ownJ {α : Type} (f : α → List AV) {b : Nat} {ty : TypeId} {cs : List AV} (j : Nat) (hg : hget h b = some (.blk ty cs)) (hj : cs[j]? = some .nils) (id : Nat) (e : TypeId) (sz : Nat) (hsz : 0 < sz) (hf : freshAll id s h = true) : Turns n s h s ((b, .blk ty (cs.set j (.own id))) :: (id, .row e sz (([] : List α).map f)) :: h) := by
  intro E σ ι a w hr ht
  simp only [freshAll, Bool.and_eq_true, Nat.ble_eq] at hf
  have hbi : b ≠ id := (freshH_get hf.2 b _ hg).1
  have r1 : Rel E σ (upd ι id (.slice none 0 0)) ((id, .row e sz (([] : List α).map f)) :: h) w := by
    refine hr.turn (c' := .row e sz []) ?_ (by rw [hget_cons, if_pos rfl]; rfl) ⟨hsz, by simp, [], by rw [upd_eq]; exact World.ownsRow_nil w 0 e sz, L2.nil _⟩ rfl rfl rfl (Nat.le_refl _) (fun _ _ _ => rfl) (fun g hg => by cases hg) (.inl hf.1.1)
    intro i c hi hc
    rw [hget_cons, if_neg (fun e => hi e.symm)] at hc
    exact ⟨hc, .inr (freshH_get hf.2 i c hc).2⟩
  have t1 := ht.upd hf.1.1 hf.1.2 (.slice none 0 0)
  have hown : VR σ (upd ι id (.slice none 0 0)) (.own id) (.slice none 0 0) := by
    have h4 := VR.own (σ := σ) (ι := upd ι id (.slice none 0 0)) id (by rw [upd_eq]; rfl)
    rwa [upd_eq] at h4
  generalize upd ι id (.slice none 0 0) = ι1 at *
  have hgb : hget ((id, .row e sz (([] : List α).map f)) :: h) b = some (.blk ty cs) := by rw [hget_cons, if_neg (fun e => hbi e.symm)]; exact hg
  obtain ⟨g, cur, e1, e2, e3⟩ := r1.ch b _ hgb
  have hsame : upd ι1 b (ι1 b) = ι1 := by funext i; unfold upd; split <;> simp_all
  have hnew := r1.turn (id := b) (u := ι1 b) (h' := (b, .blk ty (cs.set j (.own id))) :: (id, .row e sz (([] : List α).map f)) :: h) (c' := .blk ty (cs.set j (.own id))) (w' := w)
    (fun i c hi hc => by rw [hget_cons, if_neg (fun e => hi e.symm)] at hc; exact ⟨hc, .inl rfl⟩) (by rw [hget_cons, if_pos rfl])
    (by rw [hsame]; exact ⟨g, cur, e1, e2, by rw [List.length_set]; exact e3.1, fun k x y hx hy => by
      rw [List.getElem?_set] at hx
      by_cases hjk : j = k
      · subst hjk
        have h5 := e3.2 j .nils y hj hy
        have hjl := (List.getElem?_eq_some_iff.1 hj).1
        rw [if_pos rfl, if_pos hjl] at hx
        cases hx
        have h6 : y = .slice none 0 0 := by
          cases h5 with
          | base _ _ h0 => cases h0; rfl
        rw [h6]; exact hown
      · rw [if_neg hjk] at hx
        exact e3.2 k x y hx hy⟩)
    rfl rfl rfl (Nat.le_refl _) (fun _ _ _ => rfl) (fun g hv => .inl ⟨_, hgb, hv⟩) (.inr rfl)
  rw [hsame] at hnew
  exact ⟨σ, ι1, hnew, t1⟩
end
end Go.Proofs.Ytfjoaeghnfkdlaa
namespace Go.Proofs.Ytfjoaeghnfkdlaa
set_option linter.unusedSimpArgs false
set_option linter.unusedVariables false
set_option maxRecDepth 100000
open Go.RowKit Go.MapKept
theorem ok_lookI {P : Program} {s : Slots} {h : Heap} {o : Oper} {m : List (Int × Int)} {t kt et : TypeId} {x y : Operand} {id : Nat} {k : Int} (hz : ∀ (w : World) (σ : Sig), ∃ z, (zeroValue et).run P w = .ok z w ∧ VR0 σ (.int .i64 0) z)
    (ho : o.op = .lookup t x y false) (ht : mapE P t = some (kt, et)) (hx : evA s x = .own id) (hg : hget h id = some (.sem (mapC (fun n : Int => AV.int .i64 n) m))) (hy : evA s y = .int .i64 k) : OkO P o s h (.int .i64 ((getM m k).getD 0)) := by
  cases hm : getM m k with
  | none => exact ok_lookup (.int .i64 0) false ho ht hx hg hy hz (.inl ⟨hm, rfl, rfl⟩)
  | some a => exact ok_lookup (.int .i64 a) true ho ht hx hg hy hz (.inr ⟨a, hm, rfl, rfl⟩)
theorem z_int : ∀ (w : World) (σ : Sig), ∃ z, (zeroValue 3).run Try.prog w = .ok z w ∧ VR0 σ (.int .i64 0) z := fun w σ => ⟨.int .i64 0, rfl, .int _ _ (by simp only [rangeP]; omega)⟩
abbrev mI (m : List (Int × Int)) : Chunk := .sem (mapC (fun n : Int => AV.int .i64 n) m)
theorem getM_one (l : List Int) (t : Int) : getM (l.map fun x => (x, (1 : Int))) t = if t ∈ l then some 1 else none := by
  induction l with
  | nil => rfl
  | cons x r ih =>
    rw [List.map_cons, getM, ih]
    by_cases h : x = t
    · rw [if_pos h, if_pos (by rw [h]; exact List.mem_cons_self)]
    · rw [if_neg h]
      by_cases h2 : t ∈ r
      · rw [if_pos h2, if_pos (List.mem_cons_of_mem _ h2)]
      · rw [if_neg h2, if_neg (fun e => by rcases List.mem_cons.1 e with e | e; exact h e.symm; exact h2 e)]
theorem setM_one {l : List Int} {t : Int} (h : ¬ t ∈ l) : setM (l.map fun x => (x, (1 : Int))) t 1 = (l ++ [t]).map fun x => (x, (1 : Int)) := by
  rw [setM_no, List.map_append]; rfl
  intro p hp e
  obtain ⟨x, hx, rfl⟩ := List.mem_map.1 hp
  exact h (e ▸ hx)
end Go.Proofs.Ytfjoaeghnfkdlaa
