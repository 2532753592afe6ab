/- Rows of the call's own that are cut from the front, of elements of one cell: a queue. No condition. -/
import Derived.Test.YtfjoaeghnfkdlaaAvLend
namespace Go.Proofs.Ytfjoaeghnfkdlaa
set_option linter.unusedSimpArgs false
set_option linter.unusedVariables false
set_option maxRecDepth 100000
set_option linter.unusedVariables false
set_option linter.unusedSimpArgs false
open Go.RowKit
section
variable {P : Program} {n : Md} {Q : Exit → Slots → Heap → Prop} {s : Slots} {h : Heap} {ops : Array Oper} {rest : List Oper} {o : Oper} {K : Slots → Prop}
def tlR (e : TypeId) (xs : List AV) (σ : Sig) (H : Array Obj) (v : Value) : Prop :=
  ∃ g off cap cur, v = .slice (some ⟨g, off, none⟩) xs.length cap ∧ H[g]? = some (.cells cur e (0, 0)) ∧ xs.length ≤ cap ∧ cap ≤ maxLen ∧ off + cap ≤ cur.size ∧ L2 (VR0 σ) xs ((cur.toList.drop off).take xs.length)
def tlC (e : TypeId) (xs : List AV) : SemC where
  rel := tlR e xs
  keep := fun σ σ' H H' v ⟨g, off, cap, cur, h1, h2, h3, h4, h5, h6⟩ hs hw => ⟨g, off, cap, cur, h1, by rw [hw g (.inl (by rw [h1]; rfl))]; exact h2, h3, h4, h5, h6.mono fun _ _ h => h.mono hs⟩
  lt := fun σ H v g ⟨g', off, cap, cur, h1, h2, _⟩ hg => by
    have hg := hg.one (fun vs e => by rw [h1] at e; cases e)
    rw [h1] at hg; simp only [footOf, Option.some.injEq] at hg; subst hg
    exact (Array.getElem?_eq_some_iff.1 h2).1
theorem flat1 {α : Type} {f : α → List AV} {g : α → AV} (hf : ∀ x, f x = [g x]) (l : List α) : (l.map f).flatten = l.map g := by
  induction l with
  | nil => rfl
  | cons x xs ih => rw [List.map_cons, List.flatten_cons, hf, ih]; rfl
/-- A row that has elements, as a queue. -/
theorem turn_tl {α : Type} {f : α → List AV} {g : α → AV} {l : List α} {id : Nat} {e : TypeId} (hf : ∀ x, f x = [g x]) (hg : hget h id = some (.row e 1 (l.map f))) (hl : 0 < l.length) : Turns n s h s ((id, .sem (tlC e (l.map g))) :: h) := fun E σ ι a w hr ht => by
  obtain ⟨hsz0, hsz, vs, hown, hL⟩ := hr.ch id _ hg
  rcases hown.2 with ⟨h3, h4⟩ | ⟨gb, cap, cur, h3, _, h4, h5, h6, h7, h8⟩
  · rw [List.length_map] at h4; omega
  rw [flat1 hf] at hL
  rw [List.length_map, Nat.mul_one] at h8
  rw [Nat.mul_one] at h7
  rw [List.length_map] at h5 h3
  have hnew := hr.turn (id := id) (u := ι id) (h' := (id, .sem (tlC e (l.map g))) :: h) (c' := .sem (tlC e (l.map g))) (w' := w)
    (fun i c hi hc => by rw [hget_cons, if_neg (fun e => hi e.symm)] at hc; exact ⟨hc, .inl rfl⟩) (by rw [hget_cons, if_pos rfl])
    (by
      show tlR e (l.map g) σ w.heap (upd ι id (ι id) id)
      rw [upd_eq]
      exact ⟨gb, 0, cap, cur, by rw [h3, List.length_map], h4, by rw [List.length_map]; exact h5, h6, by omega, by rw [List.drop_zero, List.length_map, h8]; exact hL⟩)
    rfl rfl rfl (Nat.le_refl _) (fun _ _ _ => rfl) (fun g2 hg2 => .inl ⟨_, hg, hg2⟩) (.inr rfl)
  have hsame : upd ι id (ι id) = ι := by funext i; unfold upd; split <;> simp_all
  rw [hsame] at hnew
  exact ⟨σ, ι, hnew, ht⟩
theorem Rel.tl {E : Env} {σ : Sig} {ι : Nat → Value} {w : World} {id : Nat} {e : TypeId} {xs : List AV} (hr : Rel E σ ι h w) (hg : hget h id = some (.sem (tlC e xs))) : tlR e xs σ w.heap (ι id) := hr.ch id _ hg
/-- len -/
theorem q_lt {α : Type} {g : α → AV} {l : List α} {id : Nat} {t e e' : TypeId} {x : Operand} (ho : o.op = .call { callee := .builtin .len, args := #[x], argTypes := #[t] }) (ht : sliceE P t = some e) (hx : evA s x = .own id) (hg : hget h id = some (.sem (tlC e' (l.map g)))) :
    Y P o s h (.int .i64 l.length) := ⟨by
  refine ok_of_run fun E σ ι a w hr hv => ?_
  have hv := hv x (by rw [ho]; simp [Op.operands, Call.operands])
  rw [hx] at hv
  obtain ⟨gb, off, cap, cur, e1, e2, e3, e4, _⟩ := hr.tl hg
  have e5 := hv.own_inv.trans e1
  refine ⟨.int .i64 l.length, ?_, .base _ _ (.int _ _ ?_)⟩
  · simp [execOp, ho, resolve, invoke, builtin, Builtin.len_, run_underlying (sliceE_spec ht), e5, goInt]
  · simp only [maxLen, List.length_map] at e3 e4; simp only [rangeP]; omega⟩
/-- The first one is read. -/
theorem o_head {α : Type} {g : α → AV} {z : α} {l : List α} {t t2 e e' : TypeId} {x y : Operand} {d id : Nat} {k : IntKind} {o1 o2 : Oper} {side : Prop} {v : AV} (ho1 : o1.op = .indexAddr t x y) (ho2 : o2.op = .load t2 (.tmp d)) (hg1 : o1.guard = none) (hg2 : o2.guard = none) (hd1 : o1.dst = some d) (hd2 : dstOk n o2.dst = true) (hdn : Nat.blt d n.n = true)
    (hco : constsOk o1 = true) (ht : sliceE P t = some e) (hz : sizeQ P e 1 = true) (hx : evA s x = .own id) (hg : hget h id = some (.sem (tlC e' ((z :: l).map g)))) (hy : evA s y = .int k 0) (hc : cellsA P t2 [g z] = some (side, v)) (hside : side)
    (hk : O P n ops Q rest (putS ((d, .undef) :: s) o2.dst v) h) : O P n ops Q (o1 :: o2 :: rest) s h := ⟨aops_one hg1 fun E σ ι act w hr ht' => by
  have hX : VR σ ι (evA s x) (act.eval x) := evA_sound (List.all_eq_true.1 hco x (by rw [ho1]; simp [Op.operands])) fun t _ => ht'.at_ t
  have hY : VR σ ι (evA s y) (act.eval y) := evA_sound (List.all_eq_true.1 hco y (by rw [ho1]; simp [Op.operands])) fun t _ => ht'.at_ t
  rw [hx] at hX
  rw [hy] at hY
  obtain ⟨gb, off, cap, cur, e1, e2, e3, e4, e5, hL⟩ := hr.tl hg
  rw [List.length_map, List.length_cons] at e1 e3
  have e6 := hX.own_inv.trans e1
  have hrun : (execOp act.eval o1).run P w = .ok (.value (.pointer (some ⟨gb, off, none⟩))) w := by
    have h9 : (0 : Int) ≤ 0 ∧ (0 : Int) < ((l.length + 1 : Nat) : Int) := by omega
    simp only [execOp, ho1, e6, hY.int_inv.1, Instr.indexAt, asIntOf, Sem.run_bind, Sem.run_pure, Result.andThen_ok, run_underlying (sliceE_spec ht), h9, and_self, if_true, sizeQ_run hz, Int.toNat_zero, Nat.zero_mul, Go.WideShapes.add_plain, Nat.add_zero]
  unfold Oper.wp
  rw [hrun]
  show wpL n P ops _ (o2 :: rest) (act.put o1.dst (.pointer (some ⟨gb, off, none⟩))) w
  rw [hd1]
  obtain ⟨act2, hact⟩ : ∃ a2, a2 = act.put (some d) (.pointer (some ⟨gb, off, none⟩)) := ⟨_, rfl⟩
  rw [← hact]
  have hdn' : d < n.n := by simpa [Nat.blt_eq] using hdn
  have hev : act2.eval (.tmp d) = .pointer (some ⟨gb, off, none⟩) := by
    rw [hact]; simp [Act.eval, Act.put, Array.getD, ht'.size, hdn']
  have ht2 : TR n σ ι ((d, .undef) :: s) act2 := by rw [hact]; exact ht'.put hdn' (.base _ _ (.undef _))
  have hcells : Cells σ ι w gb off [g z] := fun j c hj => by
    match j, hj with
    | 0, hj =>
      simp at hj; subst hj
      obtain ⟨u, hu, hR⟩ := hL.get (show ((z :: l).map g)[0]? = some (g z) by simp)
      refine ⟨u, ?_, .base _ _ hR⟩
      rw [List.getElem?_take, if_pos (by simp), List.getElem?_drop] at hu
      simp only [World.cell?, e2, Option.isSome_none, Bool.false_eq_true, if_false, Nat.add_zero] at hu ⊢
      rw [← Array.getElem?_toList]; exact hu
    | j + 1, hj => simp at hj
  obtain ⟨u, h3, h4⟩ := run_load_cells (P := P) hcells hc hside
  have hrun2 : (execOp act2.eval o2).run P w = .ok (.value u) w := by
    simp only [execOp, ho2, hev, Instr.loadAt, Instr.sureAddr, Sem.run_bind, Sem.run_pure, Result.andThen_ok, h3]
  refine wpL_one hg2 ?_
  unfold Oper.wp
  rw [hrun2]
  exact hk.out E σ ι _ w hr (ht2.putS hd2 h4)⟩
/-- It is cut from the front. -/
theorem o_rest {α : Type} {g : α → AV} {z : α} {l : List α} {t e e' : TypeId} {x y : Operand} {id : Nat} {k : IntKind} (ho : o.op = .slice t x (some y) none none) (hgd : o.guard = none) (hco : constsOk o = true) (hd : dstOk n o.dst = true) (ht : sliceE P t = some e) (hz : sizeQ P e 1 = true) (hx : evA s x = .own id)
    (hg : hget h id = some (.sem (tlC e' ((z :: l).map g)))) (hy : evA s y = .int k 1) (h5 : Nat.ble 5 id = true) (hlo : loneH id h = true)
    (hk : O P n ops Q rest (putS (killS id s) o.dst (.own id)) ((id, .sem (tlC e' (l.map g))) :: h)) : O P n ops Q (o :: rest) s h := ⟨aops_one hgd fun E σ ι a w hr ht' => by
  have hX : VR σ ι (evA s x) (a.eval x) := evA_sound (List.all_eq_true.1 hco x (by rw [ho]; simp [Op.operands])) fun t _ => ht'.at_ t
  have hY : VR σ ι (evA s y) (a.eval y) := evA_sound (List.all_eq_true.1 hco y (by rw [ho]; simp [Op.operands])) fun t _ => ht'.at_ t
  rw [hx] at hX
  rw [hy] at hY
  obtain ⟨gb, off, cap, cur, e1, e2, e3, e4, e5, hL⟩ := hr.tl hg
  rw [List.length_map, List.length_cons] at e1 e3
  rw [List.map_cons, List.length_cons, List.length_map] at hL
  have e6 := hX.own_inv.trans e1
  obtain ⟨off', hoff⟩ : ∃ off', off' = if cap = 1 then off else off + 1 := ⟨_, rfl⟩
  have rb : ∀ c, (Instr.sliceBound (a.eval y) (l.length + 1) c).run P w = .ok 1 w := fun c => by
    have h9 : (0 : Int) ≤ (1 : Int) ∧ (1 : Int) ≤ ((l.length + 1 : Nat) : Int) := by omega
    simp only [Instr.sliceBound, hY.int_inv.1, asIntOf, Sem.run_bind, Sem.run_pure, Result.andThen_ok, h9, and_self, if_true]
    rfl
  have hrun : (execOp a.eval o).run P w = .ok (.value (.slice (some ⟨gb, off', none⟩) l.length (cap - 1))) w := by
    by_cases hc1 : cap = 1
    · simp [execOp, ho, Instr.sliceAt, run_underlying (sliceE_spec ht), Instr.slice, e6, Instr.sliceBounds, rb, sizeQ_run hz, hc1, hoff]
    · simp [execOp, ho, Instr.sliceAt, run_underlying (sliceE_spec ht), Instr.slice, e6, Instr.sliceBounds, rb, sizeQ_run hz, hc1, hoff, Go.WideShapes.add_plain]
  have hL2 : L2 (VR0 σ) (l.map g) ((cur.toList.drop off').take (l.map g).length) := by
    rw [List.length_map]
    by_cases hc1 : cap = 1
    · obtain rfl : l = [] := List.eq_nil_of_length_eq_zero (by omega)
      exact L2.nil _
    · rw [hoff, if_neg hc1]
      have h9 := hL.drop 1
      rw [List.drop_one, List.tail_cons, List.drop_take, List.drop_drop] at h9
      rwa [show l.length + 1 - 1 = l.length by omega] at h9
  have hnew := hr.turn (id := id) (u := .slice (some ⟨gb, off', none⟩) l.length (cap - 1)) (h' := (id, .sem (tlC e' (l.map g))) :: h) (c' := .sem (tlC e' (l.map g))) (w' := w)
    (fun i c hi hc => by rw [hget_cons, if_neg (fun e => hi e.symm)] at hc; exact ⟨hc, .inr (loneH_get hlo i c hc)⟩) (by rw [hget_cons, if_pos rfl])
    (by
      show tlR e' (l.map g) σ w.heap (upd ι id _ id)
      rw [upd_eq]
      exact ⟨gb, off', cap - 1, cur, by rw [List.length_map], e2, by rw [List.length_map]; omega, by omega, by rw [hoff]; split <;> omega, hL2⟩)
    rfl rfl rfl (Nat.le_refl _) (fun _ _ _ => rfl) (fun g2 hg2 => .inl ⟨_, hg, by rw [e1]; exact hg2⟩) (.inl (Nat.ble_eq ▸ h5))
  unfold Oper.wp
  rw [hrun]
  refine hk.out E σ _ _ _ hnew ((ht'.kill id (Nat.ble_eq ▸ h5) _).putS hd ?_)
  have h2 := VR.own (σ := σ) (ι := upd ι id (.slice (some ⟨gb, off', none⟩) l.length (cap - 1))) id (by rw [upd_eq]; rfl)
  rwa [upd_eq] at h2⟩
theorem run_append_room_off (w : World) (t ty e : TypeId) (i : TypeInfo) (ht : P.underlying t = some (.slice e)) (hi : P.info? e = some i)
    (g off sLen sCap : Nat) (cur : Array Value) (e2 : TypeId) (hg : w.heap[g]? = some (.cells cur e2 (0, 0)))
    (a : Addr) (m c : Nat) (news : List Value) (hl : news.length = m * i.size) (hnews : ∀ j u, news[j]? = some u → w.cell? (a.add j) = some u) (h1 : ∀ u ∈ news, u.oneCell' = true)
    (hroom : sLen + m ≤ sCap) (hfit : off + sLen * i.size + news.length ≤ cur.size) :
    (Builtin.append_ #[t, t] ty #[.slice (some ⟨g, off, none⟩) sLen sCap, .slice (some a) m c]).run P w =
      .ok (.slice (some ⟨g, off, none⟩) (sLen + m) sCap) (w.setRow g (cur.toList.take (off + sLen * i.size) ++ news ++ cur.toList.drop (off + sLen * i.size + news.length)).toArray) := by
  have hf := run_firstCells_some (P := P) w i.size m a m c news hl hnews
  have hst := run_storeCells_at P g (off + sLen * i.size) e2 news 0 cur w hg (by simpa using hfit) h1
  simp only [Nat.add_zero] at hst
  simp [Builtin.append_, run_underlying ht, sizeOf, typeInfo, hi, Builtin.lenOf, hroom, hf, Addr.add_lit, hst]
/-- append -/
theorem o_more {α : Type} {f : α → List AV} {g : α → AV} {l ys : List α} {t e : TypeId} {x y : Operand} {id by_ : Nat} {z0 : List AV} (ho : o.op = .call { callee := .builtin .append, args := #[x, y], argTypes := #[t, t] }) (hgd : o.guard = none) (hco : constsOk o = true) (hd : dstOk n o.dst = true) (ht : sliceE P t = some e) (hz : sizeQ P e 1 = true) (h0 : zeroA P e = some z0) (hz0 : Nat.beq z0.length 1 = true) (hby : bytesQ P e by_ = true)
    (hf : ∀ x, f x = [g x]) (hx : evA s x = .own id) (hg : hget h id = some (.sem (tlC e (l.map g)))) (hy : evA s y = .lst 1 (ys.map f)) (hq : ∀ y ∈ ys, oneQ (g y) = true) (hlen : (l.length + ys.length) * by_ ≤ 140737488355328) (hlen2 : l.length + ys.length ≤ 9223372036854775807) (h5 : Nat.ble 5 id = true) (hlo : loneH id h = true)
    (hk : O P n ops Q rest (putS (killS id s) o.dst (.own id)) ((id, .sem (tlC e ((l ++ ys).map g))) :: h)) : O P n ops Q (o :: rest) s h := ⟨aops_one hgd fun E σ ι a w hr ht' => by
  have hX : VR σ ι (evA s x) (a.eval x) := evA_sound (List.all_eq_true.1 hco x (by rw [ho]; simp [Op.operands, Call.operands])) fun t _ => ht'.at_ t
  have hY : VR σ ι (evA s y) (a.eval y) := evA_sound (List.all_eq_true.1 hco y (by rw [ho]; simp [Op.operands, Call.operands])) fun t _ => ht'.at_ t
  rw [hx] at hX
  rw [hy] at hY
  obtain ⟨gb, off, cap, cur, e1, e2, e3, e4, e5, hL⟩ := hr.tl hg
  rw [List.length_map] at e1 e3 hL
  have e6 := hX.own_inv.trans e1
  obtain ⟨zi, z, hzi, hzz, hzL⟩ := zeroA_spec h0
  have hisz : zi.size = 1 := by unfold sizeQ at hz; rw [hzi] at hz; exact Nat.eq_of_beq_eq_true hz
  have hiby : zi.bytes = by_ := by unfold bytesQ at hby; rw [hzi] at hby; exact Nat.eq_of_beq_eq_true hby
  have hzs : z.cells.size = 1 := by rw [← Array.length_toList, ← (hzL σ).1, Nat.eq_of_beq_eq_true hz0]
  have hu := sliceE_spec ht
  obtain ⟨A, cap2, y2, y3, y4, y5⟩ := hY.lst_inv
  rw [List.length_map] at y2
  -- what append yields
  have key : ∃ v' w', (Builtin.append_ #[t, t] o.type #[ι id, a.eval y]).run P w = .ok v' w' ∧ tlR e ((l ++ ys).map g) σ w'.heap v' ∧ w.grownBy w' (some gb) ∧ (footOf v' = some gb ∨ footOf v' = some w.heap.size) ∧ v'.oneCell' = true := by
    by_cases hnil : ys = []
    · subst hnil
      refine ⟨ι id, w, ?_, by rw [List.append_nil]; exact hr.tl hg, ⟨rfl, rfl, rfl, Nat.le_refl _, fun _ _ _ => rfl⟩, .inl (by rw [e1]; rfl), by rw [e1]; rfl⟩
      rw [e1, y2]
      cases A with
      | none => simp [Builtin.append_, run_underlying hu, sizeOf, typeInfo, hzi, Builtin.lenOf, Builtin.firstCells, e3, storeCells]
      | some ad =>
        have hl0 := run_loadCells_list (P := P) w ad [] (by simp)
        simp only [List.length_nil] at hl0
        simp [Builtin.append_, run_underlying hu, sizeOf, typeInfo, hzi, Builtin.lenOf, Builtin.firstCells, e3, storeCells, hl0]
    · rcases y5 with y5 | ⟨b, off2, gv, rfl, h3, h4, h5'⟩
      · exact absurd (by simpa using y5) hnil
      rw [flat1 hf] at h4 h5'
      obtain ⟨ws, hws⟩ : ∃ ws : List Value, ws = (List.range ys.length).map gv := ⟨_, rfl⟩
      have hwl : ws.length = ys.length := by rw [hws]; simp
      have hwg : ∀ j u, ws[j]? = some u → j < ys.length ∧ u = gv j := fun j u hj => by
        have hjl : j < ys.length := by rw [← hwl]; exact (List.getElem?_eq_some_iff.1 hj).1
        refine ⟨hjl, ?_⟩
        rw [hws] at hj
        simpa [hjl] using hj.symm
      have hone : ∀ u ∈ ws, u.oneCell' = true := fun u hu => by
        obtain ⟨j, hj⟩ := List.getElem?_of_mem hu
        obtain ⟨hjl, rfl⟩ := hwg j u hj
        have h6 : (ys.map g)[j]? = some (g ys[j]) := by simp [hjl]
        exact (VR.base (ι := ι) _ _ (h5' j _ h6)).one (hq _ (List.getElem_mem hjl))
      have hnews : ∀ j u, ws[j]? = some u → w.cell? ((⟨b, off2, none⟩ : Addr).add j) = some u := fun j u hj => by
        obtain ⟨hjl, rfl⟩ := hwg j u hj
        rw [Go.WideShapes.add_plain]
        exact hr.sub _ _ (h4 j (g ys[j]) (by simp [hjl]))
      have hLw : L2 (VR0 σ) (ys.map g) ws := ⟨by rw [List.length_map, hwl], fun j c u hc hu => by
        obtain ⟨hjl, rfl⟩ := hwg j u hu
        exact h5' j c hc⟩
      have hys := List.length_pos_iff.2 hnil
      by_cases hroom : l.length + ys.length ≤ cap
      · have hrr := run_append_room_off (P := P) w t o.type e zi hu hzi gb off l.length cap cur e e2 ⟨b, off2, none⟩ ys.length cap2 ws (by rw [hisz, Nat.mul_one]; exact hwl) hnews hone hroom (by rw [hisz, Nat.mul_one, hwl]; omega)
        rw [hisz, Nat.mul_one] at hrr
        obtain ⟨cur', hcur'⟩ : ∃ cur', cur' = (cur.toList.take (off + l.length) ++ ws ++ cur.toList.drop (off + l.length + ws.length)).toArray := ⟨_, rfl⟩
        rw [← hcur'] at hrr
        refine ⟨_, _, by rw [e1, y2]; exact hrr, ⟨gb, off, cap, cur', by simp, setRow_heap w gb cur cur' e (0, 0) e2, by simpa using hroom, e4, ?_, ?_⟩, ⟨rfl, rfl, rfl, by simp, fun k _ hk => setRow_other w gb k _ (fun e => hk (by rw [e]))⟩, .inl rfl, rfl⟩
        · rw [hcur']; simp only [List.size_toArray, List.length_append, List.length_take, List.length_drop, Array.length_toList]; omega
        · rw [List.map_append, List.length_append, List.length_map, List.length_map]
          have e9 : (cur'.toList.drop off).take (l.length + ys.length) = (cur.toList.drop off).take l.length ++ ws := by
            have hcl : cur.toList.length = cur.size := Array.length_toList (xs := cur)
            rw [hcur', List.toList_toArray, List.append_assoc, List.drop_append_of_le_length (by rw [List.length_take]; omega), ← List.append_assoc, List.drop_take, show off + l.length - off = l.length by omega]
            rw [List.take_append_of_le_length (by simp only [List.length_append, List.length_take, List.length_drop]; omega), List.take_of_length_le (by simp only [List.length_append, List.length_take, List.length_drop]; omega)]
          rw [e9]
          exact hL.append hLw
      · have hcell : ∀ j v, ((cur.toList.drop off).take l.length)[j]? = some v → w.cell? ((⟨gb, off, none⟩ : Addr).add j) = some v := fun j v hj => by
          rw [Go.WideShapes.add_plain]
          rw [List.getElem?_take] at hj
          split at hj
          · rw [List.getElem?_drop] at hj
            simp only [World.cell?, e2, Option.isSome_none, Bool.false_eq_true, if_false]
            rw [← Array.getElem?_toList]; exact hj
          · cases hj
        have hcl : cur.toList.length = cur.size := Array.length_toList (xs := cur)
        obtain ⟨v', w', k1, k2, k3⟩ := run_append_arg_grows (P := P) w t o.type e zi z 1 by_ hu hzi hzz hisz hiby hzs (by omega) ⟨gb, off, none⟩ l.length cap ((cur.toList.drop off).take l.length) (by simp only [List.length_take, List.length_drop, Nat.mul_one]; omega) hcell ⟨b, off2, none⟩ ys.length cap2 ws (by rw [Nat.mul_one]; exact hwl) hnews (by omega) (by simp only [maxLen]; omega) hlen
        rcases k2.2 with ⟨k4, k5⟩ | ⟨g2, cap', cur2, k4, k5, k6, k7, k8, k9, k10⟩
        · omega
        · have hg2 : footOf v' = some w.heap.size := by
            have hgr := run_append_grow (P := P) w t o.type e zi z hu hzi hzz ⟨gb, off, none⟩ l.length cap ((cur.toList.drop off).take l.length) (by rw [hisz]; simp only [List.length_take, List.length_drop, Nat.mul_one]; omega) hcell ⟨b, off2, none⟩ ys.length cap2 ws (by rw [hisz, Nat.mul_one]; exact hwl) hnews (by omega) (by omega) (growslice_fits (by omega) (by rw [hiby]; exact hlen))
            rw [k1] at hgr
            injection hgr with hgr _
            rw [hgr]; rfl
          refine ⟨v', w', by rw [e1, y2]; exact k1, ⟨g2, 0, cap', cur2, by rw [k4]; simp, k6, by simpa using k7, k8, by omega, ?_⟩, ⟨k3.os, k3.tape, k3.output, k3.size, fun k hk _ => k3.block k hk (by simp)⟩, .inr hg2, by rw [k4]; rfl⟩
          rw [Nat.mul_one] at k10
          rw [List.drop_zero, List.map_append, List.length_append, List.length_map, List.length_map, k10]
          exact hL.append hLw
  obtain ⟨v', w', h6, h7, h8, hft, hv1⟩ := key
  unfold Oper.wp
  have hrun : (execOp a.eval o).run P w = .ok (.value v') w' := by
    unfold execOp
    simp only [ho, resolve, invoke, builtin, Sem.run_bind, Sem.run_pure, Result.andThen_ok, List.map_toArray, List.map_cons, List.map_nil, hX.own_inv, h6]
  rw [hrun]
  have hfi : footOf (ι id) = some gb := by rw [e1]; rfl
  have hnew := hr.turn (id := id) (u := v') (h' := (id, .sem (tlC e ((l ++ ys).map g))) :: h) (c' := .sem (tlC e ((l ++ ys).map g))) (w' := w')
    (fun i c hi hc => by rw [hget_cons, if_neg (fun e => hi e.symm)] at hc; exact ⟨hc, .inr (loneH_get hlo i c hc)⟩)
    (by rw [hget_cons, if_pos rfl])
    (by show tlR e ((l ++ ys).map g) σ w'.heap (upd ι id v' id); rw [upd_eq]; exact h7)
    h8.os h8.tape h8.output h8.size (fun k hk hne => h8.block k hk fun e => hne _ hg (by rw [hfi]; exact e.symm))
    (fun g2 hg2 => by
      rcases hft with h1 | h1
      · exact .inl ⟨_, hg, by rw [hfi, ← h1]; exact hg2⟩
      · rw [h1] at hg2; cases hg2; exact .inr (Nat.le_refl _))
    (.inl (Nat.ble_eq ▸ h5)) (fun vs e => by rw [e] at hv1; cases hv1)
  refine hk.out E σ _ _ _ hnew ((ht'.kill id (Nat.ble_eq ▸ h5) v').putS hd ?_)
  have h2 := VR.own (σ := σ) (ι := upd ι id v') id (by rw [upd_eq]; exact hv1)
  rwa [upd_eq] at h2⟩
/-- A slice that is written out, as a row of the call's own. -/
theorem o_blit {α : Type} {f : α → List AV} {l : List α} {t e : TypeId} {sz len : Nat} {parts : Array (Nat × Operand)} {xs : List (List AV)} {id : Nat} (ho : o.op = .buildSlice t len parts) (hgd : o.guard = none) (hco : constsOk o = true) (hd : dstOk n o.dst = true) (ht : sliceE P t = some e) (hz : sizeQ P e sz = true) {z0 : List AV} (h0 : zeroA P e = some z0) (hsz : Nat.blt 0 sz = true) (hb : Nat.ble (len * sz) 16777216 = true)
    (hp : partsA s parts.toList 0 = some xs) (hl : Nat.beq parts.toList.length len = true) (hs : szOk sz xs = true) (hxs : xs = l.map f) (hfr : freshAll id s h = true)
    (hk : O P n ops Q rest (putS s o.dst (.own id)) ((id, .row e sz (l.map f)) :: h)) : O P n ops Q (o :: rest) s h := ⟨aops_one hgd fun E σ ι a w hr ht' => by
  have hsz := (by simpa [Nat.blt_eq] using hsz : 0 < sz)
  have hb := Nat.ble_eq ▸ hb
  have hl := Nat.eq_of_beq_eq_true hl
  simp only [freshAll, Bool.and_eq_true, Nat.ble_eq] at hfr
  have hx : ∀ x ∈ o.op.operands.toList, VR σ ι (evA s x) (a.eval x) := fun x hx => evA_sound (List.all_eq_true.1 hco x hx) fun t _ => ht'.at_ t
  have hmem : ∀ p ∈ parts.toList, VR σ ι (evA s p.2) (a.eval p.2) := fun p hp => hx p.2 (by rw [ho]; simp only [Op.operands]; simpa using ⟨p.1, by simpa using hp⟩)
  obtain ⟨h1, h2⟩ := partsA_spec (a := a) parts.toList 0 xs hp hmem
  obtain ⟨zi, z, hzi, hzz, _⟩ := zeroA_spec h0
  have hvs : ∀ v ∈ parts.toList.map (fun p => a.eval p.2), v.cells.size = sz := fun v hv => by
    obtain ⟨j, hj⟩ := List.getElem?_of_mem hv
    have hjl : j < xs.length := by rw [h2.1]; exact (List.getElem?_eq_some_iff.1 hj).1
    have h3 := h2.2 j xs[j] v (List.getElem?_eq_getElem hjl) hj
    rw [← Array.length_toList, ← h3.1]
    exact szOk_spec hs _ (List.getElem_mem hjl)
  have hxl : xs.length = len := by rw [h2.1, List.length_map, hl]
  have hml : (parts.toList.map (fun p => a.eval p.2)).length = len := by rw [List.length_map, hl]
  obtain ⟨r, hr1, hr2, hr3⟩ := Go.Great.fill_dense hsz (parts.toList.map (fun p => a.eval p.2)) 0 ((Array.range (len * sz)).map (z.cells[· % z.cells.size]!)) hvs (by rw [hml]; simp)
  have hparts : (parts.map fun (i, x) => (i, a.eval x)).toList = (((parts.toList.map (fun p => a.eval p.2)).zipIdx 0).map fun x => (x.2, x.1)) := by
    rw [Array.toList_map, list_of_pairs (parts.toList.map fun (i, x) => (i, a.eval x)) 0 (by simpa [Function.comp_def] using h1)]
    simp [Function.comp_def]
  have hrl : r.toList = ((parts.toList.map (fun p => a.eval p.2)).map fun v => v.cells.toList).flatten := by
    refine flat_cells hsz _ r hvs (by rw [hr2, hml]; simp) fun k => ?_
    rw [hr3 k]
    simp only [Nat.zero_mul, Nat.zero_le, true_and, Nat.zero_add, Nat.sub_zero]
    split
    · rfl
    · rename_i hk
      rw [hml] at hk
      apply Array.getElem?_eq_none; simp; omega
  have hrun : (execOp a.eval o).run P w = .ok (.value (.slice (some ⟨w.heap.size, 0, none⟩) len len)) (w.alloc (.cells r e)) := by
    have hr1' : Instr.fill (fun i => some (i * sz, sz)) ((Array.range (len * sz)).map (z.cells[· % z.cells.size]!)) (parts.map fun (i, x) => (i, a.eval x)).toList = some r := by rw [hparts]; exact hr1
    have h5 := run_buildSlice (P := P) w (sliceE_spec ht) hz hzi hzz (by omega) hr1'
    simp only [execOp, ho, Sem.run_bind, Sem.run_pure, h5, Result.andThen_ok]
  have hL : L2 (VR0 σ) xs.flatten r.toList := by rw [hrl]; exact l2_flatten h2
  have hrs : r.size = len * sz := by
    have h9 := hL.1
    rw [flatten_length (szOk_spec hs), hxl] at h9
    rw [← Array.length_toList (xs := r), ← h9]
  have hnew := hr.turn (id := id) (u := .slice (some ⟨w.heap.size, 0, none⟩) len len) (h' := (id, .row e sz (l.map f)) :: h) (c' := .row e sz (l.map f)) (w' := w.alloc (.cells r e))
    (fun i c hi hc => by
      rw [hget_cons, if_neg (fun e => hi e.symm)] at hc
      exact ⟨hc, .inr (freshH_get hfr.2 i c hc).2⟩)
    (by rw [hget_cons, if_pos rfl])
    ⟨hsz, by rw [← hxs]; exact szOk_spec hs, r.toList, by
      rw [upd_eq, ← hxs, hxl]
      have hll : len ≤ len * sz := Nat.le_mul_of_pos_right _ hsz
      exact ⟨by rw [Array.length_toList (xs := r)]; exact hrs, .inr ⟨w.heap.size, len, r, rfl, Nat.zero_le _, heap_alloc_new w _, Nat.le_refl _, by simp only [maxLen]; omega, hrs, by rw [← hrs, ← Array.length_toList (xs := r)]; exact List.take_length⟩⟩, by rw [← hxs]; exact hL⟩
    rfl rfl rfl (by simp) (fun k hk _ => Below.heap_alloc _ _ _ hk) (fun g hv => by cases hv; exact .inr (Nat.le_refl _)) (.inl hfr.1.1)
  unfold Oper.wp
  rw [hrun]
  refine hk.out E σ _ _ _ hnew ((ht'.upd hfr.1.1 hfr.1.2 _).putS hd ?_)
  have h5 := VR.own (σ := σ) (ι := upd ι id (.slice (some ⟨w.heap.size, 0, none⟩) len len)) id (by rw [upd_eq]; rfl)
  rwa [upd_eq] at h5⟩
end
end Go.Proofs.Ytfjoaeghnfkdlaa
