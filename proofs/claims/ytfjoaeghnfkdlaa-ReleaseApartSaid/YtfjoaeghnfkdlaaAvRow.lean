/- Rows of the call's own: read, written, appended to, made, let go. No condition. -/
import Derived.Test.YtfjoaeghnfkdlaaAvMem3
namespace Go.Proofs.Ytfjoaeghnfkdlaa
set_option linter.unusedSimpArgs false
set_option linter.unusedVariables false
set_option maxRecDepth 100000
set_option linter.unusedVariables false
set_option linter.unusedSimpArgs false
open Go.RowKit
section
variable {P : Program} {n : Md} {Q : Exit → Slots → Heap → Prop} {s : Slots} {h : Heap} {ops : Array Oper} {rest : List Oper} {o : Oper} {K : Slots → Prop}
theorem VR.own_inv {σ : Sig} {ι : Nat → Value} {id : Nat} {v : Value} (hv : VR σ ι (.own id) v) : v = ι id := by
  cases hv with
  | base _ _ h0 => cases h0
  | own => rfl
theorem VR.eptr_inv {σ : Sig} {ι : Nat → Value} {id sz i j : Nat} {v : Value} (hv : VR σ ι (.eptr id sz i j) v) : ∃ g, footOf (ι id) = some g ∧ v = .pointer (some ⟨g, i * sz + j, none⟩) := by
  cases hv with
  | base _ _ h0 => cases h0
  | eptr _ _ _ _ g hg => exact ⟨g, hg, rfl⟩
theorem Rel.rowForm {E : Env} {σ : Sig} {ι : Nat → Value} {w : World} {id sz : Nat} {e : TypeId} {xs : List (List AV)} (hr : Rel E σ ι h w) (hg : hget h id = some (.row e sz xs)) :
    ∃ A cap, ι id = .slice A xs.length cap ∧ xs.length ≤ cap ∧ cap ≤ maxLen := by
  obtain ⟨_, _, vs, h1, _⟩ := hr.ch id _ hg
  rcases h1.2 with ⟨h2, h3⟩ | ⟨g, cap, cur, h2, _, _, h4, h5, _⟩
  · exact ⟨none, 0, by rw [h2, h3], by omega, by simp⟩
  · exact ⟨_, cap, h2, h4, h5⟩
theorem Rel.rowCells {E : Env} {σ : Sig} {ι : Nat → Value} {w : World} {id sz g : Nat} {e : TypeId} {xs : List (List AV)} (hr : Rel E σ ι h w) (hg : hget h id = some (.row e sz xs)) (hf : footOf (ι id) = some g) {i : Nat} {c : List AV} (hi : xs[i]? = some c) :
    Cells σ ι w g (i * sz) c := by
  obtain ⟨h0, hsz, vs, h1, h2⟩ := hr.ch id _ hg
  rcases h1.2 with ⟨h3, _⟩ | ⟨g', cap, cur, h3, _, h4, h5, h6, h7, h8⟩
  · rw [h3] at hf; cases hf
  rw [h3] at hf
  simp only [footOf, Option.some.injEq] at hf
  subst hf
  intro j x hj
  obtain ⟨v, hv, hR⟩ := h2.get (flatten_get hsz hi hj)
  refine ⟨v, ?_, .base _ _ hR⟩
  simp only [World.cell?, h4, Option.isSome_none, Bool.false_eq_true, if_false]
  rw [← h8, List.getElem?_take] at hv
  split at hv
  · rw [← Array.getElem?_toList]; exact hv
  · cases hv
/-- len of a row of the call's own -/
theorem ok_len_own {α : Type} {sz id : Nat} {l : List α} {f : α → List AV} {t e e' : TypeId} {x : Operand} (ho : o.op = .call { callee := .builtin .len, args := #[x], argTypes := #[t] }) (ht : sliceE P t = some e) (hx : evA s x = .own id) (hg : hget h id = some (.row e' sz (l.map f))) :
    OkO P o s h (.int .i64 l.length) := by
  refine ok_of_run fun E σ ι a w hr hv => ?_
  have hv := hv x (by rw [ho]; simp [Op.operands, Call.operands])
  rw [hx] at hv
  obtain ⟨A, cap, e1, e2, e3⟩ := hr.rowForm hg
  have e4 := hv.own_inv.trans e1
  refine ⟨.int .i64 l.length, ?_, .base _ _ (.int _ _ ?_)⟩
  · simp [execOp, ho, resolve, invoke, builtin, Builtin.len_, run_underlying (sliceE_spec ht), e4, goInt]
  · simp only [maxLen, List.length_map] at e2 e3; simp only [rangeP]; omega
theorem ok_index_own {α : Type} {sz id : Nat} {l : List α} {f : α → List AV} {t e e' : TypeId} {x y : Operand} {ik : IntKind} {i : Nat} (ho : o.op = .indexAddr t x y) (ht : sliceE P t = some e) (hz : sizeQ P e sz = true) (hx : evA s x = .own id) (hg : hget h id = some (.row e' sz (l.map f)))
    (hy : evA s y = .int ik i) (hi : i < l.length) : OkO P o s h (.eptr id sz i 0) := by
  refine ok_of_run fun E σ ι a w hr hv => ?_
  have hX := hv x (by rw [ho]; simp [Op.operands])
  have hY := hv y (by rw [ho]; simp [Op.operands])
  rw [hx] at hX
  rw [hy] at hY
  obtain ⟨h0, hsz, vs, h1, h2⟩ := hr.ch id _ hg
  rcases h1.2 with ⟨h3, h4⟩ | ⟨g, cap, cur, h3, _, h4, h5, h6, h7, h8⟩
  · rw [List.length_map] at h4; omega
  have e1 := hX.own_inv.trans h3
  refine ⟨.pointer (some ⟨g, i * sz + 0, none⟩), ?_, .eptr id sz i 0 g (by rw [h3]; rfl)⟩
  have h9 : (0 : Int) ≤ (i : Int) ∧ (i : Int) < ((l.map f).length : Int) := by simp; omega
  simp only [execOp, ho, e1, hY.int_inv.1, Instr.indexAt, asIntOf, Sem.run_bind, Sem.run_pure, Result.andThen_ok, run_underlying (sliceE_spec ht), h9, and_self, if_true, sizeQ_run hz, Int.toNat_natCast, Go.WideShapes.add_plain, Nat.zero_add, Nat.add_zero]
theorem ok_load_own {α : Type} [Inhabited α] {sz id i j : Nat} {l : List α} {f : α → List AV} {t e' : TypeId} {x : Operand} {side : Prop} {v : AV} (ho : o.op = .load t x) (hx : evA s x = .eptr id sz i j) (hg : hget h id = some (.row e' sz (l.map f))) (hi : i < l.length)
    (hc : cellsA P t ((f (l.getD i default)).drop j) = some (side, v)) (hside : side) : OkO P o s h v := by
  refine ok_of_run fun E σ ι a w hr hv => ?_
  have hX := hv x (by rw [ho]; simp [Op.operands])
  rw [hx] at hX
  obtain ⟨g, h1, h2⟩ := hX.eptr_inv
  have hcells := (hr.rowCells hg h1 (i := i) (c := f (l.getD i default)) (by simp [hi])).drop j
  obtain ⟨u, h3, h4⟩ := run_load_cells (P := P) hcells hc hside
  refine ⟨u, ?_, h4⟩
  simp only [execOp, ho, h2, Instr.loadAt, Instr.sureAddr, Sem.run_bind, Sem.run_pure, Result.andThen_ok, h3]
def killS (id : Nat) : Slots → Slots
  | [] => []
  | (i, v) :: r => (i, bif hasId id v then .undef else v) :: killS id r
theorem get_killS (id : Nat) : ∀ (s : Slots) (t : Nat), get (killS id s) t = if hasId id (get s t) = true then .undef else get s t
  | [], t => by simp [killS, get, hasId]
  | (i, v) :: r, t => by
    rw [killS, get_cons, get_cons]
    by_cases hi : i = t
    · rw [if_pos hi, if_pos hi]; cases hasId id v <;> rfl
    · rw [if_neg hi, if_neg hi]; exact get_killS id r t
theorem TR.kill {σ : Sig} {ι : Nat → Value} {a : Act} (ht : TR n σ ι s a) (id : Nat) (h5 : 5 ≤ id) (u : Value) : TR n σ (Ytfjoaeghnfkdlaa.upd ι id u) (killS id s) a :=
  ⟨ht.size, ⟨ht.defers.1, fun p hp => let ⟨h1, h2⟩ := ht.defers.2 p hp; ⟨h1, by rw [upd_ne (by omega)]; exact h2⟩⟩, fun t => by
    rw [get_killS]
    split
    · exact .base _ _ (.undef _)
    · rename_i hb; exact (ht.at_ t).upd (by simpa using hb)⟩
/-- Nothing else in the heap names it. -/
def loneH (id : Nat) : Heap → Bool
  | [] => true
  | (i, .blk _ cs) :: r => !Nat.beq i id && !hasIdL id cs && loneH id r
  | (_, .row _ _ _) :: r => loneH id r
  | (_, .sem _) :: r => loneH id r
theorem loneH_get {id : Nat} : ∀ {h : Heap}, loneH id h = true → ∀ i c, hget h i = some c → match c with | .blk _ cs => hasIdL id cs = false | _ => True
  | [], _, i, c, hc => by cases hc
  | (i', .blk ty cs) :: r, hf, i, c, hc => by
    simp only [loneH, Bool.and_eq_true, Bool.not_eq_true'] at hf
    rw [hget_cons] at hc
    split at hc
    · cases hc; exact hf.1.2
    · exact loneH_get hf.2 i c hc
  | (i', .row e sz xs) :: r, hf, i, c, hc => by
    simp only [loneH] at hf
    rw [hget_cons] at hc
    split at hc
    · cases hc; trivial
    · exact loneH_get hf i c hc
  | (i', .sem _) :: r, hf, i, c, hc => by
    simp only [loneH] at hf
    rw [hget_cons] at hc
    split at hc
    · cases hc; trivial
    · exact loneH_get hf i c hc
def bytesQ (P : Program) (t : TypeId) (k : Nat) : Bool := match P.info? t with | some i => Nat.beq i.bytes k | none => false
theorem a1_append {α : Type} {id sz by_ : Nat} {l ys : List α} {f : α → List AV} {t e : TypeId} {x y : Operand} (ho : o.op = .call { callee := .builtin .append, args := #[x, y], argTypes := #[t, t] }) (ht : sliceE P t = some e) (hz : sizeQ P e sz = true) {z0 : List AV} (h0 : zeroA P e = some z0) (hz0 : z0.length = sz)
    (hby : bytesQ P e by_ = true) (hx : evA s x = .own id) (hg : hget h id = some (.row e sz (l.map f))) {yl : List (List AV)} (hy : evA s y = .lst sz yl) (hyl : yl = ys.map f) (hq : ∀ y ∈ ys, (f y).all oneQ = true) (hlen : (l.length + ys.length) * by_ ≤ 140737488355328) (hlen2 : l.length + ys.length ≤ 9223372036854775807)
    (hco : constsOk o = true) (hd : dstOk n o.dst = true) (h5 : Nat.ble 5 id = true) (hl : loneH id h = true)
    (hk : AOps P n ops Q rest (putS (killS id s) o.dst (.own id)) ((id, .row e sz ((l ++ ys).map f)) :: h)) : A1 P n ops Q o rest s h := fun E σ ι a w hr ht' => by
  subst hyl
  have hX : VR σ ι (evA s x) (a.eval x) := evA_sound (List.all_eq_true.1 hco x (by rw [ho]; simp [Op.operands, Call.operands])) fun t _ => ht'.at_ t
  have hY : VR σ ι (evA s y) (a.eval y) := evA_sound (List.all_eq_true.1 hco y (by rw [ho]; simp [Op.operands, Call.operands])) fun t _ => ht'.at_ t
  rw [hx] at hX
  rw [hy] at hY
  obtain ⟨hsz0, hsz, vs, hown, hL⟩ := hr.ch id _ hg
  obtain ⟨zi, z, hzi, hzz, hzL⟩ := zeroA_spec h0
  have hisz : zi.size = sz := by unfold sizeQ at hz; rw [hzi] at hz; exact Nat.eq_of_beq_eq_true hz
  have hiby : zi.bytes = by_ := by unfold bytesQ at hby; rw [hzi] at hby; exact Nat.eq_of_beq_eq_true hby
  have hzs : z.cells.size = sz := by rw [← Array.length_toList, ← (hzL σ).1, hz0]
  have e1 := hX.own_inv
  have hu := sliceE_spec ht
  -- what append yields
  have key : ∃ v' w' ws, (Builtin.append_ #[t, t] o.type #[ι id, a.eval y]).run P w = .ok v' w' ∧ w'.ownsRow 0 e sz v' (l.length + ys.length) (vs ++ ws) ∧ w.grownBy w' (ι id).ownBlock ∧ (footOf v' = footOf (ι id) ∨ footOf v' = some w.heap.size) ∧ L2 (VR0 σ) (ys.map f).flatten ws ∧ (∀ c ∈ ys.map f, c.length = sz) := by
    obtain ⟨A, cap, e2, e3, e4, e5⟩ := hY.lst_inv
    rw [List.length_map] at hown
    by_cases hnil : ys = []
    · subst hnil
      refine ⟨ι id, w, [], ?_, by simpa using hown, ⟨rfl, rfl, rfl, Nat.le_refl _, fun _ _ _ => rfl⟩, .inl rfl, L2.nil _, by simp⟩
      rw [e2]
      rcases hown.2 with ⟨h2, h3⟩ | ⟨g, cap', cur, h2, _, h3, h4, _, h6, _⟩
      · rw [h2]
        cases A with
        | none => simp [Builtin.append_, run_underlying hu, sizeOf, typeInfo, hzi, Builtin.lenOf, Builtin.firstCells]
        | some ad =>
          have hl0 := run_loadCells_list (P := P) w ad [] (by simp)
          simp only [List.length_nil] at hl0
          simp [Builtin.append_, run_underlying hu, sizeOf, typeInfo, hzi, Builtin.lenOf, Builtin.firstCells, hl0]
      · rw [h2]
        cases A with
        | none => simp [Builtin.append_, run_underlying hu, sizeOf, typeInfo, hzi, Builtin.lenOf, Builtin.firstCells, h4, storeCells]
        | some ad =>
          have hl0 := run_loadCells_list (P := P) w ad [] (by simp)
          simp only [List.length_nil] at hl0
          simp [Builtin.append_, run_underlying hu, sizeOf, typeInfo, hzi, Builtin.lenOf, Builtin.firstCells, h4, storeCells, hl0]
    · rcases e5 with e5 | ⟨b, off, g, rfl, h3, h4, h5'⟩
      · exact absurd (by simpa using e5) hnil
      have hfl : ((ys.map f).flatten).length = ys.length * sz := by rw [flatten_length h3, List.length_map]
      obtain ⟨ws, hws⟩ : ∃ ws : List Value, ws = (List.range (ys.length * sz)).map g := ⟨_, rfl⟩
      have hwl : ws.length = ys.length * sz := by rw [hws]; simp
      have hwg : ∀ j u, ws[j]? = some u → j < ys.length * sz ∧ u = g j := fun j u hj => by
        have hjl : j < ys.length * sz := by rw [← hwl]; exact (List.getElem?_eq_some_iff.1 hj).1
        refine ⟨hjl, ?_⟩
        rw [hws] at hj
        simpa [hjl] using hj.symm
      have hone : ∀ u ∈ ws, u.oneCell' = true := fun u hu => by
        obtain ⟨j, hj⟩ := List.getElem?_of_mem hu
        obtain ⟨hjl, rfl⟩ := hwg j u hj
        have h6 : (ys.map f).flatten[j]? = some ((ys.map f).flatten[j]'(by omega)) := List.getElem?_eq_getElem (by omega)
        have h7 : (ys.map f).flatten[j]'(by omega) ∈ (ys.map f).flatten := List.getElem_mem _
        obtain ⟨c, hc, hc2⟩ := List.mem_flatten.1 h7
        obtain ⟨y0, hy0, rfl⟩ := List.mem_map.1 hc
        exact (VR.base (ι := ι) _ _ (h5' j _ h6)).one (List.all_eq_true.1 (hq y0 hy0) _ hc2)
      have hnews : ∀ j u, ws[j]? = some u → w.cell? ((⟨b, off, none⟩ : Addr).add j) = some u := fun j u hj => by
        obtain ⟨hjl, rfl⟩ := hwg j u hj
        rw [Go.WideShapes.add_plain]
        exact hr.sub _ _ (h4 j _ (List.getElem?_eq_getElem (by omega)))
      have hmax : l.length + ys.length ≤ maxLen := by simp only [maxLen]; omega
      obtain ⟨v', w', h6, h7, h8, _⟩ := run_append_own (P := P) w 0 t o.type e zi z sz by_ hu hzi hzz hisz hiby hzs hsz0 (ι id) l.length vs hown ⟨b, off, none⟩ ys.length cap ws hwl hnews hone hmax hlen (Nat.zero_le _)
      have hft : footOf v' = footOf (ι id) ∨ footOf v' = some w.heap.size := by
        have h7' := h7
        rcases hown.2 with ⟨h2, h3'⟩ | ⟨g0, cap0, cur0, h2, _, hg0, hn0, hc0, hs0, htake⟩
        · -- out of nothing
          have hown' : w.ownsRow w.heap.size e sz (ι id) l.length vs := ⟨hown.1, .inl ⟨h2, h3'⟩⟩
          obtain ⟨v2, w2, k6, k7, k8, _⟩ := run_append_own (P := P) w w.heap.size t o.type e zi z sz by_ hu hzi hzz hisz hiby hzs hsz0 (ι id) l.length vs hown' ⟨b, off, none⟩ ys.length cap ws hwl hnews hone hmax hlen (Nat.le_refl _)
          rw [h6] at k6
          injection k6 with k6 k6'
          subst k6; subst k6'
          have hnr := run_append_nil (P := P) w t o.type e zi z hu hzi hzz ⟨b, off, none⟩ ys.length cap ws (by rw [hisz]; exact hwl) hnews (by have := List.length_pos_iff.2 hnil; omega) (by omega) (by rw [h3'] at hlen; simp only [Nat.zero_add] at hlen; rw [hiby]; omega)
          rw [← h2, h6] at hnr
          injection hnr with hnr _
          exact .inr (by rw [hnr]; rfl)
        · by_cases hroom : l.length + ys.length ≤ cap0
          · have hrr := run_append_room (P := P) w t o.type e zi hu hzi g0 l.length cap0 cur0 hg0 ⟨b, off, none⟩ ys.length cap ws (by rw [hisz]; exact hwl) hnews hone hroom (by rw [hisz, hwl, hs0, ← Nat.add_mul]; exact Nat.mul_le_mul_right _ hroom)
            rw [← h2, h6] at hrr
            injection hrr with hrr _
            exact .inl (by rw [hrr, h2]; rfl)
          · have hgr := run_append_grow (P := P) w t o.type e zi z hu hzi hzz ⟨g0, 0, none⟩ l.length cap0 vs (by rw [hisz]; exact hown.1) (hown.cells (g := g0) (by rw [h2]; rfl)) ⟨b, off, none⟩ ys.length cap ws (by rw [hisz]; exact hwl) hnews (by omega) (by omega) (growslice_fits (by omega) (by rw [hiby]; exact hlen))
            rw [← h2, h6] at hgr
            injection hgr with hgr _
            exact .inr (by rw [hgr]; rfl)
      rw [List.length_map] at e2
      rw [e2]
      refine ⟨v', w', ws, h6, h7, h8, hft, ⟨by omega, fun j x u hx hu => ?_⟩, h3⟩
      obtain ⟨hjl, rfl⟩ := hwg j u hu
      exact h5' j x hx
  obtain ⟨v', w', ws, h6, h7, h8, hft, h9, h10⟩ := key
  unfold Oper.wp
  have hrun : (execOp a.eval o).run P w = .ok (.value v') w' := by
    unfold execOp
    simp only [ho, resolve, invoke, builtin, Sem.run_bind, Sem.run_pure, Result.andThen_ok, List.map_toArray, List.map_cons, List.map_nil, e1, h6]
  rw [hrun]
  have hform : ∃ A m c, v' = .slice A m c := by
    rcases h7.2 with ⟨h2, _⟩ | ⟨g, cap', cur, h2, _⟩
    · exact ⟨_, _, _, h2⟩
    · exact ⟨_, _, _, h2⟩
  obtain ⟨A0, m0, c0, e0⟩ := hform
  obtain ⟨B0, d0, hi0, _⟩ := hr.rowForm hg
  have hob : ∀ k, (ι id).ownBlock = some k ↔ footOf (ι id) = some k := fun k => by rw [hi0]; cases B0 <;> simp [footOf, Value.ownBlock]
  have hnew := hr.turn (id := id) (u := v') (h' := (id, .row e sz ((l ++ ys).map f)) :: h) (c' := .row e sz ((l ++ ys).map f)) (w' := w')
    (fun i c hi hc => by
      rw [hget_cons, if_neg (fun e => hi e.symm)] at hc
      exact ⟨hc, .inr (loneH_get hl i c hc)⟩)
    (by rw [hget_cons, if_pos rfl])
    ⟨hsz0, fun c hc => by
      rw [List.map_append] at hc
      rcases List.mem_append.1 hc with hc | hc
      · exact hsz c hc
      · exact h10 c hc, vs ++ ws, by rw [upd_eq, List.length_map, List.length_append]; exact h7, by rw [List.map_append, List.flatten_append]; exact hL.append h9⟩
    h8.os h8.tape h8.output h8.size
    (fun k hk hne => h8.block k hk fun e => hne _ hg ((hob k).1 e.symm))
    (fun g hv => by
      rcases hft with h1 | h1
      · exact .inl ⟨_, hg, by rw [← h1]; exact hv⟩
      · rw [h1] at hv; cases hv; exact .inr (Nat.le_refl _))
    (.inl (Nat.ble_eq ▸ h5))
  refine hk E σ _ _ _ hnew ((ht'.kill id (Nat.ble_eq ▸ h5) v').putS hd ?_)
  have h2 := VR.own (σ := σ) (ι := upd ι id v') id (by rw [upd_eq, e0]; rfl)
  rwa [upd_eq] at h2
end
end Go.Proofs.Ytfjoaeghnfkdlaa
