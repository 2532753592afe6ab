/- Appends behind appends, a slice of a row that is appended: each takes a row and yields another one; in whatever order the region is walked. No condition. -/
import Derived.Test.YtfjoaeghnfkdlaaAvDrQ
import Derived.Test.YtfjoaeghnfkdlaaAvLend
import Derived.Test.YtfjoaeghnfkdlaaAvTl
namespace Go.Proofs.Ytfjoaeghnfkdlaa
set_option linter.unusedSimpArgs false
set_option linter.unusedVariables false
set_option maxRecDepth 100000
set_option linter.unusedVariables false
set_option linter.unusedSimpArgs false
open Go.RowKit
section
variable {P : Program} {n : Md} {Q : Exit → Slots → Heap → Prop} {s : Slots} {h : Heap} {ops : Array Oper} {rest : List Oper} {o : Oper}
/-- A row under another name. -/
theorem Rel.rename {E : Env} {σ : Sig} {ι : Nat → Value} {w : World} (hr : Rel E σ ι h w) {id id2 sz : Nat} {e : TypeId} {xs : List (List AV)} (hg : hget h id = some (.row e sz xs)) (h10 : 10 ≤ id ∧ id < 100) (h5 : 5 ≤ id2) (hf : freshH id2 h = true) : Rel E σ (upd ι id2 (ι id)) ((id2, .row e sz xs) :: hdel id h) w := by
  have hin : ∀ i c, i ≠ id2 → hget ((id2, .row e sz xs) :: hdel id h) i = some c → i ≠ id ∧ hget h i = some c := fun i c hi hc => by
    rw [hget_cons, if_neg (fun e => hi e.symm), hget_hdel] at hc
    split at hc
    · cases hc
    · exact ⟨‹_›, hc⟩
  have hno : (id, id) = (id, id) := rfl
  have hmay : ∀ g, (id, g) ∉ E.may := fun g hm => by have := hr.low _ hm; simp only at this; omega
  refine ⟨hr.os, hr.tape, hr.output, hr.size, hr.old, hr.sigOld, hr.sub, fun i c hc => ?_, fun i c hc g hgf => ?_, fun i j c d hc hd g h1 h2 => ?_, fun p hp => ?_, hr.low, fun p hp => ⟨(hr.xo p hp).1, (hr.xo p hp).2.1, fun i c hc => ?_⟩⟩
  · by_cases hi : i = id2
    · subst hi
      rw [hget_cons, if_pos rfl] at hc
      cases hc
      obtain ⟨a1, a2, vs, a3, a4⟩ := hr.ch id _ hg
      exact ⟨a1, a2, vs, by rw [upd_eq]; exact a3, a4⟩
    · obtain ⟨_, hc2⟩ := hin i c hi hc
      have h4 := hr.ch i c hc2
      have hfr := (freshH_get hf i c hc2).2
      cases c with
      | blk ty cs =>
        obtain ⟨g, cur, h5, h6, h7⟩ := h4
        exact ⟨g, cur, by rw [upd_ne hi]; exact h5, h6, h7.1, fun j x y a b => (h7.2 j x y a b).upd (hasIdL_get hfr j x a)⟩
      | row e sz xs =>
        obtain ⟨h0, h5, vs, h6, h7⟩ := h4
        exact ⟨h0, h5, vs, by rw [upd_ne hi]; exact h6, h7⟩
      | sem c => show c.rel _ _ _; rw [upd_ne hi]; exact h4
  · by_cases hi : i = id2
    · subst hi
      rw [upd_eq] at hgf
      have := hr.foot id _ hg g hgf
      exact ⟨.inr (this.1.resolve_left (hmay g)), this.2⟩
    · rw [upd_ne hi] at hgf
      exact hr.foot i c (hin i c hi hc).2 g hgf
  · by_cases hi : i = id2
    · by_cases hj : j = id2
      · rw [hi, hj]
      · subst hi
        rw [upd_eq] at h1
        rw [upd_ne hj] at h2
        exact absurd (hr.dj id j _ d hg (hin j d hj hd).2 g h1 h2).symm (hin j d hj hd).1
    · by_cases hj : j = id2
      · subst hj
        rw [upd_eq] at h2
        rw [upd_ne hi] at h1
        exact absurd (hr.dj i id c _ (hin i c hi hc).2 hg g h1 h2) (hin i c hi hc).1
      · rw [upd_ne hi] at h1
        rw [upd_ne hj] at h2
        exact hr.dj i j c d (hin i c hi hc).2 (hin j d hj hd).2 g h1 h2
  · have := hr.pin p hp
    exact ⟨this.1, by rw [upd_ne (by omega)]; exact this.2⟩
  · by_cases hi : i = id2
    · subst hi; rw [upd_eq]; exact (hr.xo p hp).2.2 id _ hg
    · rw [upd_ne hi]; exact (hr.xo p hp).2.2 i c (hin i c hi hc).2
/-- What append yields. -/
theorem app_key {α : Type} {E : Env} {σ : Sig} {ι : Nat → Value} {w : World} (hr : Rel E σ ι h w) {id sz by_ : Nat} {l ys : List α} {f : α → List AV} {t e ot : TypeId} (ht : sliceE P t = some e) (hz : sizeQ P e sz = true) {z0 : List AV} (h0 : zeroA P e = some z0) (hz0 : z0.length = sz)
    (hby : bytesQ P e by_ = true) (hg : hget h id = some (.row e sz (l.map f))) {vy : Value} (hY : VR σ ι (.lst sz (ys.map f)) vy) (hq : ∀ y ∈ ys, (f y).all oneQ = true) (hlen : (l.length + ys.length) * by_ ≤ 140737488355328) (hlen2 : l.length + ys.length ≤ 9223372036854775807) (h5 : Nat.ble 5 id = true) (hl : loneH id h = true) :
    ∃ v' w', (Builtin.append_ #[t, t] ot #[ι id, vy]).run P w = .ok v' w' ∧ (∃ A m c, v' = .slice A m c) ∧ Rel E σ (upd ι id v') ((id, .row e sz ((l ++ ys).map f)) :: h) w' := by
  obtain ⟨hsz0, hsz, vs, hown, hL⟩ := hr.ch id _ hg
  obtain ⟨zi, z, hzi, hzz, hzL⟩ := zeroA_spec h0
  have hisz : zi.size = sz := by unfold sizeQ at hz; rw [hzi] at hz; exact Nat.eq_of_beq_eq_true hz
  have hiby : zi.bytes = by_ := by unfold bytesQ at hby; rw [hzi] at hby; exact Nat.eq_of_beq_eq_true hby
  have hzs : z.cells.size = sz := by rw [← Array.length_toList, ← (hzL σ).1, hz0]
  have hu := sliceE_spec ht
  have key : ∃ v' w' ws, (Builtin.append_ #[t, t] ot #[ι id, vy]).run P w = .ok v' w' ∧ w'.ownsRow 0 e sz v' (l.length + ys.length) (vs ++ ws) ∧ w.grownBy w' (ι id).ownBlock ∧ (footOf v' = footOf (ι id) ∨ footOf v' = some w.heap.size) ∧ L2 (VR0 σ) (ys.map f).flatten ws ∧ (∀ c ∈ ys.map f, c.length = sz) := by
    obtain ⟨A, cap, e2, e3, e4, e5⟩ := hY.lst_inv
    rw [List.length_map] at hown
    by_cases hnil : ys = []
    · subst hnil
      refine ⟨ι id, w, [], ?_, by simpa using hown, ⟨rfl, rfl, rfl, Nat.le_refl _, fun _ _ _ => rfl⟩, .inl rfl, L2.nil _, by simp⟩
      rw [e2]
      rcases hown.2 with ⟨h2, h3⟩ | ⟨g, cap', cur, h2, _, h3, h4, _, h6, _⟩
      · rw [h2]
        cases A with
        | none => simp [Builtin.append_, run_underlying hu, sizeOf, typeInfo, hzi, Builtin.lenOf, Builtin.firstCells]
        | some ad =>
          have hl0 := run_loadCells_list (P := P) w ad [] (by simp)
          simp only [List.length_nil] at hl0
          simp [Builtin.append_, run_underlying hu, sizeOf, typeInfo, hzi, Builtin.lenOf, Builtin.firstCells, hl0]
      · rw [h2]
        cases A with
        | none => simp [Builtin.append_, run_underlying hu, sizeOf, typeInfo, hzi, Builtin.lenOf, Builtin.firstCells, h4, storeCells]
        | some ad =>
          have hl0 := run_loadCells_list (P := P) w ad [] (by simp)
          simp only [List.length_nil] at hl0
          simp [Builtin.append_, run_underlying hu, sizeOf, typeInfo, hzi, Builtin.lenOf, Builtin.firstCells, h4, storeCells, hl0]
    · rcases e5 with e5 | ⟨b, off, g, rfl, h3, h4, h5'⟩
      · exact absurd (by simpa using e5) hnil
      have hfl : ((ys.map f).flatten).length = ys.length * sz := by rw [flatten_length h3, List.length_map]
      obtain ⟨ws, hws⟩ : ∃ ws : List Value, ws = (List.range (ys.length * sz)).map g := ⟨_, rfl⟩
      have hwl : ws.length = ys.length * sz := by rw [hws]; simp
      have hwg : ∀ j u, ws[j]? = some u → j < ys.length * sz ∧ u = g j := fun j u hj => by
        have hjl : j < ys.length * sz := by rw [← hwl]; exact (List.getElem?_eq_some_iff.1 hj).1
        refine ⟨hjl, ?_⟩
        rw [hws] at hj
        simpa [hjl] using hj.symm
      have hone : ∀ u ∈ ws, u.oneCell' = true := fun u hu => by
        obtain ⟨j, hj⟩ := List.getElem?_of_mem hu
        obtain ⟨hjl, rfl⟩ := hwg j u hj
        have h6 : (ys.map f).flatten[j]? = some ((ys.map f).flatten[j]'(by omega)) := List.getElem?_eq_getElem (by omega)
        have h7 : (ys.map f).flatten[j]'(by omega) ∈ (ys.map f).flatten := List.getElem_mem _
        obtain ⟨c, hc, hc2⟩ := List.mem_flatten.1 h7
        obtain ⟨y0, hy0, rfl⟩ := List.mem_map.1 hc
        exact (VR.base (ι := ι) _ _ (h5' j _ h6)).one (List.all_eq_true.1 (hq y0 hy0) _ hc2)
      have hnews : ∀ j u, ws[j]? = some u → w.cell? ((⟨b, off, none⟩ : Addr).add j) = some u := fun j u hj => by
        obtain ⟨hjl, rfl⟩ := hwg j u hj
        rw [Go.WideShapes.add_plain]
        exact hr.sub _ _ (h4 j _ (List.getElem?_eq_getElem (by omega)))
      have hmax : l.length + ys.length ≤ maxLen := by simp only [maxLen]; omega
      obtain ⟨v', w', h6, h7, h8, _⟩ := run_append_own (P := P) w 0 t ot e zi z sz by_ hu hzi hzz hisz hiby hzs hsz0 (ι id) l.length vs hown ⟨b, off, none⟩ ys.length cap ws hwl hnews hone hmax hlen (Nat.zero_le _)
      have hft : footOf v' = footOf (ι id) ∨ footOf v' = some w.heap.size := by
        have h7' := h7
        rcases hown.2 with ⟨h2, h3'⟩ | ⟨g0, cap0, cur0, h2, _, hg0, hn0, hc0, hs0, htake⟩
        · -- out of nothing
          have hown' : w.ownsRow w.heap.size e sz (ι id) l.length vs := ⟨hown.1, .inl ⟨h2, h3'⟩⟩
          obtain ⟨v2, w2, k6, k7, k8, _⟩ := run_append_own (P := P) w w.heap.size t ot e zi z sz by_ hu hzi hzz hisz hiby hzs hsz0 (ι id) l.length vs hown' ⟨b, off, none⟩ ys.length cap ws hwl hnews hone hmax hlen (Nat.le_refl _)
          rw [h6] at k6
          injection k6 with k6 k6'
          subst k6; subst k6'
          have hnr := run_append_nil (P := P) w t ot e zi z hu hzi hzz ⟨b, off, none⟩ ys.length cap ws (by rw [hisz]; exact hwl) hnews (by have := List.length_pos_iff.2 hnil; omega) (by omega) (by rw [h3'] at hlen; simp only [Nat.zero_add] at hlen; rw [hiby]; omega)
          rw [← h2, h6] at hnr
          injection hnr with hnr _
          exact .inr (by rw [hnr]; rfl)
        · by_cases hroom : l.length + ys.length ≤ cap0
          · have hrr := run_append_room (P := P) w t ot e zi hu hzi g0 l.length cap0 cur0 hg0 ⟨b, off, none⟩ ys.length cap ws (by rw [hisz]; exact hwl) hnews hone hroom (by rw [hisz, hwl, hs0, ← Nat.add_mul]; exact Nat.mul_le_mul_right _ hroom)
            rw [← h2, h6] at hrr
            injection hrr with hrr _
            exact .inl (by rw [hrr, h2]; rfl)
          · have hgr := run_append_grow (P := P) w t ot e zi z hu hzi hzz ⟨g0, 0, none⟩ l.length cap0 vs (by rw [hisz]; exact hown.1) (hown.cells (g := g0) (by rw [h2]; rfl)) ⟨b, off, none⟩ ys.length cap ws (by rw [hisz]; exact hwl) hnews (by omega) (by omega) (growslice_fits (by omega) (by rw [hiby]; exact hlen))
            rw [← h2, h6] at hgr
            injection hgr with hgr _
            exact .inr (by rw [hgr]; rfl)
      rw [List.length_map] at e2
      rw [e2]
      refine ⟨v', w', ws, h6, h7, h8, hft, ⟨by omega, fun j x u hx hu => ?_⟩, h3⟩
      obtain ⟨hjl, rfl⟩ := hwg j u hu
      exact h5' j x hx
  obtain ⟨v', w', ws, h6, h7, h8, hft, h9, h10⟩ := key
  have hform : ∃ A m c, v' = .slice A m c := by
    rcases h7.2 with ⟨h2, _⟩ | ⟨g, cap', cur, h2, _⟩
    · exact ⟨_, _, _, h2⟩
    · exact ⟨_, _, _, h2⟩
  obtain ⟨B0, d0, hi0, _⟩ := hr.rowForm hg
  have hob : ∀ k, (ι id).ownBlock = some k ↔ footOf (ι id) = some k := fun k => by rw [hi0]; cases B0 <;> simp [footOf, Value.ownBlock]
  have hnew := hr.turn (id := id) (u := v') (h' := (id, .row e sz ((l ++ ys).map f)) :: h) (c' := .row e sz ((l ++ ys).map f)) (w' := w')
    (fun i c hi hc => by
      rw [hget_cons, if_neg (fun e => hi e.symm)] at hc
      exact ⟨hc, .inr (loneH_get hl i c hc)⟩)
    (by rw [hget_cons, if_pos rfl])
    ⟨hsz0, fun c hc => by
      rw [List.map_append] at hc
      rcases List.mem_append.1 hc with hc | hc
      · exact hsz c hc
      · exact h10 c hc, vs ++ ws, by rw [upd_eq, List.length_map, List.length_append]; exact h7, by rw [List.map_append, List.flatten_append]; exact hL.append h9⟩
    h8.os h8.tape h8.output h8.size
    (fun k hk hne => h8.block k hk fun e => hne _ hg ((hob k).1 e.symm))
    (fun g hv => by
      rcases hft with h1 | h1
      · exact .inl ⟨_, hg, by rw [← h1]; exact hv⟩
      · rw [h1] at hv; cases hv; exact .inr (Nat.le_refl _))
    (.inl (Nat.ble_eq ▸ h5))
  exact ⟨v', w', h6, hform, hnew⟩

/-- An append that takes a row and yields another one. -/
theorem tl_ap {α : Type} {id id2 sz : Nat} {l : List α} {f : α → List AV} {t e : TypeId} {x y : Operand} {z0 : List AV} {yl : List (List AV)} {ys : List α} {by_ : Nat} {h' : Heap} (ho : o.op = .call { callee := .builtin .append, args := #[x, y], argTypes := #[t, t] }) (hx : evA s x = .own id) (hg : hget h id = some (.row e sz (l.map f))) (ht : sliceE P t = some e) (hz : sizeQ P e sz = true) (h0 : zeroA P e = some z0) (hz0 : Nat.beq z0.length sz = true) (hby : bytesQ P e by_ = true) (hy : evA s y = .lst sz yl) (hyl : yl = ys.map f) (hq : ∀ y ∈ ys, (f y).all oneQ = true)
    (hlen : (l.length + ys.length) * by_ ≤ 140737488355328) (hlen2 : l.length + ys.length ≤ 9223372036854775807) (h10 : locQ id = true) (h5 : Nat.ble 5 id2 = true) (hf : freshH id2 h = true) (hlo : loneH id2 (hdel id h) = true) (hh : LeH ((id2, .row e sz ((l ++ ys).map f)) :: hdel id h) h') : TuL P [id2] o s h h' (.own id2) := fun E σ ι a w hr hv K Q hK => by
  subst hyl
  have hX : VR σ ι (evA s x) (a.eval x) := hv x (by rw [ho]; simp [Op.operands, Call.operands])
  have hY : VR σ ι (evA s y) (a.eval y) := hv y (by rw [ho]; simp [Op.operands, Call.operands])
  rw [hx] at hX
  rw [hy] at hY
  have e1 := hX.own_inv
  have h5' := Nat.ble_eq ▸ h5
  have hr2 := hr.rename hg (locQ_spec h10) h5' hf
  obtain ⟨v', w', h6, ⟨A, m, c, e0⟩, hnew⟩ := app_key (P := P) (ot := o.type) hr2 ht hz h0 (Nat.eq_of_beq_eq_true hz0) hby (by rw [hget_cons, if_pos rfl]) (hY.upd (u := ι id) rfl) hq hlen hlen2 h5 hlo
  rw [upd_eq] at h6
  unfold Oper.wp
  have hrun : (execOp a.eval o).run P w = .ok (.value v') w' := by
    unfold execOp
    simp only [ho, resolve, invoke, builtin, Sem.run_bind, Sem.run_pure, Result.andThen_ok, List.map_toArray, List.map_cons, List.map_nil, e1, h6]
  rw [hrun]
  refine hK σ _ w' v' (Sig.le.refl σ) (fun n s a hN t => (t.updN h5' (hN id2 (by simp)) _).updN h5' (hN id2 (by simp)) _) ((hnew.le fun i c hc => ?_).le hh) ?_
  · rw [hget_cons] at hc ⊢
    split at hc
    · rename_i e; rw [if_pos e]; exact hc
    · rename_i e; rw [if_neg e, hget_cons, if_neg e]; exact hc
  · have h2 := VR.own (σ := σ) (ι := upd (upd ι id2 (ι id)) id2 v') id2 (by rw [upd_eq, e0]; rfl)
    rwa [upd_eq] at h2
/-- What is made so is turned no more: a list. -/
theorem TuL.frz {Ns : List Nat} {id sz : Nat} {e : TypeId} {xs : List (List AV)} {h0 h' : Heap} (ht : TuL P Ns o s h ((id, .row e sz xs) :: h0) (.own id)) (h10 : locQ id = true) (hh : LeH (hdel id h0) h') : TuL P Ns o s h h' (.lst sz xs) := fun E σ ι a w hr hv K Q hK =>
  ht E σ ι a w hr hv K Q fun σ' ι' w' u k1 k2 k3 k4 => by
    have hg : hget ((id, .row e sz xs) :: h0) id = some (.row e sz xs) := by rw [hget_cons, if_pos rfl]
    obtain ⟨hsz0, hsz, vs, hown, hL⟩ := k3.ch id _ hg
    have hv := k4.own_inv
    have hh' : ∀ i c, hget h' i = some c → hget (hdel id ((id, .row e sz xs) :: h0)) i = some c := fun i c hc => by
      have := hh i c hc
      rw [hget_hdel] at this ⊢
      split at this
      · cases this
      · rename_i e; rw [if_neg e, hget_cons, if_neg (fun q => e q.symm)]; exact this
    rcases hown.2 with ⟨h1, h2⟩ | ⟨g, cap, cur, h1, _, h2, h3, h4, h5, h6⟩
    · have hnil : xs = [] := List.eq_nil_of_length_eq_zero h2
      subst hnil
      refine hK σ' ι' w' u k1 k2 (k3.le fun i c hc => ?_) ?_
      · have := hh' i c hc
        rw [hget_hdel] at this
        split at this
        · cases this
        · exact this
      · rw [hv, h1]; exact .base _ _ (.empty _ _ _ (by simp))
    · obtain ⟨h7, h8⟩ := k3.letGo hg (g := g) (by rw [h1]; rfl) (locQ_spec h10) (xs.length * sz)
      refine hK _ ι' w' u (k1.trans h7) (fun n s a hN t => (k2 n s a hN t).mono h7) (h8.le hh') ?_
      rw [hv, h1]
      have hfl := flatten_length hsz
      refine .base _ _ (.lst _ _ _ 0 _ (fun j => (vs[j]?).getD undef) h3 h4 hsz (fun j c hc => ?_) fun j c hc => ?_)
      · obtain ⟨u, hu, _⟩ := hL.get hc
        have hj : j < xs.length * sz := by rw [← hfl]; exact (List.getElem?_eq_some_iff.1 hc).1
        unfold sigRow
        rw [if_pos ⟨rfl, rfl, by simpa using hj⟩]
        rw [hu]
        rw [← h6, List.getElem?_take] at hu
        rw [if_pos hj] at hu
        simp only [World.cell?, h2, Option.isSome_none, Bool.false_eq_true, if_false, Nat.zero_add, Option.getD_some]
        rw [← Array.getElem?_toList]; exact hu
      · obtain ⟨u, hu, hR⟩ := hL.get hc
        rw [hu]; exact hR.mono h7
/-- A literal slice, as a row of the call's own. -/
theorem tn_lit {α : Type} {f : α → List AV} {l : List α} {t e : TypeId} {sz len : Nat} {parts : Array (Nat × Operand)} {xs : List (List AV)} {id : Nat} (ho : o.op = .buildSlice t len parts) (ht : sliceE P t = some e) (hz : sizeQ P e sz = true) {z0 : List AV} (h0 : zeroA P e = some z0) (hsz : Nat.blt 0 sz = true) (hb : Nat.ble (len * sz) 16777216 = true)
    (hp : partsA s parts.toList 0 = some xs) (hl : Nat.beq parts.toList.length len = true) (hs : szOk sz xs = true) (hxs : xs = l.map f) (h5 : Nat.ble 5 id = true) (hfr : freshH id h = true) : TuN P id o s h ((id, .row e sz (l.map f)) :: h) (.own id) := fun E σ ι a w hr hv K Q hK => by
  have hsz := (by simpa [Nat.blt_eq] using hsz : 0 < sz)
  have hb := Nat.ble_eq ▸ hb
  have hl := Nat.eq_of_beq_eq_true hl
  have hx : ∀ x ∈ o.op.operands.toList, VR σ ι (evA s x) (a.eval x) := hv
  have hmem : ∀ p ∈ parts.toList, VR σ ι (evA s p.2) (a.eval p.2) := fun p hp => hx p.2 (by rw [ho]; simp only [Op.operands]; simpa using ⟨p.1, by simpa using hp⟩)
  obtain ⟨h1, h2⟩ := partsA_spec (a := a) parts.toList 0 xs hp hmem
  obtain ⟨zi, z, hzi, hzz, _⟩ := zeroA_spec h0
  have hvs : ∀ v ∈ parts.toList.map (fun p => a.eval p.2), v.cells.size = sz := fun v hv => by
    obtain ⟨j, hj⟩ := List.getElem?_of_mem hv
    have hjl : j < xs.length := by rw [h2.1]; exact (List.getElem?_eq_some_iff.1 hj).1
    have h3 := h2.2 j xs[j] v (List.getElem?_eq_getElem hjl) hj
    rw [← Array.length_toList, ← h3.1]
    exact szOk_spec hs _ (List.getElem_mem hjl)
  have hxl : xs.length = len := by rw [h2.1, List.length_map, hl]
  have hml : (parts.toList.map (fun p => a.eval p.2)).length = len := by rw [List.length_map, hl]
  obtain ⟨r, hr1, hr2, hr3⟩ := Go.Great.fill_dense hsz (parts.toList.map (fun p => a.eval p.2)) 0 ((Array.range (len * sz)).map (z.cells[· % z.cells.size]!)) hvs (by rw [hml]; simp)
  have hparts : (parts.map fun (i, x) => (i, a.eval x)).toList = (((parts.toList.map (fun p => a.eval p.2)).zipIdx 0).map fun x => (x.2, x.1)) := by
    rw [Array.toList_map, list_of_pairs (parts.toList.map fun (i, x) => (i, a.eval x)) 0 (by simpa [Function.comp_def] using h1)]
    simp [Function.comp_def]
  have hrl : r.toList = ((parts.toList.map (fun p => a.eval p.2)).map fun v => v.cells.toList).flatten := by
    refine flat_cells hsz _ r hvs (by rw [hr2, hml]; simp) fun k => ?_
    rw [hr3 k]
    simp only [Nat.zero_mul, Nat.zero_le, true_and, Nat.zero_add, Nat.sub_zero]
    split
    · rfl
    · rename_i hk
      rw [hml] at hk
      apply Array.getElem?_eq_none; simp; omega
  have hrun : (execOp a.eval o).run P w = .ok (.value (.slice (some ⟨w.heap.size, 0, none⟩) len len)) (w.alloc (.cells r e)) := by
    have hr1' : Instr.fill (fun i => some (i * sz, sz)) ((Array.range (len * sz)).map (z.cells[· % z.cells.size]!)) (parts.map fun (i, x) => (i, a.eval x)).toList = some r := by rw [hparts]; exact hr1
    have h5 := run_buildSlice (P := P) w (sliceE_spec ht) hz hzi hzz (by omega) hr1'
    simp only [execOp, ho, Sem.run_bind, Sem.run_pure, h5, Result.andThen_ok]
  have hL : L2 (VR0 σ) xs.flatten r.toList := by rw [hrl]; exact l2_flatten h2
  have hrs : r.size = len * sz := by
    have h9 := hL.1
    rw [flatten_length (szOk_spec hs), hxl] at h9
    rw [← Array.length_toList (xs := r), ← h9]
  have hnew := hr.turn (id := id) (u := .slice (some ⟨w.heap.size, 0, none⟩) len len) (h' := (id, .row e sz (l.map f)) :: h) (c' := .row e sz (l.map f)) (w' := w.alloc (.cells r e))
    (fun i c hi hc => by
      rw [hget_cons, if_neg (fun e => hi e.symm)] at hc
      exact ⟨hc, .inr (freshH_get hfr i c hc).2⟩)
    (by rw [hget_cons, if_pos rfl])
    ⟨hsz, by rw [← hxs]; exact szOk_spec hs, r.toList, by
      rw [upd_eq, ← hxs, hxl]
      have hll : len ≤ len * sz := Nat.le_mul_of_pos_right _ hsz
      exact ⟨by rw [Array.length_toList (xs := r)]; exact hrs, .inr ⟨w.heap.size, len, r, rfl, Nat.zero_le _, heap_alloc_new w _, Nat.le_refl _, by simp only [maxLen]; omega, hrs, by rw [← hrs, ← Array.length_toList (xs := r)]; exact List.take_length⟩⟩, by rw [← hxs]; exact hL⟩
    rfl rfl rfl (by simp) (fun k hk _ => Below.heap_alloc _ _ _ hk) (fun g hv => by cases hv; exact .inr (Nat.le_refl _)) (.inl (Nat.ble_eq ▸ h5))
  unfold Oper.wp
  rw [hrun]
  refine hK σ _ _ _ (Sig.le.refl σ) (fun n s a hN t => t.updN (Nat.ble_eq ▸ h5) hN _) hnew ?_
  have h5 := VR.own (σ := σ) (ι := upd ι id (.slice (some ⟨w.heap.size, 0, none⟩) len len)) id (by rw [upd_eq]; rfl)
  rwa [upd_eq] at h5
/-- An operation that turns nothing, at the place of one that makes a block. -/
theorem tn_ok {N : Nat} {v : AV} (hy : Y P o s h v) : TuN P N o s h h v := fun E σ ι a w hr hv K Q hK =>
  hy.out E σ ι a w hr hv K Q fun σ' w' u k1 k2 k3 => hK σ' ι w' u k1 (fun n s a _ t => t.mono k1) k2 k3
end
end Go.Proofs.Ytfjoaeghnfkdlaa
namespace Go.Proofs.Ytfjoaeghnfkdlaa
set_option linter.unusedSimpArgs false
set_option linter.unusedVariables false
set_option maxRecDepth 100000
set_option linter.unusedVariables false
set_option linter.unusedSimpArgs false
open Go.RowKit
section
variable {P : Program} {n : Md} {Q : Exit → Slots → Heap → Prop} {s : Slots} {h : Heap} {ops : Array Oper} {rest : List Oper} {o : Oper}
/-- What append yields, of cells that lie anywhere. -/
theorem app_keyW {α : Type} {E : Env} {σ : Sig} {ι : Nat → Value} {w : World} (hr : Rel E σ ι h w) {id sz by_ : Nat} {l ys : List α} {f : α → List AV} {t e ot : TypeId} (ht : sliceE P t = some e) (hz : sizeQ P e sz = true) {z0 : List AV} (h0 : zeroA P e = some z0) (hz0 : z0.length = sz)
    (hby : bytesQ P e by_ = true) (hg : hget h id = some (.row e sz (l.map f))) {vy : Value} {A : Option Addr} {cap : Nat} {ws : List Value} (e2 : vy = .slice A ys.length cap) (e5 : ys = [] ∨ ∃ b off, A = some ⟨b, off, none⟩ ∧ (∀ j u, ws[j]? = some u → w.cell? ((⟨b, off, none⟩ : Addr).add j) = some u)) (hwl : ws.length = ys.length * sz) (hL9 : L2 (VR0 σ) (ys.map f).flatten ws) (h3 : ∀ c ∈ ys.map f, c.length = sz) (hone : ∀ u ∈ ws, u.oneCell' = true)
    (hlen : (l.length + ys.length) * by_ ≤ 140737488355328) (hlen2 : l.length + ys.length ≤ 9223372036854775807) (h5 : Nat.ble 5 id = true) (hl : loneH id h = true) :
    ∃ v' w', (Builtin.append_ #[t, t] ot #[ι id, vy]).run P w = .ok v' w' ∧ (∃ A m c, v' = .slice A m c) ∧ Rel E σ (upd ι id v') ((id, .row e sz ((l ++ ys).map f)) :: h) w' := by
  obtain ⟨hsz0, hsz, vs, hown, hL⟩ := hr.ch id _ hg
  obtain ⟨zi, z, hzi, hzz, hzL⟩ := zeroA_spec h0
  have hisz : zi.size = sz := by unfold sizeQ at hz; rw [hzi] at hz; exact Nat.eq_of_beq_eq_true hz
  have hiby : zi.bytes = by_ := by unfold bytesQ at hby; rw [hzi] at hby; exact Nat.eq_of_beq_eq_true hby
  have hzs : z.cells.size = sz := by rw [← Array.length_toList, ← (hzL σ).1, hz0]
  have hu := sliceE_spec ht
  have key : ∃ v' w' ws, (Builtin.append_ #[t, t] ot #[ι id, vy]).run P w = .ok v' w' ∧ w'.ownsRow 0 e sz v' (l.length + ys.length) (vs ++ ws) ∧ w.grownBy w' (ι id).ownBlock ∧ (footOf v' = footOf (ι id) ∨ footOf v' = some w.heap.size) ∧ L2 (VR0 σ) (ys.map f).flatten ws ∧ (∀ c ∈ ys.map f, c.length = sz) := by
    rw [List.length_map] at hown
    by_cases hnil : ys = []
    · subst hnil
      refine ⟨ι id, w, [], ?_, by simpa using hown, ⟨rfl, rfl, rfl, Nat.le_refl _, fun _ _ _ => rfl⟩, .inl rfl, L2.nil _, by simp⟩
      rw [e2]
      rcases hown.2 with ⟨h2, h3⟩ | ⟨g, cap', cur, h2, _, h3, h4, _, h6, _⟩
      · rw [h2]
        cases A with
        | none => simp [Builtin.append_, run_underlying hu, sizeOf, typeInfo, hzi, Builtin.lenOf, Builtin.firstCells]
        | some ad =>
          have hl0 := run_loadCells_list (P := P) w ad [] (by simp)
          simp only [List.length_nil] at hl0
          simp [Builtin.append_, run_underlying hu, sizeOf, typeInfo, hzi, Builtin.lenOf, Builtin.firstCells, hl0]
      · rw [h2]
        cases A with
        | none => simp [Builtin.append_, run_underlying hu, sizeOf, typeInfo, hzi, Builtin.lenOf, Builtin.firstCells, h4, storeCells]
        | some ad =>
          have hl0 := run_loadCells_list (P := P) w ad [] (by simp)
          simp only [List.length_nil] at hl0
          simp [Builtin.append_, run_underlying hu, sizeOf, typeInfo, hzi, Builtin.lenOf, Builtin.firstCells, h4, storeCells, hl0]
    · rcases e5 with e5 | ⟨b, off, rfl, hnews⟩
      · exact absurd e5 hnil
      have hmax : l.length + ys.length ≤ maxLen := by simp only [maxLen]; omega
      obtain ⟨v', w', h6, h7, h8, _⟩ := run_append_own (P := P) w 0 t ot e zi z sz by_ hu hzi hzz hisz hiby hzs hsz0 (ι id) l.length vs hown ⟨b, off, none⟩ ys.length cap ws hwl hnews hone hmax hlen (Nat.zero_le _)
      have hft : footOf v' = footOf (ι id) ∨ footOf v' = some w.heap.size := by
        have h7' := h7
        rcases hown.2 with ⟨h2, h3'⟩ | ⟨g0, cap0, cur0, h2, _, hg0, hn0, hc0, hs0, htake⟩
        · -- out of nothing
          have hown' : w.ownsRow w.heap.size e sz (ι id) l.length vs := ⟨hown.1, .inl ⟨h2, h3'⟩⟩
          obtain ⟨v2, w2, k6, k7, k8, _⟩ := run_append_own (P := P) w w.heap.size t ot e zi z sz by_ hu hzi hzz hisz hiby hzs hsz0 (ι id) l.length vs hown' ⟨b, off, none⟩ ys.length cap ws hwl hnews hone hmax hlen (Nat.le_refl _)
          rw [h6] at k6
          injection k6 with k6 k6'
          subst k6; subst k6'
          have hnr := run_append_nil (P := P) w t ot e zi z hu hzi hzz ⟨b, off, none⟩ ys.length cap ws (by rw [hisz]; exact hwl) hnews (by have := List.length_pos_iff.2 hnil; omega) (by omega) (by rw [h3'] at hlen; simp only [Nat.zero_add] at hlen; rw [hiby]; omega)
          rw [← h2, h6] at hnr
          injection hnr with hnr _
          exact .inr (by rw [hnr]; rfl)
        · by_cases hroom : l.length + ys.length ≤ cap0
          · have hrr := run_append_room (P := P) w t ot e zi hu hzi g0 l.length cap0 cur0 hg0 ⟨b, off, none⟩ ys.length cap ws (by rw [hisz]; exact hwl) hnews hone hroom (by rw [hisz, hwl, hs0, ← Nat.add_mul]; exact Nat.mul_le_mul_right _ hroom)
            rw [← h2, h6] at hrr
            injection hrr with hrr _
            exact .inl (by rw [hrr, h2]; rfl)
          · have hgr := run_append_grow (P := P) w t ot e zi z hu hzi hzz ⟨g0, 0, none⟩ l.length cap0 vs (by rw [hisz]; exact hown.1) (hown.cells (g := g0) (by rw [h2]; rfl)) ⟨b, off, none⟩ ys.length cap ws (by rw [hisz]; exact hwl) hnews (by omega) (by omega) (growslice_fits (by omega) (by rw [hiby]; exact hlen))
            rw [← h2, h6] at hgr
            injection hgr with hgr _
            exact .inr (by rw [hgr]; rfl)
      rw [e2]
      exact ⟨v', w', ws, h6, h7, h8, hft, hL9, h3⟩
  obtain ⟨v', w', ws, h6, h7, h8, hft, h9, h10⟩ := key
  have hform : ∃ A m c, v' = .slice A m c := by
    rcases h7.2 with ⟨h2, _⟩ | ⟨g, cap', cur, h2, _⟩
    · exact ⟨_, _, _, h2⟩
    · exact ⟨_, _, _, h2⟩
  obtain ⟨B0, d0, hi0, _⟩ := hr.rowForm hg
  have hob : ∀ k, (ι id).ownBlock = some k ↔ footOf (ι id) = some k := fun k => by rw [hi0]; cases B0 <;> simp [footOf, Value.ownBlock]
  have hnew := hr.turn (id := id) (u := v') (h' := (id, .row e sz ((l ++ ys).map f)) :: h) (c' := .row e sz ((l ++ ys).map f)) (w' := w')
    (fun i c hi hc => by
      rw [hget_cons, if_neg (fun e => hi e.symm)] at hc
      exact ⟨hc, .inr (loneH_get hl i c hc)⟩)
    (by rw [hget_cons, if_pos rfl])
    ⟨hsz0, fun c hc => by
      rw [List.map_append] at hc
      rcases List.mem_append.1 hc with hc | hc
      · exact hsz c hc
      · exact h10 c hc, vs ++ ws, by rw [upd_eq, List.length_map, List.length_append]; exact h7, by rw [List.map_append, List.flatten_append]; exact hL.append h9⟩
    h8.os h8.tape h8.output h8.size
    (fun k hk hne => h8.block k hk fun e => hne _ hg ((hob k).1 e.symm))
    (fun g hv => by
      rcases hft with h1 | h1
      · exact .inl ⟨_, hg, by rw [← h1]; exact hv⟩
      · rw [h1] at hv; cases hv; exact .inr (Nat.le_refl _))
    (.inl (Nat.ble_eq ▸ h5))
  exact ⟨v', w', h6, hform, hnew⟩

theorem flat_drop {sz : Nat} : ∀ (xs : List (List AV)) (b : Nat), (∀ c ∈ xs, c.length = sz) → (xs.drop b).flatten = xs.flatten.drop (b * sz) := by
  intro xs
  induction xs with
  | nil => intro b _; simp
  | cons x xs ih =>
    intro b hs
    cases b with
    | zero => simp
    | succ b =>
      have hx1 := hs x List.mem_cons_self
      rw [List.drop_succ_cons, List.flatten_cons, ih b (fun c hc => hs c (List.mem_cons_of_mem _ hc)), List.drop_append, List.drop_of_length_le (l := x) (by rw [hx1, Nat.add_mul]; omega), hx1, show (b + 1) * sz - sz = b * sz by rw [Nat.add_mul]; omega, List.nil_append]
/-- append(x, y[lo:]) of two rows of the call's own. -/
theorem ao_slAp {α : Type} {o1 o2 : Oper} {t e : TypeId} {x1 y1 x2 : Operand} {d1 id1 id2 sz b by_ : Nat} {k : IntKind} {l1 l2 : List α} {f : α → List AV} {z0 : List AV} (ho1 : o1.op = .slice t x1 (some y1) none none) (hd1 : o1.dst = some d1) (ho2 : o2.op = .call { callee := .builtin .append, args := #[x2, .tmp d1], argTypes := #[t, t] })
    (hx1 : evA s x1 = .own id1) (hg1 : hget h id1 = some (.row e sz (l1.map f))) (hy1 : evA s y1 = .int k (b : Nat)) (hb : b ≤ l1.length) (hx2 : evA ((d1, .undef) :: s) x2 = .own id2) (hg2 : hget h id2 = some (.row e sz (l2.map f))) (ht : sliceE P t = some e) (hz : sizeQ P e sz = true) (h0 : zeroA P e = some z0) (hz0 : Nat.beq z0.length sz = true) (hby : bytesQ P e by_ = true) (hq : ∀ y ∈ l1, (f y).all oneQ = true)
    (hlen : (l2.length + l1.length) * by_ ≤ 140737488355328) (hlen2 : l2.length + l1.length ≤ 9223372036854775807) (h5 : Nat.ble 5 id2 = true) (hlo : loneH id2 h = true) (hgd1 : o1.guard = none) (hco1 : constsOk o1 = true) (hdo1 : dstOk n o1.dst = true) (hgd2 : o2.guard = none) (hco2 : constsOk o2 = true) (hdo2 : dstOk n o2.dst = true)
    (hk : O P n ops Q rest (putS (killS id2 ((d1, .undef) :: s)) o2.dst (.own id2)) ((id2, .row e sz ((l2 ++ l1.drop b).map f)) :: h)) : O P n ops Q (o1 :: o2 :: rest) s h := ⟨aops_one hgd1 fun E σ ι a w hr ht' => by
  have hX : VR σ ι (evA s x1) (a.eval x1) := evA_sound (List.all_eq_true.1 hco1 x1 (by rw [ho1]; simp [Op.operands])) fun t _ => ht'.at_ t
  have hY : VR σ ι (evA s y1) (a.eval y1) := evA_sound (List.all_eq_true.1 hco1 y1 (by rw [ho1]; simp [Op.operands])) fun t _ => ht'.at_ t
  rw [hx1] at hX
  rw [hy1] at hY
  obtain ⟨hsz0, hsz, vs, hown, hL⟩ := hr.ch id1 _ hg1
  have e1 := hX.own_inv
  obtain ⟨A, cap, e2, e3, e4⟩ := hr.rowForm hg1
  rw [List.length_map] at e2 e3 hown
  have rb : ∀ c, (Instr.sliceBound (a.eval y1) l1.length c).run P w = .ok b w := fun c => by
    have h4 : (0 : Int) ≤ (b : Int) ∧ (b : Int) ≤ (l1.length : Int) := by omega
    simp only [Instr.sliceBound, hY.int_inv.1, asIntOf, Sem.run_bind, Sem.run_pure, Result.andThen_ok, h4, and_self, if_true, Int.toNat_natCast]
  have hrun : (execOp a.eval o1).run P w = .ok (.value (.slice (if cap = b then A else A.map (·.add (b * sz))) (l1.length - b) (cap - b))) w := by
    simp [execOp, ho1, Instr.sliceAt, run_underlying (sliceE_spec ht), Instr.slice, e1, e2, Instr.sliceBounds, rb, sizeQ_run hz]
  unfold Oper.wp
  rw [hrun]
  generalize hv1 : (Value.slice (if cap = b then A else A.map (·.add (b * sz))) (l1.length - b) (cap - b)) = v1
  have ht2 : TR n σ ι ((d1, .undef) :: s) (a.put o1.dst v1) := by
    have := ht'.putS hdo1 (x := .undef) (v := v1) (.base _ _ (.undef _))
    rw [hd1] at this ⊢
    exact this
  have hd1' : d1 < n.n := by rw [hd1] at hdo1; simpa [dstOk] using hdo1
  have hev : (a.put o1.dst v1).eval (.tmp d1) = v1 := by
    rw [hd1]
    show (a.put (some d1) v1).tmps.getD d1 undef = v1
    simp [Act.put, Array.getD, ht'.size, hd1']
  have hX2 : VR σ ι (evA ((d1, .undef) :: s) x2) ((a.put o1.dst v1).eval x2) := evA_sound (List.all_eq_true.1 hco2 x2 (by rw [ho2]; simp [Op.operands, Call.operands])) fun t _ => ht2.at_ t
  rw [hx2] at hX2
  have e6 := hX2.own_inv
  have hvl : vs.length = l1.length * sz := hown.1
  have hfd : ((l1.drop b).map f).flatten = (l1.map f).flatten.drop (b * sz) := by rw [List.map_drop, flat_drop _ _ hsz]
  have hL9 : L2 (VR0 σ) ((l1.drop b).map f).flatten (vs.drop (b * sz)) := by rw [hfd]; exact hL.drop _
  have hone : ∀ u ∈ vs.drop (b * sz), u.oneCell' = true := fun u hu => by
    obtain ⟨j, hj⟩ := List.getElem?_of_mem (List.mem_of_mem_drop hu)
    have hjl : j < (l1.map f).flatten.length := by rw [hL.1]; exact (List.getElem?_eq_some_iff.1 hj).1
    have h6 : (l1.map f).flatten[j]? = some ((l1.map f).flatten[j]'hjl) := List.getElem?_eq_getElem hjl
    have h7 : (l1.map f).flatten[j]'hjl ∈ (l1.map f).flatten := List.getElem_mem _
    obtain ⟨c, hc, hc2⟩ := List.mem_flatten.1 h7
    obtain ⟨y0, hy0, rfl⟩ := List.mem_map.1 hc
    exact (VR.base (ι := ι) _ _ (hL.2 j _ u h6 hj)).one (List.all_eq_true.1 (hq y0 hy0) _ hc2)
  obtain ⟨v', w', h6, ⟨A', m', c', e0⟩, hnew⟩ := app_keyW (P := P) (ot := o2.type) (ys := l1.drop b) (vy := v1) (ws := vs.drop (b * sz)) hr ht hz h0 (Nat.eq_of_beq_eq_true hz0) hby hg2
    (A := if cap = b then A else A.map (·.add (b * sz))) (cap := cap - b) (by rw [← hv1, List.length_drop])
    (by
      by_cases hbl : b = l1.length
      · exact .inl (by rw [hbl]; simp)
      · refine .inr ?_
        rw [if_neg (by omega)]
        rcases hown.2 with ⟨h1, h2⟩ | ⟨g, cap', cur, h1, _, h3, h4, h5', h6, h7⟩
        · omega
        · rw [h1] at e2
          injection e2 with q1 q2 q3
          refine ⟨g, b * sz, by rw [← q1, Option.map_some, Go.WideShapes.add_plain, Nat.zero_add], fun j u hj => ?_⟩
          rw [List.getElem?_drop] at hj
          have := hown.cells (g := g) (by rw [h1]; rfl) _ u hj
          rw [Go.WideShapes.add_plain] at this ⊢
          rw [Nat.zero_add] at this
          exact this)
    (by rw [List.length_drop, List.length_drop, hvl, Nat.sub_mul]) hL9 (fun c hc => by
      obtain ⟨q, hq1, rfl⟩ := List.mem_map.1 hc
      exact hsz _ (List.mem_map_of_mem (List.mem_of_mem_drop hq1))) hone
    (Nat.le_trans (Nat.mul_le_mul_right _ (by rw [List.length_drop]; omega)) hlen) (by rw [List.length_drop]; omega) h5 hlo
  refine wpL_one hgd2 ?_
  unfold Oper.wp
  have hrun2 : (execOp (a.put o1.dst v1).eval o2).run P w = .ok (.value v') w' := by
    unfold execOp
    simp only [ho2, resolve, invoke, builtin, Sem.run_bind, Sem.run_pure, Result.andThen_ok, List.map_toArray, List.map_cons, List.map_nil, e6, hev, h6]
  rw [hrun2]
  refine hk.out E σ _ _ _ hnew ((ht2.kill id2 (Nat.ble_eq ▸ h5) v').putS hdo2 ?_)
  have h2 := VR.own (σ := σ) (ι := upd ι id2 v') id2 (by rw [upd_eq, e0]; rfl)
  rwa [upd_eq] at h2⟩
/-- A row that is cut yields another one. -/
theorem tl_cut {α : Type} {t e : TypeId} {x y : Operand} {id id2 sz b : Nat} {k : IntKind} {l : List α} {f : α → List AV} {h' : Heap} (ho : o.op = .slice t x none (some y) none) (hx : evA s x = .own id) (hg : hget h id = some (.row e sz (l.map f))) (ht : sliceE P t = some e) (hz : sizeQ P e sz = true)
    (hy : evA s y = .int k (b : Nat)) (hb : b ≤ l.length) (h10 : locQ id = true) (h52 : Nat.ble 5 id2 = true) (hf : freshH id2 h = true) (hlo2 : loneH id2 (hdel id h) = true) (hh : LeH ((id2, .row e sz ((l.take b).map f)) :: hdel id h) h') : TuL P [id2] o s h h' (.own id2) := fun E σ ι a w hr hv K Q hK => by
  have hX : VR σ ι (evA s x) (a.eval x) := hv x (by rw [ho]; simp [Op.operands])
  have hY : VR σ ι (evA s y) (a.eval y) := hv y (by rw [ho]; simp [Op.operands])
  rw [hx] at hX
  rw [hy] at hY
  have e1' := hX.own_inv
  have h5' := Nat.ble_eq ▸ h52
  have hr0 := hr.rename hg (locQ_spec h10) h5' hf
  have hg' : hget ((id2, Chunk.row e sz (l.map f)) :: hdel id h) id2 = some (.row e sz (l.map f)) := by rw [hget_cons, if_pos rfl]
  have e1 : a.eval x = upd ι id2 (ι id) id2 := by rw [upd_eq]; exact e1'
  have main : ∀ {h : Heap} {ι : Nat → Value} (hr : Rel E σ ι h w) (id : Nat) (hg : hget h id = some (.row e sz (l.map f))) (hlo : loneH id h = true) (h5 : Nat.ble 5 id = true) (e1 : a.eval x = ι id), ∃ A cap, (execOp a.eval o).run P w = .ok (.value (.slice A b cap)) w ∧ Rel E σ (upd ι id (.slice A b cap)) ((id, .row e sz ((l.take b).map f)) :: h) w := by
    intro h ι hr id hg hlo h5 e1
    obtain ⟨hsz0, hsz, vs, hown, hL⟩ := hr.ch id _ hg
    obtain ⟨A, cap, e2, e3, e4⟩ := hr.rowForm hg
    have hle : b ≤ cap := by rw [List.length_map] at e3; omega
    have rb : ∀ c, (Instr.sliceBound (a.eval y) cap c).run P w = .ok b w := fun c => by
      have h4 : (0 : Int) ≤ (b : Int) ∧ (b : Int) ≤ (cap : Int) := by omega
      simp only [Instr.sliceBound, hY.int_inv.1, asIntOf, Sem.run_bind, Sem.run_pure, Result.andThen_ok, h4, and_self, if_true, Int.toNat_natCast]
    have hrun : (execOp a.eval o).run P w = .ok (.value (.slice A b cap)) w := by
      have hadd : A.map (fun x => x.add 0) = A := by
        cases A with
        | none => rfl
        | some ad => simp [Addr.add]
      simp [execOp, ho, Instr.sliceAt, run_underlying (sliceE_spec ht), Instr.slice, e1, e2, Instr.sliceBounds, rb, sizeQ_run hz, hadd]
    have hnew := hr.turn (id := id) (u := .slice A b cap) (h' := (id, .row e sz ((l.take b).map f)) :: h) (c' := .row e sz ((l.take b).map f)) (w' := w)
      (fun i c hi hc => by
        rw [hget_cons, if_neg (fun e => hi e.symm)] at hc
        exact ⟨hc, .inr (loneH_get hlo i c hc)⟩)
      (by rw [hget_cons, if_pos rfl])
      ⟨hsz0, fun c hc => by
        obtain ⟨q, hq, rfl⟩ := List.mem_map.1 hc
        exact hsz _ (List.mem_map_of_mem (List.mem_of_mem_take hq)), vs.take (b * sz), by
          rw [upd_eq]
          have hlen : ((l.take b).map f).length = b := by simp; omega
          have hbb : b * sz ≤ l.length * sz := Nat.mul_le_mul_right _ hb
          have hvl := hown.1
          rw [List.length_map] at hvl
          rw [hlen]
          refine ⟨by rw [List.length_take]; omega, ?_⟩
          rcases hown.2 with ⟨h1, h2⟩ | ⟨g, cap', cur, h1, _, h3, h4, h5', h6, h7⟩
          · rw [h1] at e2
            injection e2 with q1 q2 q3
            rw [List.length_map] at h2
            exact .inl ⟨by rw [← q1, ← q3, show b = 0 by omega], by omega⟩
          · rw [h1] at e2
            injection e2 with q1 q2 q3
            subst q1; subst q3
            refine .inr ⟨g, cap', cur, rfl, Nat.zero_le _, h3, hle, h5', h6, ?_⟩
            rw [← h7, List.take_take]
            rw [List.length_map]
            congr 1; omega, by
          have := hL.take (b * sz)
          rw [show (l.take b).map f = (l.map f).take b by rw [List.map_take]]
          rwa [show ((l.map f).take b).flatten = (l.map f).flatten.take (b * sz) from ?_]
          have : ∀ (xs : List (List AV)) (b : Nat), (∀ c ∈ xs, c.length = sz) → (xs.take b).flatten = xs.flatten.take (b * sz) := by
            intro xs
            induction xs with
            | nil => intro b _; simp
            | cons x xs ih =>
              intro b hs
              cases b with
              | zero => simp
              | succ b =>
                have hx1 := hs x List.mem_cons_self
                rw [List.take_succ_cons, List.flatten_cons, List.flatten_cons, ih b (fun c hc => hs c (List.mem_cons_of_mem _ hc)), List.take_append, List.take_of_length_le (l := x) (by rw [hx1, Nat.add_mul]; omega), hx1, show (b + 1) * sz - sz = b * sz by rw [Nat.add_mul]; omega]
          exact this _ _ hsz⟩
      rfl rfl rfl (Nat.le_refl _) (fun _ _ _ => rfl)
      (fun g hv => .inl ⟨_, hg, by rw [e2]; cases A <;> exact hv⟩) (.inl (Nat.ble_eq ▸ h5))
    exact ⟨A, cap, hrun, hnew⟩
  obtain ⟨A, cap, hrun, hnew⟩ := main hr0 id2 hg' hlo2 h52 e1
  unfold Oper.wp
  rw [hrun]
  refine hK σ _ w _ (Sig.le.refl σ) (fun n s a hN t => (t.updN h5' (hN id2 (by simp)) _).updN h5' (hN id2 (by simp)) _) ((hnew.le fun i c hc => ?_).le hh) ?_
  · rw [hget_cons] at hc ⊢
    split at hc
    · rename_i e; rw [if_pos e]; exact hc
    · rename_i e; rw [if_neg e, hget_cons, if_neg e]; exact hc
  · have h2 := VR.own (σ := σ) (ι := upd (upd ι id2 (ι id)) id2 (.slice A b cap)) id2 (by rw [upd_eq]; cases A <;> rfl)
    rwa [upd_eq] at h2
/-- A row under another name. -/
theorem turn_ren {t id id2 sz : Nat} {e : TypeId} {xs : List (List AV)} (hs : get s t = .own id) (hg : hget h id = some (.row e sz xs)) (h10 : locQ id = true) (h5 : Nat.ble 5 id2 = true) (hf : freshH id2 h = true) : Turns n s h ((t, .own id2) :: killS id2 s) ((id2, .row e sz xs) :: hdel id h) := by
  intro E σ ι a w hr ht
  have h5' : 5 ≤ id2 := Nat.ble_eq ▸ h5
  have hr0 := hr.rename hg (locQ_spec h10) h5' hf
  refine ⟨σ, upd ι id2 (ι id), hr0, ?_⟩
  have hk := ht.kill id2 h5' (ι id)
  refine ⟨hk.size, hk.defers, fun u => ?_⟩
  rw [get_cons]
  split
  · rename_i e; subst e
    have hv := ht.at_ t
    rw [hs] at hv
    obtain ⟨A, cap, e2, _, _⟩ := hr.rowForm hg
    rw [hv.own_inv]
    have h2 := VR.own (σ := σ) (ι := upd ι id2 (ι id)) id2 (by rw [upd_eq, e2]; rfl)
    rwa [upd_eq] at h2
  · exact hk.at_ u
end
end Go.Proofs.Ytfjoaeghnfkdlaa
