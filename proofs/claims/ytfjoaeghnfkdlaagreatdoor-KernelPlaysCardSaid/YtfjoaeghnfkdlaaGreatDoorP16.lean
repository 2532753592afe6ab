/- Appends behind appends, a slice of a row that is appended: each takes a row and yields another one; in whatever order the region is walked. No condition. -/
import Derived.Test.YtfjoaeghnfkdlaaGreatDoorP15
import Derived.Test.YtfjoaeghnfkdlaaGreatDoorP7
import Derived.Test.YtfjoaeghnfkdlaaGreatDoorP10
set_option linter.unusedSimpArgs false
set_option linter.unusedVariables false
set_option maxHeartbeats 1000000
namespace Go.Proofs.YtfjoaeghnfkdlaaGreatDoor
set_option maxRecDepth 100000
open Go.RowKit
section
variable {P : Program} {n : Md} {Q : Exit → Slots → Heap → Prop} {s : Slots} {h : Heap} {ops : Array Oper} {rest : List Oper} {o : Oper}
theorem Rel.rename {E : Env} {σ : Sig} {ι : Nat → Value} {w : World} (hr : Rel E σ ι h w) {id id2 sz : Nat} {e : TypeId} {xs : List (List AV)} (hg : hget h id = some (.row e sz xs)) (h10 : 10 ≤ id ∧ id < 100) (h5 : 5 ≤ id2) (hf : freshH id2 h = true) : Rel E σ (upd ι id2 (ι id)) ((id2, .row e sz xs) :: hdel id h) w := by
  have hin : ∀ i c, i ≠ id2 → hget ((id2, .row e sz xs) :: hdel id h) i = some c → i ≠ id ∧ hget h i = some c := fun i c hi hc => by
    rw [hget_cons, if_neg (fun e => hi e.symm), hget_hdel] at hc
    split at hc
    · cases hc
    · exact ⟨‹_›, hc⟩
  have hno : (id, id) = (id, id) := rfl
  have hmay : ∀ g, (id, g) ∉ E.may := fun g hm => by have := hr.low _ hm; simp only at this; omega
  refine ⟨hr.os, hr.tape, hr.output, hr.size, hr.old, hr.sigOld, hr.sub, fun i c hc => ?_, fun i c hc g hgf => ?_, fun i j c d hc hd g h1 h2 => ?_, fun p hp => ?_, hr.low, fun p hp => ⟨(hr.xo p hp).1, (hr.xo p hp).2.1, fun i c hc => ?_⟩⟩
  · by_cases hi : i = id2
    · subst hi
      rw [hget_cons, if_pos rfl] at hc
      cases hc
      obtain ⟨a1, a2, vs, a3, a4⟩ := hr.ch id _ hg
      exact ⟨a1, a2, vs, by rw [upd_eq]; exact a3, a4⟩
    · obtain ⟨_, hc2⟩ := hin i c hi hc
      have h4 := hr.ch i c hc2
      have hfr := (freshH_get hf i c hc2).2
      cases c with
      | blk ty cs =>
        obtain ⟨g, cur, h5, h6, h7⟩ := h4
        exact ⟨g, cur, by rw [upd_ne hi]; exact h5, h6, h7.1, fun j x y a b => (h7.2 j x y a b).upd (hasIdL_get hfr j x a)⟩
      | row e sz xs =>
        obtain ⟨h0, h5, vs, h6, h7⟩ := h4
        exact ⟨h0, h5, vs, by rw [upd_ne hi]; exact h6, h7⟩
      | sem c => show c.rel _ _ _; rw [upd_ne hi]; exact h4
  · by_cases hi : i = id2
    · subst hi
      rw [upd_eq] at hgf
      have := hr.foot id _ hg g hgf
      exact ⟨.inr (this.1.resolve_left (hmay g)), this.2⟩
    · rw [upd_ne hi] at hgf
      exact hr.foot i c (hin i c hi hc).2 g hgf
  · by_cases hi : i = id2
    · by_cases hj : j = id2
      · rw [hi, hj]
      · subst hi
        rw [upd_eq] at h1
        rw [upd_ne hj] at h2
        exact absurd (hr.dj id j _ d hg (hin j d hj hd).2 g h1 h2).symm (hin j d hj hd).1
    · by_cases hj : j = id2
      · subst hj
        rw [upd_eq] at h2
        rw [upd_ne hi] at h1
        exact absurd (hr.dj i id c _ (hin i c hi hc).2 hg g h1 h2) (hin i c hi hc).1
      · rw [upd_ne hi] at h1
        rw [upd_ne hj] at h2
        exact hr.dj i j c d (hin i c hi hc).2 (hin j d hj hd).2 g h1 h2
  · have := hr.pin p hp
    exact ⟨this.1, by rw [upd_ne (by omega)]; exact this.2⟩
  · by_cases hi : i = id2
    · subst hi; rw [upd_eq]; exact (hr.xo p hp).2.2 id _ hg
    · rw [upd_ne hi]; exact (hr.xo p hp).2.2 i c (hin i c hi hc).2
theorem app_key {α : Type} {E : Env} {σ : Sig} {ι : Nat → Value} {w : World} (hr : Rel E σ ι h w) {id sz by_ : Nat} {l ys : List α} {f : α → List AV} {t e ot : TypeId} (ht : sliceE P t = some e) (hz : sizeQ P e sz = true) {z0 : List AV} (h0 : zeroA P e = some z0) (hz0 : z0.length = sz)
    (hby : bytesQ P e by_ = true) (hg : hget h id = some (.row e sz (l.map f))) {vy : Value} (hY : VR σ ι (.lst sz (ys.map f)) vy) (hq : ∀ y ∈ ys, (f y).all oneQ = true) (hlen : (l.length + ys.length) * by_ ≤ 140737488355328) (hlen2 : l.length + ys.length ≤ 9223372036854775807) (h5 : Nat.ble 5 id = true) (hl : loneH id h = true) :
    ∃ v' w', (Builtin.append_ #[t, t] ot #[ι id, vy]).run P w = .ok v' w' ∧ (∃ A m c, v' = .slice A m c) ∧ Rel E σ (upd ι id v') ((id, .row e sz ((l ++ ys).map f)) :: h) w' := by
  obtain ⟨hsz0, hsz, vs, hown, hL⟩ := hr.ch id _ hg
  obtain ⟨zi, z, hzi, hzz, hzL⟩ := zeroA_spec h0
  have hisz : zi.size = sz := by unfold sizeQ at hz; rw [hzi] at hz; exact Nat.eq_of_beq_eq_true hz
  have hiby : zi.bytes = by_ := by unfold bytesQ at hby; rw [hzi] at hby; exact Nat.eq_of_beq_eq_true hby
  have hzs : z.cells.size = sz := by rw [← Array.length_toList, ← (hzL σ).1, hz0]
  have hu := sliceE_spec ht
  have key : ∃ v' w' ws, (Builtin.append_ #[t, t] ot #[ι id, vy]).run P w = .ok v' w' ∧ w'.ownsRow 0 e sz v' (l.length + ys.length) (vs ++ ws) ∧ w.grownBy w' (ι id).ownBlock ∧ (footOf v' = footOf (ι id) ∨ footOf v' = some w.heap.size) ∧ L2 (VR0 σ) (ys.map f).flatten ws ∧ (∀ c ∈ ys.map f, c.length = sz) := by
    obtain ⟨A, cap, e2, e3, e4, e5⟩ := hY.lst_inv
    rw [List.length_map] at hown
    by_cases hnil : ys = []
    · subst hnil
      refine ⟨ι id, w, [], ?_, by simpa using hown, ⟨rfl, rfl, rfl, Nat.le_refl _, fun _ _ _ => rfl⟩, .inl rfl, L2.nil _, by simp⟩
      rw [e2]
      rcases hown.2 with ⟨h2, h3⟩ | ⟨g, cap', cur, h2, _, h3, h4, _, h6, _⟩
      · rw [h2]
        cases A with
        | none => simp [Builtin.append_, run_underlying hu, sizeOf, typeInfo, hzi, Builtin.lenOf, Builtin.firstCells]
        | some ad =>
          have hl0 := run_loadCells_list (P := P) w ad [] (by simp)
          simp only [List.length_nil] at hl0
          simp [Builtin.append_, run_underlying hu, sizeOf, typeInfo, hzi, Builtin.lenOf, Builtin.firstCells, hl0]
      · rw [h2]
        cases A with
        | none => simp [Builtin.append_, run_underlying hu, sizeOf, typeInfo, hzi, Builtin.lenOf, Builtin.firstCells, h4, storeCells]
        | some ad =>
          have hl0 := run_loadCells_list (P := P) w ad [] (by simp)
          simp only [List.length_nil] at hl0
          simp [Builtin.append_, run_underlying hu, sizeOf, typeInfo, hzi, Builtin.lenOf, Builtin.firstCells, h4, storeCells, hl0]
    · rcases e5 with e5 | ⟨b, off, g, rfl, h3, h4, h5'⟩
      · exact absurd (by simpa using e5) hnil
      have hfl : ((ys.map f).flatten).length = ys.length * sz := by rw [flatten_length h3, List.length_map]
      obtain ⟨ws, hws⟩ : ∃ ws : List Value, ws = (List.range (ys.length * sz)).map g := ⟨_, rfl⟩
      have hwl : ws.length = ys.length * sz := by rw [hws]; simp
      have hwg : ∀ j u, ws[j]? = some u → j < ys.length * sz ∧ u = g j := fun j u hj => by
        have hjl : j < ys.length * sz := by rw [← hwl]; exact (List.getElem?_eq_some_iff.1 hj).1
        refine ⟨hjl, ?_⟩
        rw [hws] at hj
        simpa [hjl] using hj.symm
      have hone : ∀ u ∈ ws, u.oneCell' = true := fun u hu => by
        obtain ⟨j, hj⟩ := List.getElem?_of_mem hu
        obtain ⟨hjl, rfl⟩ := hwg j u hj
        have h6 : (ys.map f).flatten[j]? = some ((ys.map f).flatten[j]'(by omega)) := List.getElem?_eq_getElem (by omega)
        have h7 : (ys.map f).flatten[j]'(by omega) ∈ (ys.map f).flatten := List.getElem_mem _
        obtain ⟨c, hc, hc2⟩ := List.mem_flatten.1 h7
        obtain ⟨y0, hy0, rfl⟩ := List.mem_map.1 hc
        exact (VR.base (ι := ι) _ _ (h5' j _ h6)).one (List.all_eq_true.1 (hq y0 hy0) _ hc2)
      have hnews : ∀ j u, ws[j]? = some u → w.cell? ((⟨b, off, none⟩ : Addr).add j) = some u := fun j u hj => by
        obtain ⟨hjl, rfl⟩ := hwg j u hj
        rw [Go.WideShapes.add_plain]
        exact hr.sub _ _ (h4 j _ (List.getElem?_eq_getElem (by omega)))
      have hmax : l.length + ys.length ≤ maxLen := by simp only [maxLen]; omega
      obtain ⟨v', w', h6, h7, h8, _⟩ := run_append_own (P := P) w 0 t ot e zi z sz by_ hu hzi hzz hisz hiby hzs hsz0 (ι id) l.length vs hown ⟨b, off, none⟩ ys.length cap ws hwl hnews hone hmax hlen (Nat.zero_le _)
      have hft : footOf v' = footOf (ι id) ∨ footOf v' = some w.heap.size := by
        have h7' := h7
        rcases hown.2 with ⟨h2, h3'⟩ | ⟨g0, cap0, cur0, h2, _, hg0, hn0, hc0, hs0, htake⟩
        · -- out of nothing
          have hown' : w.ownsRow w.heap.size e sz (ι id) l.length vs := ⟨hown.1, .inl ⟨h2, h3'⟩⟩
          obtain ⟨v2, w2, k6, k7, k8, _⟩ := run_append_own (P := P) w w.heap.size t ot e zi z sz by_ hu hzi hzz hisz hiby hzs hsz0 (ι id) l.length vs hown' ⟨b, off, none⟩ ys.length cap ws hwl hnews hone hmax hlen (Nat.le_refl _)
          rw [h6] at k6
          injection k6 with k6 k6'
          subst k6; subst k6'
          have hnr := run_append_nil (P := P) w t ot e zi z hu hzi hzz ⟨b, off, none⟩ ys.length cap ws (by rw [hisz]; exact hwl) hnews (by have := List.length_pos_iff.2 hnil; omega) (by omega) (by rw [h3'] at hlen; simp only [Nat.zero_add] at hlen; rw [hiby]; omega)
          rw [← h2, h6] at hnr
          injection hnr with hnr _
          exact .inr (by rw [hnr]; rfl)
        · by_cases hroom : l.length + ys.length ≤ cap0
          · have hrr := run_append_room (P := P) w t ot e zi hu hzi g0 l.length cap0 cur0 hg0 ⟨b, off, none⟩ ys.length cap ws (by rw [hisz]; exact hwl) hnews hone hroom (by rw [hisz, hwl, hs0, ← Nat.add_mul]; exact Nat.mul_le_mul_right _ hroom)
            rw [← h2, h6] at hrr
            injection hrr with hrr _
            exact .inl (by rw [hrr, h2]; rfl)
          · have hgr := run_append_grow (P := P) w t ot e zi z hu hzi hzz ⟨g0, 0, none⟩ l.length cap0 vs (by rw [hisz]; exact hown.1) (hown.cells (g := g0) (by rw [h2]; rfl)) ⟨b, off, none⟩ ys.length cap ws (by rw [hisz]; exact hwl) hnews (by omega) (by omega) (growslice_fits (by omega) (by rw [hiby]; exact hlen))
            rw [← h2, h6] at hgr
            injection hgr with hgr _
            exact .inr (by rw [hgr]; rfl)
      rw [List.length_map] at e2
      rw [e2]
      refine ⟨v', w', ws, h6, h7, h8, hft, ⟨by omega, fun j x u hx hu => ?_⟩, h3⟩
      obtain ⟨hjl, rfl⟩ := hwg j u hu
      exact h5' j x hx
  obtain ⟨v', w', ws, h6, h7, h8, hft, h9, h10⟩ := key
  have hform : ∃ A m c, v' = .slice A m c := by
    rcases h7.2 with ⟨h2, _⟩ | ⟨g, cap', cur, h2, _⟩
    · exact ⟨_, _, _, h2⟩
    · exact ⟨_, _, _, h2⟩
  obtain ⟨B0, d0, hi0, _⟩ := hr.rowForm hg
  have hob : ∀ k, (ι id).ownBlock = some k ↔ footOf (ι id) = some k := fun k => by rw [hi0]; cases B0 <;> simp [footOf, Value.ownBlock]
  have hnew := hr.turn (id := id) (u := v') (h' := (id, .row e sz ((l ++ ys).map f)) :: h) (c' := .row e sz ((l ++ ys).map f)) (w' := w')
    (fun i c hi hc => by
      rw [hget_cons, if_neg (fun e => hi e.symm)] at hc
      exact ⟨hc, .inr (loneH_get hl i c hc)⟩)
    (by rw [hget_cons, if_pos rfl])
    ⟨hsz0, fun c hc => by
      rw [List.map_append] at hc
      rcases List.mem_append.1 hc with hc | hc
      · exact hsz c hc
      · exact h10 c hc, vs ++ ws, by rw [upd_eq, List.length_map, List.length_append]; exact h7, by rw [List.map_append, List.flatten_append]; exact hL.append h9⟩
    h8.os h8.tape h8.output h8.size
    (fun k hk hne => h8.block k hk fun e => hne _ hg ((hob k).1 e.symm))
    (fun g hv => by
      rcases hft with h1 | h1
      · exact .inl ⟨_, hg, by rw [← h1]; exact hv⟩
      · rw [h1] at hv; cases hv; exact .inr (Nat.le_refl _))
    (.inl (Nat.ble_eq ▸ h5))
  exact ⟨v', w', h6, hform, hnew⟩

theorem tl_ap {α : Type} {id id2 sz : Nat} {l : List α} {f : α → List AV} {t e : TypeId} {x y : Operand} {z0 : List AV} {yl : List (List AV)} {ys : List α} {by_ : Nat} {h' : Heap} (ho : o.op = .call { callee := .builtin .append, args := #[x, y], argTypes := #[t, t] }) (hx : evA s x = .own id) (hg : hget h id = some (.row e sz (l.map f))) (ht : sliceE P t = some e) (hz : sizeQ P e sz = true) (h0 : zeroA P e = some z0) (hz0 : Nat.beq z0.length sz = true) (hby : bytesQ P e by_ = true) (hy : evA s y = .lst sz yl) (hyl : yl = ys.map f) (hq : ∀ y ∈ ys, (f y).all oneQ = true)
    (hlen : (l.length + ys.length) * by_ ≤ 140737488355328) (hlen2 : l.length + ys.length ≤ 9223372036854775807) (h10 : locQ id = true) (h5 : Nat.ble 5 id2 = true) (hf : freshH id2 h = true) (hlo : loneH id2 (hdel id h) = true) (hh : LeH ((id2, .row e sz ((l ++ ys).map f)) :: hdel id h) h') : TuL P [id2] o s h h' (.own id2) := fun E σ ι a w hr hv K Q hK => by
  subst hyl
  have hX : VR σ ι (evA s x) (a.eval x) := hv x (by rw [ho]; simp [Op.operands, Call.operands])
  have hY : VR σ ι (evA s y) (a.eval y) := hv y (by rw [ho]; simp [Op.operands, Call.operands])
  rw [hx] at hX
  rw [hy] at hY
  have e1 := hX.own_inv
  have h5' := Nat.ble_eq ▸ h5
  have hr2 := hr.rename hg (locQ_spec h10) h5' hf
  obtain ⟨v', w', h6, ⟨A, m, c, e0⟩, hnew⟩ := app_key (P := P) (ot := o.type) hr2 ht hz h0 (Nat.eq_of_beq_eq_true hz0) hby (by rw [hget_cons, if_pos rfl]) (hY.upd (u := ι id) rfl) hq hlen hlen2 h5 hlo
  rw [upd_eq] at h6
  unfold Oper.wp
  have hrun : (execOp a.eval o).run P w = .ok (.value v') w' := by
    unfold execOp
    simp only [ho, resolve, invoke, builtin, Sem.run_bind, Sem.run_pure, Result.andThen_ok, List.map_toArray, List.map_cons, List.map_nil, e1, h6]
  rw [hrun]
  refine hK σ _ w' v' (Sig.le.refl σ) (fun n s a hN t => (t.updN h5' (hN id2 (by simp)) _).updN h5' (hN id2 (by simp)) _) ((hnew.le fun i c hc => ?_).le hh) ?_
  · rw [hget_cons] at hc ⊢
    split at hc
    · rename_i e; rw [if_pos e]; exact hc
    · rename_i e; rw [if_neg e, hget_cons, if_neg e]; exact hc
  · have h2 := VR.own (σ := σ) (ι := upd (upd ι id2 (ι id)) id2 v') id2 (by rw [upd_eq, e0]; rfl)
    rwa [upd_eq] at h2
theorem tn_lit {α : Type} {f : α → List AV} {l : List α} {t e : TypeId} {sz len : Nat} {parts : Array (Nat × Operand)} {xs : List (List AV)} {id : Nat} (ho : o.op = .buildSlice t len parts) (ht : sliceE P t = some e) (hz : sizeQ P e sz = true) {z0 : List AV} (h0 : zeroA P e = some z0) (hsz : Nat.blt 0 sz = true) (hb : Nat.ble (len * sz) 16777216 = true)
    (hp : partsA s parts.toList 0 = some xs) (hl : Nat.beq parts.toList.length len = true) (hs : szOk sz xs = true) (hxs : xs = l.map f) (h5 : Nat.ble 5 id = true) (hfr : freshH id h = true) : TuN P id o s h ((id, .row e sz (l.map f)) :: h) (.own id) := fun E σ ι a w hr hv K Q hK => by
  have hsz := (by simpa [Nat.blt_eq] using hsz : 0 < sz)
  have hb := Nat.ble_eq ▸ hb
  have hl := Nat.eq_of_beq_eq_true hl
  have hx : ∀ x ∈ o.op.operands.toList, VR σ ι (evA s x) (a.eval x) := hv
  have hmem : ∀ p ∈ parts.toList, VR σ ι (evA s p.2) (a.eval p.2) := fun p hp => hx p.2 (by rw [ho]; simp only [Op.operands]; simpa using ⟨p.1, by simpa using hp⟩)
  obtain ⟨h1, h2⟩ := partsA_spec (a := a) parts.toList 0 xs hp hmem
  obtain ⟨zi, z, hzi, hzz, _⟩ := zeroA_spec h0
  have hvs : ∀ v ∈ parts.toList.map (fun p => a.eval p.2), v.cells.size = sz := fun v hv => by
    obtain ⟨j, hj⟩ := List.getElem?_of_mem hv
    have hjl : j < xs.length := by rw [h2.1]; exact (List.getElem?_eq_some_iff.1 hj).1
    have h3 := h2.2 j xs[j] v (List.getElem?_eq_getElem hjl) hj
    rw [← Array.length_toList, ← h3.1]
    exact szOk_spec hs _ (List.getElem_mem hjl)
  have hxl : xs.length = len := by rw [h2.1, List.length_map, hl]
  have hml : (parts.toList.map (fun p => a.eval p.2)).length = len := by rw [List.length_map, hl]
  obtain ⟨r, hr1, hr2, hr3⟩ := Go.Great.fill_dense hsz (parts.toList.map (fun p => a.eval p.2)) 0 ((Array.range (len * sz)).map (z.cells[· % z.cells.size]!)) hvs (by rw [hml]; simp)
  have hparts : (parts.map fun (i, x) => (i, a.eval x)).toList = (((parts.toList.map (fun p => a.eval p.2)).zipIdx 0).map fun x => (x.2, x.1)) := by
    rw [Array.toList_map, list_of_pairs (parts.toList.map fun (i, x) => (i, a.eval x)) 0 (by simpa [Function.comp_def] using h1)]
    simp [Function.comp_def]
  have hrl : r.toList = ((parts.toList.map (fun p => a.eval p.2)).map fun v => v.cells.toList).flatten := by
    refine flat_cells hsz _ r hvs (by rw [hr2, hml]; simp) fun k => ?_
    rw [hr3 k]
    simp only [Nat.zero_mul, Nat.zero_le, true_and, Nat.zero_add, Nat.sub_zero]
    split
    · rfl
    · rename_i hk
      rw [hml] at hk
      apply Array.getElem?_eq_none; simp; omega
  have hrun : (execOp a.eval o).run P w = .ok (.value (.slice (some ⟨w.heap.size, 0, none⟩) len len)) (w.alloc (.cells r e)) := by
    have hr1' : Instr.fill (fun i => some (i * sz, sz)) ((Array.range (len * sz)).map (z.cells[· % z.cells.size]!)) (parts.map fun (i, x) => (i, a.eval x)).toList = some r := by rw [hparts]; exact hr1
    have h5 := run_buildSlice (P := P) w (sliceE_spec ht) hz hzi hzz (by omega) hr1'
    simp only [execOp, ho, Sem.run_bind, Sem.run_pure, h5, Result.andThen_ok]
  have hL : L2 (VR0 σ) xs.flatten r.toList := by rw [hrl]; exact l2_flatten h2
  have hrs : r.size = len * sz := by
    have h9 := hL.1
    rw [flatten_length (szOk_spec hs), hxl] at h9
    rw [← Array.length_toList (xs := r), ← h9]
  have hnew := hr.turn (id := id) (u := .slice (some ⟨w.heap.size, 0, none⟩) len len) (h' := (id, .row e sz (l.map f)) :: h) (c' := .row e sz (l.map f)) (w' := w.alloc (.cells r e))
    (fun i c hi hc => by
      rw [hget_cons, if_neg (fun e => hi e.symm)] at hc
      exact ⟨hc, .inr (freshH_get hfr i c hc).2⟩)
    (by rw [hget_cons, if_pos rfl])
    ⟨hsz, by rw [← hxs]; exact szOk_spec hs, r.toList, by
      rw [upd_eq, ← hxs, hxl]
      have hll : len ≤ len * sz := Nat.le_mul_of_pos_right _ hsz
      exact ⟨by rw [Array.length_toList (xs := r)]; exact hrs, .inr ⟨w.heap.size, len, r, rfl, Nat.zero_le _, heap_alloc_new w _, Nat.le_refl _, by simp only [maxLen]; omega, hrs, by rw [← hrs, ← Array.length_toList (xs := r)]; exact List.take_length⟩⟩, by rw [← hxs]; exact hL⟩
    rfl rfl rfl (by simp) (fun k hk _ => Below.heap_alloc _ _ _ hk) (fun g hv => by cases hv; exact .inr (Nat.le_refl _)) (.inl (Nat.ble_eq ▸ h5))
  unfold Oper.wp
  rw [hrun]
  refine hK σ _ _ _ (Sig.le.refl σ) (fun n s a hN t => t.updN (Nat.ble_eq ▸ h5) hN _) hnew ?_
  have h5 := VR.own (σ := σ) (ι := upd ι id (.slice (some ⟨w.heap.size, 0, none⟩) len len)) id (by rw [upd_eq]; rfl)
  rwa [upd_eq] at h5
theorem tn_ok {N : Nat} {v : AV} (hy : Y P o s h v) : TuN P N o s h h v := fun E σ ι a w hr hv K Q hK =>
  hy.out E σ ι a w hr hv K Q fun σ' w' u k1 k2 k3 => hK σ' ι w' u k1 (fun n s a _ t => t.mono k1) k2 k3
end
end Go.Proofs.YtfjoaeghnfkdlaaGreatDoor
namespace Go.Proofs.YtfjoaeghnfkdlaaGreatDoor
set_option maxRecDepth 100000
open Go.RowKit
section
variable {P : Program} {n : Md} {Q : Exit → Slots → Heap → Prop} {s : Slots} {h : Heap} {ops : Array Oper} {rest : List Oper} {o : Oper}
theorem turn_ren {t id id2 sz : Nat} {e : TypeId} {xs : List (List AV)} (hs : get s t = .own id) (hg : hget h id = some (.row e sz xs)) (h10 : locQ id = true) (h5 : Nat.ble 5 id2 = true) (hf : freshH id2 h = true) : Turns n s h ((t, .own id2) :: killS id2 s) ((id2, .row e sz xs) :: hdel id h) := by
  intro E σ ι a w hr ht
  have h5' : 5 ≤ id2 := Nat.ble_eq ▸ h5
  have hr0 := hr.rename hg (locQ_spec h10) h5' hf
  refine ⟨σ, upd ι id2 (ι id), hr0, ?_⟩
  have hk := ht.kill id2 h5' (ι id)
  refine ⟨hk.size, hk.defers, fun u => ?_⟩
  rw [get_cons]
  split
  · rename_i e; subst e
    have hv := ht.at_ t
    rw [hs] at hv
    obtain ⟨A, cap, e2, _, _⟩ := hr.rowForm hg
    rw [hv.own_inv]
    have h2 := VR.own (σ := σ) (ι := upd ι id2 (ι id)) id2 (by rw [upd_eq, e2]; rfl)
    rwa [upd_eq] at h2
  · exact hk.at_ u
end
end Go.Proofs.YtfjoaeghnfkdlaaGreatDoor
namespace Go.Proofs.YtfjoaeghnfkdlaaGreatDoor
set_option maxRecDepth 100000
set_option maxRecDepth 100000
open Go.RowKit
def actP (i : Int) (j : Job) : Bool := decide (j.task = i ∧ j.fin < 0)
def actI (js : List Job) (i : Int) : Int := match js.findIdx? (actP i) with
  | some k => (k : Int)
  | none => -1
theorem getD_lt {js : List Job} {k : Nat} (hk : k < js.length) : js.getD k default = js[k] := by
  rw [List.getD_eq_getElem?_getD, List.getElem?_eq_getElem hk, Option.getD_some]
theorem actI_at {js : List Job} {i : Int} {k : Nat} (hk : k < js.length) (h : ∀ j, j < k → actP i (js.getD j default) = false) (hp : actP i (js.getD k default) = true) : actI js i = (k : Int) := by
  have : js.findIdx? (actP i) = some k := by
    rw [List.findIdx?_eq_some_iff_getElem]
    refine ⟨hk, by rw [← getD_lt hk]; exact hp, fun j hj => ?_⟩
    have h2 := h j hj
    rw [getD_lt (by omega)] at h2
    rw [h2]; decide
  rw [actI, this]
theorem actI_no {js : List Job} {i : Int} (h : ∀ j, j < js.length → actP i (js.getD j default) = false) : actI js i = -1 := by
  have : js.findIdx? (actP i) = none := by
    rw [List.findIdx?_eq_none_iff]
    intro x hx
    obtain ⟨j, hj, rfl⟩ := List.mem_iff_getElem.1 hx
    have := h j hj
    rwa [getD_lt hj] at this
  rw [actI, this]
theorem actI_good {l : List Task} {n : Nat} {B : Bk} (h : GoodB l n B) (i : Int) : actI B.all i = if hasN B.act i = true then (posB B i : Int) else -1 := by
  split
  · rename_i hh
    obtain ⟨p1, p2, p3, p4⟩ := h.pos hh
    rw [jobAt] at p3 p4
    refine actI_at p2 (fun j hj => ?_) (decide_eq_true ⟨p3, p4⟩)
    refine decide_eq_false fun e => ?_
    have := (h.opn j (by omega) e.2).2
    rw [e.1, p1] at this
    have := Int.ofNat.inj (Option.some.inj this)
    omega
  · rename_i hh
    refine actI_no fun j hj => decide_eq_false fun e => ?_
    have := (h.opn j hj e.2).1
    rw [e.1] at this
    exact hh this
abbrev rbP (l : List Task) (js : List Job) (os : List Due) : Heap :=
  [(0, .blk 53 [.lst 7 (l.map eTask), .own 1, .own 2]), (1, .row 71 8 (js.map eJob)), (2, .row 60 2 (os.map eDue))]
abbrev rbH (l : List Task) (js : List Job) (os : List Due) : Heap :=
  [(0, .blk 53 [.lst 7 (l.map eTask), .own 5, .own 6]), (5, .row 71 8 (js.map eJob)), (6, .row 60 2 (os.map eDue))]
set_option maxHeartbeats 2000000 in
theorem ractive_fn (l : List Task) (js : List Job) (os : List Due) (hl : js.length ≤ 1000000) (i : Int) : FnH Tryz.prog 56 [.ptr 0 0, .int .i64 i] (rbP l js os) (fun r h' => r = .int .i64 (actI js i) ∧ h' = rbP l js os) := by
  refine FnH.drop' (fnhb Tryz.func56 (entered_of (by kernel_rfl)) rfl rfl ?_)
  repeat' (first | refine sA ?_ | ((first | apply kM | apply kN); (iterate 3 (· exact rfl)); (· first | exact ya)) | refine sG ?_ | (refine sK ?_ ?_ <;> intro hc <;> (try simp only [KL, sL, reduceCtorEq] at hc) <;> (try (have hT : True := hc; clear hT hc)) <;> (try (exfalso; omega))))
  refine wloop (fun k : Nat => ([(0, .ptr 0 0), (1, .int .i64 i), (10, .own 1), (11, .int .i64 js.length), (12, .int .i64 k)], rbP l js os)) (fun k => k ≤ js.length ∧ ∀ j, j < k → actP i (js.getD j default) = false) (fun k => js.length - k) 0 ⟨Nat.zero_le _, fun j hj => by omega⟩ les leh (fun k hk => ?_)
  obtain ⟨hk1, hk2⟩ := hk
  rcases Nat.lt_or_eq_of_le hk1 with hlt | rfl
  · by_cases hp : (js.getD k default).task = i ∧ (js.getD k default).fin < 0
    · rw [actI_at hlt hk2 (decide_eq_true hp)]
      obtain ⟨h1, h2⟩ := hp
      repeat' (first | refine sA ?_ | (show O _ _ _ _ _ _ _; first | refine ao_alloc (id := 20) rfl rfl rfl rfl rfl rfl rfl ?_) | ((first | apply kM | apply kN); (iterate 3 (· exact rfl)); (· first | exact ya)) | refine sG ?_ | (refine sK ?_ ?_ <;> intro hc <;> (try simp only [KL, sL, reduceCtorEq] at hc) <;> (try (have hT : True := hc; clear hT hc)) <;> (try (exfalso; omega))))
      all_goals first | (exfalso; omega) | exact retq rfl ⟨rbP l js os, leh, rfl, rfl⟩
    · have hnx : ∀ j, j < k + 1 → actP i (js.getD j default) = false := fun j hj => by
        rcases Nat.lt_or_eq_of_le (Nat.le_of_lt_succ hj) with q | q
        · exact hk2 j q
        · subst q; exact decide_eq_false hp
      repeat' (first | refine sA ?_ | (show O _ _ _ _ _ _ _; first | refine ao_alloc (id := 20) rfl rfl rfl rfl rfl rfl rfl ?_) | ((first | apply kM | apply kN); (iterate 3 (· exact rfl)); (· first | exact ya)) | refine sG ?_ | (refine sK ?_ ?_ <;> intro hc <;> (try simp only [KL, sL, reduceCtorEq] at hc) <;> (try (have hT : True := hc; clear hT hc)) <;> (try (exfalso; omega))))
      all_goals first | (exfalso; omega) | exact ⟨k + 1, ⟨by omega, hnx⟩, by omega, les, leh⟩
  · rw [actI_no hk2]
    repeat' (first | refine sA ?_ | ((first | apply kM | apply kN); (iterate 3 (· exact rfl)); (· first | exact ya)) | refine sG ?_ | (refine sK ?_ ?_ <;> intro hc <;> (try simp only [KL, sL, reduceCtorEq] at hc) <;> (try (have hT : True := hc; clear hT hc)) <;> (try (exfalso; omega))))
    all_goals first | (exfalso; omega) | exact retq rfl ⟨rbP l js os, leh, rfl, rfl⟩
def ρr (i : Nat) : Nat := [0, 5, 6].getD i (i + 20)
theorem rinT_fn (n : Int) : Fn Tryz.prog 91 [.int .i64 n, .int .i64 0, .int .i64 1099511627776] (.int .i64 (inT n)) := by
  unfold inT
  refine fnb Tryz.func91 (entered_of (by kernel_rfl)) rfl rfl rfl ?_
  repeat' (first | refine sA ?_ | ((first | apply kM | apply kN); (iterate 3 (· exact rfl)); (· first | exact ya)) | refine sG ?_ | (refine sK ?_ ?_ <;> intro hc <;> (try simp only [KL, sL, reduceCtorEq] at hc) <;> (try (have hT : True := hc; clear hT hc)) <;> (try (exfalso; omega))))
  all_goals first | (exfalso; omega) | exact retq rfl (congrArg (AV.int .i64) (by omega))
theorem raddT_fn (a b : Int) : Fn Tryz.prog 119 [.int .i64 a, .int .i64 b] (.int .i64 (addT a b)) := by
  have h1 := inT_le a
  have h2 := inT_le b
  refine fnb Tryz.func119 (entered_of (by kernel_rfl)) rfl rfl rfl ?_
  repeat' (first | refine sA ?_ | ((first | apply kM | apply kN); (iterate 3 (· exact rfl)); (· first | exact ya | exact q_c (rinT_fn _) rfl)) | refine sG ?_ | (refine sK ?_ ?_ <;> intro hc <;> (try simp only [KL, sL, reduceCtorEq] at hc) <;> (try (have hT : True := hc; clear hT hc)) <;> (try (exfalso; omega))))
  exact retq rfl rfl
set_option maxHeartbeats 4000000 in
theorem rrelJ_fn (l : List Task) (B : Bk) (n : Nat) (h : GoodB (hd64 l) n B) (hn : n ≤ 100000) (i t : Int) : FnH Tryz.prog 92 [.ptr 0 0, .int .i64 i, .int .i64 t] (rbH l B.all B.overs)
    (fun r h' => r = .tup [.int .i64 (if relOk (hd64 l) B i then noB B i else 0), .bool (relOk (hd64 l) B i)] ∧ h' = rbH l (relBk (hd64 l) B i t).all (relBk (hd64 l) B i t).overs) := by
  refine FnH.drop' (fnhb Tryz.func92 (entered_of (by kernel_rfl)) rfl rfl ?_)
  have hlen : (hd64 l).length = min l.length 64 := by rw [hd64, List.length_take]; omega
  have halen := h.alen
  have holen := h.olen
  have c1 := rinT_fn t
  have ht := inT_le t
  have c2 := ractive_fn l B.all B.overs (by omega) i
  rw [actI_good h i] at c2
  by_cases h0 : i < 0 ∨ ((hd64 l).length : Int) ≤ i
  · have e1 : relOk (hd64 l) B i = false := by rw [relOk, decide_eq_true h0]; rfl
    have e2 : relBk (hd64 l) B i t = B := by rw [relBk, if_pos h0]
    rw [e1, e2]
    repeat' (first | refine sA ?_ | ((first | apply kM | apply kN); (iterate 3 (· exact rfl)); (· first | exact ya)) | refine sG ?_ | (refine sK ?_ ?_ <;> intro hc <;> (try simp only [KL, sL, reduceCtorEq] at hc) <;> (try (have hT : True := hc; clear hT hc)) <;> (try (exfalso; omega))))
    all_goals first | (exfalso; omega) | exact retq rfl ⟨rbH l B.all B.overs, leh, rfl, rfl⟩
  have hr : 0 ≤ i ∧ i < l.length ∧ i ≤ 63 := by omega
  cases hh : hasN B.act i
  case true =>
    have e1 : relOk (hd64 l) B i = false := by rw [relOk, hh, Bool.not_true, Bool.and_false]
    have e2 : relBk (hd64 l) B i t = { B with overs := B.overs ++ [⟨inT t, i⟩] } := by rw [relBk, if_neg h0, if_pos hh]
    rw [e1, e2]
    rw [hh, if_pos rfl] at c2
    repeat' (first | refine sA ?_ | ((first | apply kM | apply kN); (iterate 3 (· exact rfl)); (· first | exact ya | exact q_c (c1) rfl)) | refine sG ?_ | (refine sK ?_ ?_ <;> intro hc <;> (try simp only [KL, sL, reduceCtorEq] at hc) <;> (try (have hT : True := hc; clear hT hc)) <;> (try (exfalso; omega))))
    all_goals first | (exfalso; omega) | skip
    refine zcall (fun i => ρr i) (c2) rfl rfl leh rfl rfl rfl rfl rfl rfl (fun r h' hR => ?_)
    obtain ⟨rfl, rfl⟩ := hR
    refine ⟨rfl, rfl, ?_⟩
    repeat' (first | refine sA ?_ | ((first | apply kM | apply kN); (iterate 3 (· exact rfl)); (· first | exact ya)) | refine sG ?_ | (refine sK ?_ ?_ <;> intro hc <;> (try simp only [KL, sL, reduceCtorEq] at hc) <;> (try (have hT : True := hc; clear hT hc)) <;> (try (exfalso; omega))))
    all_goals first | (exfalso; omega) | skip
    refine oturn (turn_mask [false, false, true] (id := 0) rfl) ?_
    refine ole (h' := [(6, .row 60 2 (B.overs.map eDue)), (0, .blk 53 [.lst 7 (l.map eTask), .own 5, .undef]), (5, .row 71 8 (B.all.map eJob))]) (LeS.refl _) leh ?_
    (refine ao_ap (id := 6) (ys := [(⟨inT t, i⟩ : Due)]) (by_ := 16) rfl rfl rfl rfl rfl rfl rfl rfl rfl rfl (fun _ _ => rfl) ?_ ?_ rfl rfl rfl rfl rfl ?_; (· (first | omega | ((try simp only [List.length_cons, List.length_nil, List.length_append, List.length_map]) <;> omega))); (· (first | omega | ((try simp only [List.length_cons, List.length_nil, List.length_append, List.length_map]) <;> omega))))
    repeat' (first | refine sA ?_ | ((first | apply kM | apply kN); (iterate 3 (· exact rfl)); (· first | exact ya)) | refine sG ?_ | (refine sK ?_ ?_ <;> intro hc <;> (try simp only [KL, sL, reduceCtorEq] at hc) <;> (try (have hT : True := hc; clear hT hc)) <;> (try (exfalso; omega))))
    exact retq rfl ⟨rbH l B.all (B.overs ++ [⟨inT t, i⟩]), leh, rfl, rfl⟩
  case false =>
    have e1 : relOk (hd64 l) B i = true := by rw [relOk, decide_eq_false h0, hh]; rfl
    have e2 : relBk (hd64 l) B i t = ⟨B.all ++ [newJb (hd64 l) B i t], setM B.now i B.all.length, setM B.cnt i (noB B i + 1), putN B.act i, B.overs⟩ := by rw [relBk, if_neg h0, if_neg (by rw [hh]; exact Bool.false_ne_true)]
    rw [e1, e2, if_pos rfl]
    rw [hh, if_neg (by decide)] at c2
    have hcnt := h.cnt i
    have ej : newJb (hd64 l) B i t = ⟨i, noB B i, inT t, addT (inT t) (l.getD i.toNat default).deadline, -1, -1, 0, false⟩ := by
      rw [newJb, hd64, List.getD_eq_getElem?_getD, List.getElem?_take, if_pos (by omega), ← List.getD_eq_getElem?_getD]
    rw [ej, hcnt]
    repeat' (first | refine sA ?_ | ((first | apply kM | apply kN); (iterate 3 (· exact rfl)); (· first | exact ya | exact q_c (c1) rfl)) | refine sG ?_ | (refine sK ?_ ?_ <;> intro hc <;> (try simp only [KL, sL, reduceCtorEq] at hc) <;> (try (have hT : True := hc; clear hT hc)) <;> (try (exfalso; omega))))
    all_goals first | (exfalso; omega) | skip
    refine zcall (fun i => ρr i) (c2) rfl rfl leh rfl rfl rfl rfl rfl rfl (fun r h' hR => ?_)
    obtain ⟨rfl, rfl⟩ := hR
    refine ⟨rfl, rfl, ?_⟩
    repeat' (first | refine sA ?_ | ((first | apply kM | apply kN); (iterate 3 (· exact rfl)); (· first | exact ya)) | refine sG ?_ | (refine sK ?_ ?_ <;> intro hc <;> (try simp only [KL, sL, reduceCtorEq] at hc) <;> (try (have hT : True := hc; clear hT hc)) <;> (try (exfalso; omega))))
    all_goals first | (exfalso; omega) | skip
    refine wloop (fun k : Nat => ([(0, .ptr 0 0), (1, .int .i64 i), (2, .int .i64 (inT t)), (8, .int .i64 (cntT (B.all.take k) i)), (47, .own 5), (48, .int .i64 B.all.length), (49, .int .i64 k)], rbH l B.all B.overs)) (fun k => k ≤ B.all.length) (fun k => B.all.length - k) 0 (Nat.zero_le _) les leh (fun k hk => ?_)
    have hcl := cntT_le (B.all.take k) i
    have htl : (B.all.take k).length = k := by rw [List.length_take]; omega
    rcases Nat.lt_or_eq_of_le hk with hlt | rfl
    · have hnx := cntJ_next B.all i k hlt
      by_cases htk : (B.all.getD k default).task = i
      · rw [if_pos htk] at hnx
        repeat' (first | refine sA ?_ | (show O _ _ _ _ _ _ _; first | refine ao_alloc (id := 20) rfl rfl rfl rfl rfl rfl rfl ?_) | ((first | apply kM | apply kN); (iterate 3 (· exact rfl)); (· first | exact ya)) | refine sG ?_ | (refine sK ?_ ?_ <;> intro hc <;> (try simp only [KL, sL, reduceCtorEq] at hc) <;> (try (have hT : True := hc; clear hT hc)) <;> (try (exfalso; omega))))
        all_goals first | (exfalso; omega) | exact ⟨k + 1, by omega, by omega, by simp only [hnx]; exact les, leh⟩
      · rw [if_neg htk, Int.add_zero] at hnx
        repeat' (first | refine sA ?_ | (show O _ _ _ _ _ _ _; first | refine ao_alloc (id := 20) rfl rfl rfl rfl rfl rfl rfl ?_) | ((first | apply kM | apply kN); (iterate 3 (· exact rfl)); (· first | exact ya)) | refine sG ?_ | (refine sK ?_ ?_ <;> intro hc <;> (try simp only [KL, sL, reduceCtorEq] at hc) <;> (try (have hT : True := hc; clear hT hc)) <;> (try (exfalso; omega))))
        all_goals first | (exfalso; omega) | exact ⟨k + 1, by omega, by omega, by simp only [hnx]; exact les, leh⟩
    · rw [List.take_length] at *
      generalize cntT B.all i = no at *
      repeat' (first | refine sB ?_ | ((first | apply kM | apply kN); (iterate 3 (· exact rfl)); (· first | exact ya)) | refine sG ?_ | (refine sK ?_ ?_ <;> intro hc <;> (try simp only [KL, sL, reduceCtorEq] at hc) <;> (try (have hT : True := hc; clear hT hc)) <;> (try (exfalso; omega))))
      all_goals first | (exfalso; omega) | skip
      refine wle (s' := [(0, .ptr 0 0), (1, .int .i64 i), (2, .int .i64 (inT t)), (8, .int .i64 no)]) (h' := rbH l B.all B.overs) les leh ?_
      refine wdrawK (H := fun y : List Job × AV => [(5, .row 71 8 (y.1.map eJob)), (0, .blk 53 [.lst 7 (l.map eTask), y.2, .own 6]), (6, .row 60 2 (B.overs.map eDue))]) (ok := fun _ => True) (tn := [20, 23]) (ln := [4]) (c := 20) (R := 5) (B.all, .own 5) leh (by kernel_rfl) (by kernel_rfl) (by kernel_rfl) trivial ?_
      repeat' (first | refine sA ?_ | ((first | apply kM | apply kN); (iterate 3 (· exact rfl)); (· first | exact ya | exact q_c (raddT_fn _ _) rfl)) | (show KW _ _ _ _ _ _ _ _ _ _ _ _ _; first | refine knil rfl ?_ | (apply k_any; (· exact rfl); (· exact rfl); (· exact rfl); (· intro y' hy'; first | exact ya | exact q_c (raddT_fn _ _) rfl); (· first | exact rfl | kernel_rfl)) | (apply k_ld; (· exact rfl); (· exact rfl); (· exact rfl); (· exact rfl); (· first | exact ya | exact q_c (raddT_fn _ _) rfl); (· first | exact rfl | kernel_rfl))) | refine sG ?_ | (refine sK ?_ ?_ <;> intro hc <;> (try simp only [KL, sL, reduceCtorEq] at hc) <;> (try (have hT : True := hc; clear hT hc)) <;> (try (exfalso; omega))))
      refine k_mv (x' := (B.all ++ [(⟨i, no, inT t, addT (inT t) (l.getD i.toNat default).deadline, -1, -1, 0, false⟩ : Job)], .undef)) rfl rfl rfl trivial
        (TuK.post (TuK.pre (pre_mask (h2 := [(5, .row 71 8 (B.all.map eJob)), (0, .blk 53 [.lst 7 (l.map eTask), .undef, .own 6]), (6, .row 60 2 (B.overs.map eDue))]) [false, true] (id := 0) rfl leh)
          (tk_append (ys := [(⟨i, no, inT t, addT (inT t) (l.getD i.toNat default).deadline, -1, -1, 0, false⟩ : Job)]) (by_ := 64) rfl rfl rfl rfl rfl rfl rfl rfl rfl rfl (fun _ _ => rfl) (by simp only [List.length_cons, List.length_nil]; omega) (by simp only [List.length_cons, List.length_nil]; omega) rfl rfl)) leh) ?_
      repeat' (first | refine sA ?_ | ((first | apply kM | apply kN); (iterate 3 (· exact rfl)); (· first | exact ya)) | (show KW _ _ _ _ _ _ _ _ _ _ _ _ _; first | refine knil rfl ?_ | (apply k_any; (· exact rfl); (· exact rfl); (· exact rfl); (· intro y' hy'; first | exact ya); (· first | exact rfl | kernel_rfl)) | (apply k_ld; (· exact rfl); (· exact rfl); (· exact rfl); (· exact rfl); (· first | exact ya); (· first | exact rfl | kernel_rfl))) | refine sG ?_ | (refine sK ?_ ?_ <;> intro hc <;> (try simp only [KL, sL, reduceCtorEq] at hc) <;> (try (have hT : True := hc; clear hT hc)) <;> (try (exfalso; omega))))
      refine k_tu (x' := (B.all ++ [(⟨i, no, inT t, addT (inT t) (l.getD i.toNat default).deadline, -1, -1, 0, false⟩ : Job)], .own 5)) rfl rfl rfl trivial ((tu_st (sto_B rfl rfl rfl rfl rfl rfl (Nat.le_of_ble_eq_true rfl)) rfl).post leh) (by kernel_rfl) ?_
      repeat' (first | refine sA ?_ | ((first | apply kM | apply kN); (iterate 3 (· exact rfl)); (· first | exact ya)) | (show KW _ _ _ _ _ _ _ _ _ _ _ _ _; first | refine knil rfl ?_ | (apply k_any; (· exact rfl); (· exact rfl); (· exact rfl); (· intro y' hy'; first | exact ya); (· first | exact rfl | kernel_rfl)) | (apply k_ld; (· exact rfl); (· exact rfl); (· exact rfl); (· exact rfl); (· first | exact ya); (· first | exact rfl | kernel_rfl))) | refine sG ?_ | (refine sK ?_ ?_ <;> intro hc <;> (try simp only [KL, sL, reduceCtorEq] at hc) <;> (try (have hT : True := hc; clear hT hc)) <;> (try (exfalso; omega))))
      exact retq rfl ⟨rbH l (B.all ++ [(⟨i, no, inT t, addT (inT t) (l.getD i.toNat default).deadline, -1, -1, 0, false⟩ : Job)]) B.overs, leh, rfl, rfl⟩
end Go.Proofs.YtfjoaeghnfkdlaaGreatDoor
