/- Appends behind appends, a slice of a row that is appended: each takes a row and yields another one; in whatever order the region is walked. No condition. -/
import Derived.Test.YtfjoaeghnfkdlaaDoorK15
import Derived.Test.YtfjoaeghnfkdlaaDoorK7
import Derived.Test.YtfjoaeghnfkdlaaDoorK10
set_option linter.unusedSimpArgs false
set_option linter.unusedVariables false
set_option maxHeartbeats 1000000
namespace Go.Proofs.YtfjoaeghnfkdlaaDoor
set_option maxRecDepth 100000
open Go.RowKit
section
variable {P : Program} {n : Md} {Q : Exit → Slots → Heap → Prop} {s : Slots} {h : Heap} {ops : Array Oper} {rest : List Oper} {o : Oper}
theorem Rel.rename {E : Env} {σ : Sig} {ι : Nat → Value} {w : World} (hr : Rel E σ ι h w) {id id2 sz : Nat} {e : TypeId} {xs : List (List AV)} (hg : hget h id = some (.row e sz xs)) (h10 : 10 ≤ id ∧ id < 100) (h5 : 5 ≤ id2) (hf : freshH id2 h = true) : Rel E σ (upd ι id2 (ι id)) ((id2, .row e sz xs) :: hdel id h) w := by
  have hin : ∀ i c, i ≠ id2 → hget ((id2, .row e sz xs) :: hdel id h) i = some c → i ≠ id ∧ hget h i = some c := fun i c hi hc => by
    rw [hget_cons, if_neg (fun e => hi e.symm), hget_hdel] at hc
    split at hc
    · cases hc
    · exact ⟨‹_›, hc⟩
  have hno : (id, id) = (id, id) := rfl
  have hmay : ∀ g, (id, g) ∉ E.may := fun g hm => by have := hr.low _ hm; simp only at this; omega
  refine ⟨hr.os, hr.tape, hr.output, hr.size, hr.old, hr.sigOld, hr.sub, fun i c hc => ?_, fun i c hc g hgf => ?_, fun i j c d hc hd g h1 h2 => ?_, fun p hp => ?_, hr.low, fun p hp => ⟨(hr.xo p hp).1, (hr.xo p hp).2.1, fun i c hc => ?_⟩⟩
  · by_cases hi : i = id2
    · subst hi
      rw [hget_cons, if_pos rfl] at hc
      cases hc
      obtain ⟨a1, a2, vs, a3, a4⟩ := hr.ch id _ hg
      exact ⟨a1, a2, vs, by rw [upd_eq]; exact a3, a4⟩
    · obtain ⟨_, hc2⟩ := hin i c hi hc
      have h4 := hr.ch i c hc2
      have hfr := (freshH_get hf i c hc2).2
      cases c with
      | blk ty cs =>
        obtain ⟨g, cur, h5, h6, h7⟩ := h4
        exact ⟨g, cur, by rw [upd_ne hi]; exact h5, h6, h7.1, fun j x y a b => (h7.2 j x y a b).upd (hasIdL_get hfr j x a)⟩
      | row e sz xs =>
        obtain ⟨h0, h5, vs, h6, h7⟩ := h4
        exact ⟨h0, h5, vs, by rw [upd_ne hi]; exact h6, h7⟩
      | sem c => show c.rel _ _ _; rw [upd_ne hi]; exact h4
  · by_cases hi : i = id2
    · subst hi
      rw [upd_eq] at hgf
      have := hr.foot id _ hg g hgf
      exact ⟨.inr (this.1.resolve_left (hmay g)), this.2⟩
    · rw [upd_ne hi] at hgf
      exact hr.foot i c (hin i c hi hc).2 g hgf
  · by_cases hi : i = id2
    · by_cases hj : j = id2
      · rw [hi, hj]
      · subst hi
        rw [upd_eq] at h1
        rw [upd_ne hj] at h2
        exact absurd (hr.dj id j _ d hg (hin j d hj hd).2 g h1 h2).symm (hin j d hj hd).1
    · by_cases hj : j = id2
      · subst hj
        rw [upd_eq] at h2
        rw [upd_ne hi] at h1
        exact absurd (hr.dj i id c _ (hin i c hi hc).2 hg g h1 h2) (hin i c hi hc).1
      · rw [upd_ne hi] at h1
        rw [upd_ne hj] at h2
        exact hr.dj i j c d (hin i c hi hc).2 (hin j d hj hd).2 g h1 h2
  · have := hr.pin p hp
    exact ⟨this.1, by rw [upd_ne (by omega)]; exact this.2⟩
  · by_cases hi : i = id2
    · subst hi; rw [upd_eq]; exact (hr.xo p hp).2.2 id _ hg
    · rw [upd_ne hi]; exact (hr.xo p hp).2.2 i c (hin i c hi hc).2
theorem app_key {α : Type} {E : Env} {σ : Sig} {ι : Nat → Value} {w : World} (hr : Rel E σ ι h w) {id sz by_ : Nat} {l ys : List α} {f : α → List AV} {t e ot : TypeId} (ht : sliceE P t = some e) (hz : sizeQ P e sz = true) {z0 : List AV} (h0 : zeroA P e = some z0) (hz0 : z0.length = sz)
    (hby : bytesQ P e by_ = true) (hg : hget h id = some (.row e sz (l.map f))) {vy : Value} (hY : VR σ ι (.lst sz (ys.map f)) vy) (hq : ∀ y ∈ ys, (f y).all oneQ = true) (hlen : (l.length + ys.length) * by_ ≤ 140737488355328) (hlen2 : l.length + ys.length ≤ 9223372036854775807) (h5 : Nat.ble 5 id = true) (hl : loneH id h = true) :
    ∃ v' w', (Builtin.append_ #[t, t] ot #[ι id, vy]).run P w = .ok v' w' ∧ (∃ A m c, v' = .slice A m c) ∧ Rel E σ (upd ι id v') ((id, .row e sz ((l ++ ys).map f)) :: h) w' := by
  obtain ⟨hsz0, hsz, vs, hown, hL⟩ := hr.ch id _ hg
  obtain ⟨zi, z, hzi, hzz, hzL⟩ := zeroA_spec h0
  have hisz : zi.size = sz := by unfold sizeQ at hz; rw [hzi] at hz; exact Nat.eq_of_beq_eq_true hz
  have hiby : zi.bytes = by_ := by unfold bytesQ at hby; rw [hzi] at hby; exact Nat.eq_of_beq_eq_true hby
  have hzs : z.cells.size = sz := by rw [← Array.length_toList, ← (hzL σ).1, hz0]
  have hu := sliceE_spec ht
  have key : ∃ v' w' ws, (Builtin.append_ #[t, t] ot #[ι id, vy]).run P w = .ok v' w' ∧ w'.ownsRow 0 e sz v' (l.length + ys.length) (vs ++ ws) ∧ w.grownBy w' (ι id).ownBlock ∧ (footOf v' = footOf (ι id) ∨ footOf v' = some w.heap.size) ∧ L2 (VR0 σ) (ys.map f).flatten ws ∧ (∀ c ∈ ys.map f, c.length = sz) := by
    obtain ⟨A, cap, e2, e3, e4, e5⟩ := hY.lst_inv
    rw [List.length_map] at hown
    by_cases hnil : ys = []
    · subst hnil
      refine ⟨ι id, w, [], ?_, by simpa using hown, ⟨rfl, rfl, rfl, Nat.le_refl _, fun _ _ _ => rfl⟩, .inl rfl, L2.nil _, by simp⟩
      rw [e2]
      rcases hown.2 with ⟨h2, h3⟩ | ⟨g, cap', cur, h2, _, h3, h4, _, h6, _⟩
      · rw [h2]
        cases A with
        | none => simp [Builtin.append_, run_underlying hu, sizeOf, typeInfo, hzi, Builtin.lenOf, Builtin.firstCells]
        | some ad =>
          have hl0 := run_loadCells_list (P := P) w ad [] (by simp)
          simp only [List.length_nil] at hl0
          simp [Builtin.append_, run_underlying hu, sizeOf, typeInfo, hzi, Builtin.lenOf, Builtin.firstCells, hl0]
      · rw [h2]
        cases A with
        | none => simp [Builtin.append_, run_underlying hu, sizeOf, typeInfo, hzi, Builtin.lenOf, Builtin.firstCells, h4, storeCells]
        | some ad =>
          have hl0 := run_loadCells_list (P := P) w ad [] (by simp)
          simp only [List.length_nil] at hl0
          simp [Builtin.append_, run_underlying hu, sizeOf, typeInfo, hzi, Builtin.lenOf, Builtin.firstCells, h4, storeCells, hl0]
    · rcases e5 with e5 | ⟨b, off, g, rfl, h3, h4, h5'⟩
      · exact absurd (by simpa using e5) hnil
      have hfl : ((ys.map f).flatten).length = ys.length * sz := by rw [flatten_length h3, List.length_map]
      obtain ⟨ws, hws⟩ : ∃ ws : List Value, ws = (List.range (ys.length * sz)).map g := ⟨_, rfl⟩
      have hwl : ws.length = ys.length * sz := by rw [hws]; simp
      have hwg : ∀ j u, ws[j]? = some u → j < ys.length * sz ∧ u = g j := fun j u hj => by
        have hjl : j < ys.length * sz := by rw [← hwl]; exact (List.getElem?_eq_some_iff.1 hj).1
        refine ⟨hjl, ?_⟩
        rw [hws] at hj
        simpa [hjl] using hj.symm
      have hone : ∀ u ∈ ws, u.oneCell' = true := fun u hu => by
        obtain ⟨j, hj⟩ := List.getElem?_of_mem hu
        obtain ⟨hjl, rfl⟩ := hwg j u hj
        have h6 : (ys.map f).flatten[j]? = some ((ys.map f).flatten[j]'(by omega)) := List.getElem?_eq_getElem (by omega)
        have h7 : (ys.map f).flatten[j]'(by omega) ∈ (ys.map f).flatten := List.getElem_mem _
        obtain ⟨c, hc, hc2⟩ := List.mem_flatten.1 h7
        obtain ⟨y0, hy0, rfl⟩ := List.mem_map.1 hc
        exact (VR.base (ι := ι) _ _ (h5' j _ h6)).one (List.all_eq_true.1 (hq y0 hy0) _ hc2)
      have hnews : ∀ j u, ws[j]? = some u → w.cell? ((⟨b, off, none⟩ : Addr).add j) = some u := fun j u hj => by
        obtain ⟨hjl, rfl⟩ := hwg j u hj
        rw [Go.WideShapes.add_plain]
        exact hr.sub _ _ (h4 j _ (List.getElem?_eq_getElem (by omega)))
      have hmax : l.length + ys.length ≤ maxLen := by simp only [maxLen]; omega
      obtain ⟨v', w', h6, h7, h8, _⟩ := run_append_own (P := P) w 0 t ot e zi z sz by_ hu hzi hzz hisz hiby hzs hsz0 (ι id) l.length vs hown ⟨b, off, none⟩ ys.length cap ws hwl hnews hone hmax hlen (Nat.zero_le _)
      have hft : footOf v' = footOf (ι id) ∨ footOf v' = some w.heap.size := by
        have h7' := h7
        rcases hown.2 with ⟨h2, h3'⟩ | ⟨g0, cap0, cur0, h2, _, hg0, hn0, hc0, hs0, htake⟩
        · -- out of nothing
          have hown' : w.ownsRow w.heap.size e sz (ι id) l.length vs := ⟨hown.1, .inl ⟨h2, h3'⟩⟩
          obtain ⟨v2, w2, k6, k7, k8, _⟩ := run_append_own (P := P) w w.heap.size t ot e zi z sz by_ hu hzi hzz hisz hiby hzs hsz0 (ι id) l.length vs hown' ⟨b, off, none⟩ ys.length cap ws hwl hnews hone hmax hlen (Nat.le_refl _)
          rw [h6] at k6
          injection k6 with k6 k6'
          subst k6; subst k6'
          have hnr := run_append_nil (P := P) w t ot e zi z hu hzi hzz ⟨b, off, none⟩ ys.length cap ws (by rw [hisz]; exact hwl) hnews (by have := List.length_pos_iff.2 hnil; omega) (by omega) (by rw [h3'] at hlen; simp only [Nat.zero_add] at hlen; rw [hiby]; omega)
          rw [← h2, h6] at hnr
          injection hnr with hnr _
          exact .inr (by rw [hnr]; rfl)
        · by_cases hroom : l.length + ys.length ≤ cap0
          · have hrr := run_append_room (P := P) w t ot e zi hu hzi g0 l.length cap0 cur0 hg0 ⟨b, off, none⟩ ys.length cap ws (by rw [hisz]; exact hwl) hnews hone hroom (by rw [hisz, hwl, hs0, ← Nat.add_mul]; exact Nat.mul_le_mul_right _ hroom)
            rw [← h2, h6] at hrr
            injection hrr with hrr _
            exact .inl (by rw [hrr, h2]; rfl)
          · have hgr := run_append_grow (P := P) w t ot e zi z hu hzi hzz ⟨g0, 0, none⟩ l.length cap0 vs (by rw [hisz]; exact hown.1) (hown.cells (g := g0) (by rw [h2]; rfl)) ⟨b, off, none⟩ ys.length cap ws (by rw [hisz]; exact hwl) hnews (by omega) (by omega) (growslice_fits (by omega) (by rw [hiby]; exact hlen))
            rw [← h2, h6] at hgr
            injection hgr with hgr _
            exact .inr (by rw [hgr]; rfl)
      rw [List.length_map] at e2
      rw [e2]
      refine ⟨v', w', ws, h6, h7, h8, hft, ⟨by omega, fun j x u hx hu => ?_⟩, h3⟩
      obtain ⟨hjl, rfl⟩ := hwg j u hu
      exact h5' j x hx
  obtain ⟨v', w', ws, h6, h7, h8, hft, h9, h10⟩ := key
  have hform : ∃ A m c, v' = .slice A m c := by
    rcases h7.2 with ⟨h2, _⟩ | ⟨g, cap', cur, h2, _⟩
    · exact ⟨_, _, _, h2⟩
    · exact ⟨_, _, _, h2⟩
  obtain ⟨B0, d0, hi0, _⟩ := hr.rowForm hg
  have hob : ∀ k, (ι id).ownBlock = some k ↔ footOf (ι id) = some k := fun k => by rw [hi0]; cases B0 <;> simp [footOf, Value.ownBlock]
  have hnew := hr.turn (id := id) (u := v') (h' := (id, .row e sz ((l ++ ys).map f)) :: h) (c' := .row e sz ((l ++ ys).map f)) (w' := w')
    (fun i c hi hc => by
      rw [hget_cons, if_neg (fun e => hi e.symm)] at hc
      exact ⟨hc, .inr (loneH_get hl i c hc)⟩)
    (by rw [hget_cons, if_pos rfl])
    ⟨hsz0, fun c hc => by
      rw [List.map_append] at hc
      rcases List.mem_append.1 hc with hc | hc
      · exact hsz c hc
      · exact h10 c hc, vs ++ ws, by rw [upd_eq, List.length_map, List.length_append]; exact h7, by rw [List.map_append, List.flatten_append]; exact hL.append h9⟩
    h8.os h8.tape h8.output h8.size
    (fun k hk hne => h8.block k hk fun e => hne _ hg ((hob k).1 e.symm))
    (fun g hv => by
      rcases hft with h1 | h1
      · exact .inl ⟨_, hg, by rw [← h1]; exact hv⟩
      · rw [h1] at hv; cases hv; exact .inr (Nat.le_refl _))
    (.inl (Nat.ble_eq ▸ h5))
  exact ⟨v', w', h6, hform, hnew⟩

theorem tl_ap {α : Type} {id id2 sz : Nat} {l : List α} {f : α → List AV} {t e : TypeId} {x y : Operand} {z0 : List AV} {yl : List (List AV)} {ys : List α} {by_ : Nat} {h' : Heap} (ho : o.op = .call { callee := .builtin .append, args := #[x, y], argTypes := #[t, t] }) (hx : evA s x = .own id) (hg : hget h id = some (.row e sz (l.map f))) (ht : sliceE P t = some e) (hz : sizeQ P e sz = true) (h0 : zeroA P e = some z0) (hz0 : Nat.beq z0.length sz = true) (hby : bytesQ P e by_ = true) (hy : evA s y = .lst sz yl) (hyl : yl = ys.map f) (hq : ∀ y ∈ ys, (f y).all oneQ = true)
    (hlen : (l.length + ys.length) * by_ ≤ 140737488355328) (hlen2 : l.length + ys.length ≤ 9223372036854775807) (h10 : locQ id = true) (h5 : Nat.ble 5 id2 = true) (hf : freshH id2 h = true) (hlo : loneH id2 (hdel id h) = true) (hh : LeH ((id2, .row e sz ((l ++ ys).map f)) :: hdel id h) h') : TuL P [id2] o s h h' (.own id2) := fun E σ ι a w hr hv K Q hK => by
  subst hyl
  have hX : VR σ ι (evA s x) (a.eval x) := hv x (by rw [ho]; simp [Op.operands, Call.operands])
  have hY : VR σ ι (evA s y) (a.eval y) := hv y (by rw [ho]; simp [Op.operands, Call.operands])
  rw [hx] at hX
  rw [hy] at hY
  have e1 := hX.own_inv
  have h5' := Nat.ble_eq ▸ h5
  have hr2 := hr.rename hg (locQ_spec h10) h5' hf
  obtain ⟨v', w', h6, ⟨A, m, c, e0⟩, hnew⟩ := app_key (P := P) (ot := o.type) hr2 ht hz h0 (Nat.eq_of_beq_eq_true hz0) hby (by rw [hget_cons, if_pos rfl]) (hY.upd (u := ι id) rfl) hq hlen hlen2 h5 hlo
  rw [upd_eq] at h6
  unfold Oper.wp
  have hrun : (execOp a.eval o).run P w = .ok (.value v') w' := by
    unfold execOp
    simp only [ho, resolve, invoke, builtin, Sem.run_bind, Sem.run_pure, Result.andThen_ok, List.map_toArray, List.map_cons, List.map_nil, e1, h6]
  rw [hrun]
  refine hK σ _ w' v' (Sig.le.refl σ) (fun n s a hN t => (t.updN h5' (hN id2 (by simp)) _).updN h5' (hN id2 (by simp)) _) ((hnew.le fun i c hc => ?_).le hh) ?_
  · rw [hget_cons] at hc ⊢
    split at hc
    · rename_i e; rw [if_pos e]; exact hc
    · rename_i e; rw [if_neg e, hget_cons, if_neg e]; exact hc
  · have h2 := VR.own (σ := σ) (ι := upd (upd ι id2 (ι id)) id2 v') id2 (by rw [upd_eq, e0]; rfl)
    rwa [upd_eq] at h2
theorem tn_ok {N : Nat} {v : AV} (hy : Y P o s h v) : TuN P N o s h h v := fun E σ ι a w hr hv K Q hK =>
  hy.out E σ ι a w hr hv K Q fun σ' w' u k1 k2 k3 => hK σ' ι w' u k1 (fun n s a _ t => t.mono k1) k2 k3
end
end Go.Proofs.YtfjoaeghnfkdlaaDoor
namespace Go.Proofs.YtfjoaeghnfkdlaaDoor
set_option maxRecDepth 100000
open Go.RowKit
section
variable {P : Program} {n : Md} {Q : Exit → Slots → Heap → Prop} {s : Slots} {h : Heap} {ops : Array Oper} {rest : List Oper} {o : Oper}
theorem turn_ren {t id id2 sz : Nat} {e : TypeId} {xs : List (List AV)} (hs : get s t = .own id) (hg : hget h id = some (.row e sz xs)) (h10 : locQ id = true) (h5 : Nat.ble 5 id2 = true) (hf : freshH id2 h = true) : Turns n s h ((t, .own id2) :: killS id2 s) ((id2, .row e sz xs) :: hdel id h) := by
  intro E σ ι a w hr ht
  have h5' : 5 ≤ id2 := Nat.ble_eq ▸ h5
  have hr0 := hr.rename hg (locQ_spec h10) h5' hf
  refine ⟨σ, upd ι id2 (ι id), hr0, ?_⟩
  have hk := ht.kill id2 h5' (ι id)
  refine ⟨hk.size, hk.defers, fun u => ?_⟩
  rw [get_cons]
  split
  · rename_i e; subst e
    have hv := ht.at_ t
    rw [hs] at hv
    obtain ⟨A, cap, e2, _, _⟩ := hr.rowForm hg
    rw [hv.own_inv]
    have h2 := VR.own (σ := σ) (ι := upd ι id2 (ι id)) id2 (by rw [upd_eq, e2]; rfl)
    rwa [upd_eq] at h2
  · exact hk.at_ u
end
end Go.Proofs.YtfjoaeghnfkdlaaDoor
namespace Go.Proofs.YtfjoaeghnfkdlaaDoor
set_option maxRecDepth 100000
set_option maxRecDepth 100000
open Go.RowKit
def actP (i : Int) (j : Job) : Bool := decide (j.task = i ∧ j.fin < 0)
def actI (js : List Job) (i : Int) : Int := match js.findIdx? (actP i) with
  | some k => (k : Int)
  | none => -1
abbrev rbP (l : List Task) (js : List Job) (os : List Due) : Heap :=
  [(0, .blk 74 [.lst 7 (l.map eTask), .own 1, .own 2]), (1, .row 61 8 (js.map eJob)), (2, .row 43 2 (os.map eDue))]
abbrev rbH (l : List Task) (js : List Job) (os : List Due) : Heap :=
  [(0, .blk 74 [.lst 7 (l.map eTask), .own 5, .own 6]), (5, .row 61 8 (js.map eJob)), (6, .row 43 2 (os.map eDue))]
def ρr (i : Nat) : Nat := [0, 5, 6].getD i (i + 20)
end Go.Proofs.YtfjoaeghnfkdlaaDoor
namespace Go.Proofs.YtfjoaeghnfkdlaaDoor
set_option maxRecDepth 100000
set_option maxRecDepth 100000
open Go.RowKit
abbrev rbA (B : Bk) : Nat × Chunk := (5, .row 61 8 (B.all.map eJob))
abbrev rbY (l : List Task) (js : List Job) (os : List Due) : Heap :=
  [(5, .row 61 8 (js.map eJob)), (0, .blk 74 [.lst 7 (l.map eTask), .own 5, .own 6]), (6, .row 43 2 (os.map eDue))]
def lateS (t : Int) (p : List Int × Bk) (i : Int) : List Int × Bk := if lateQ t (jobAt p.2 i) then (p.1 ++ [i], setJ p.2 i (missJb (jobAt p.2 i))) else p
theorem late_fold (B : Bk) (t : Int) (ks : List Int) : ∀ k, k ≤ ks.length → lateBk B t ks k = (ks.take k).foldl (lateS t) ([], B)
  | 0, _ => by simp [lateBk]
  | k + 1, h => by
    have e : ks.getD k default = ks[k] := by simp [show k < ks.length by omega]
    rw [List.take_succ_eq_append_getElem (by omega), List.foldl_append, ← late_fold B t ks k (by omega), ← e]
    rfl
theorem bits_has (m k : Nat) (hk : k < 64) : bitsTo m (k + 1) = bitsTo m k ++ (if hasN m k then [(k : Int)] else []) := by
  rw [bitsTo_next]
  congr 1
  have : hasN m (k : Int) = decide (m / 2 ^ k % 2 = 1) := by
    rw [hasN_eq, ← Nat.testBit_eq_decide_div_mod_eq, Bool.eq_iff_iff, decide_eq_true_eq]
    unfold setL bitsL
    rw [List.mem_map]
    constructor
    · rintro ⟨j, hj, e⟩
      have e : j = k := by omega
      subst e
      exact (List.mem_filter.1 hj).2
    · intro hb
      exact ⟨k, List.mem_filter.2 ⟨List.mem_range.2 hk, hb⟩, rfl⟩
  rw [this]
  by_cases h : m / 2 ^ k % 2 = 1 <;> simp [h]
def lateT (B : Bk) (t : Int) (k : Nat) : List Int × Bk := (bitsTo B.act k).foldl (lateS t) ([], B)
theorem lateT_next (B : Bk) (t : Int) (k : Nat) (hk : k < 64) : lateT B t (k + 1) = if hasN B.act k then lateS t (lateT B t k) k else lateT B t k := by
  rw [lateT, bits_has _ _ hk, List.foldl_append]
  split
  · rfl
  · rfl
theorem lateT_all (B : Bk) (t : Int) : lateT B t 64 = lateBk B t (setL B.act) (setL B.act).length := by
  rw [late_fold _ _ _ _ (Nat.le_refl _), List.take_length]; rfl
structure LateI (l : List Task) (n : Nat) (B : Bk) (k : Nat) (p : List Int × Bk) : Prop where
  good : GoodB l n p.2
  act : p.2.act = B.act
  len : p.1.length ≤ k
  overs : p.2.overs = B.overs
abbrev rbL (l : List Task) (js : List Job) (os : List Due) (ks : List Int) : Heap := (5, .row 61 8 (js.map eJob)) :: (20, .row 3 1 (ks.map eI)) :: rbY l js os
end Go.Proofs.YtfjoaeghnfkdlaaDoor
namespace Go.Proofs.YtfjoaeghnfkdlaaDoor
set_option maxRecDepth 100000
open Go.RowKit
section
variable {P : Program} {n : Md} {Q : Exit → Slots → Heap → Prop} {s : Slots} {h : Heap}
theorem ownsRow_keep {w w' : World} {e : TypeId} {sz : Nat} {v : Value} {k : Nat} {vs : List Value} (h : w.ownsRow 0 e sz v k vs) (hw : ∀ g, Feet v g → w'.heap[g]? = w.heap[g]?) : w'.ownsRow 0 e sz v k vs := by
  obtain ⟨h2, h3⟩ := h
  refine ⟨h2, ?_⟩
  rcases h3 with h3 | ⟨g, cap, cur, hv, hb, hg, r⟩
  · exact .inl h3
  · exact .inr ⟨g, cap, cur, hv, hb, by rw [hw g (by rw [hv]; exact .inl rfl)]; exact hg, r⟩
def exC (e : TypeId) (sz : Nat) (Φ : List (List AV) → Prop) : SemC where
  rel := fun σ H v => ∃ xs, Φ xs ∧ 0 < sz ∧ (∀ c ∈ xs, c.length = sz) ∧ ∃ (w : World) (vs : List Value), w.heap = H ∧ w.ownsRow 0 e sz v xs.length vs ∧ L2 (VR0 σ) xs.flatten vs
  keep := fun σ σ' H H' v ⟨xs, h1, h2, h3, w, vs, h4, h5, h6⟩ hs hw => ⟨xs, h1, h2, h3, { w with heap := H' }, vs, rfl, ownsRow_keep h5 (fun g hg => by rw [h4]; exact hw g hg), h6.mono fun _ _ h => h.mono hs⟩
  lt := fun σ H v g ⟨xs, h1, h2, h3, w, vs, h4, h5, h6⟩ hg => by
    rcases h5.2 with ⟨hv, _⟩ | ⟨g', cap, cur, hv, hb, hc, r⟩
    · have hg := hg.one (fun vs e => by rw [hv] at e; cases e)
      rw [hv] at hg; cases hg
    · have hg := hg.one (fun vs e => by rw [hv] at e; cases e)
      rw [hv] at hg; simp only [footOf, Option.some.injEq] at hg; subst hg
      rw [← h4]; exact (Array.getElem?_eq_some_iff.1 hc).1
theorem Rel.say {E : Env} {σ : Sig} {ι : Nat → Value} {w : World} (hr : Rel E σ ι h w) {i : Nat} {c c' : Chunk} (hg : hget h i = some c) (hc : CR σ ι w i c') : Rel E σ ι ((i, c') :: h) w := by
  have key : ∀ j d, hget ((i, c') :: h) j = some d → ∃ d', hget h j = some d' := fun j d hd => by
    rw [hget_cons] at hd
    split at hd
    · rename_i e; exact ⟨c, e ▸ hg⟩
    · exact ⟨d, hd⟩
  refine ⟨hr.os, hr.tape, hr.output, hr.size, hr.old, hr.sigOld, hr.sub, fun j d hd => ?_, fun j d hd => ?_, fun j k d e hd he => ?_, hr.pin, hr.low, fun p hp => ⟨(hr.xo p hp).1, (hr.xo p hp).2.1, fun j d hd => ?_⟩⟩
  · rw [hget_cons] at hd
    split at hd
    · rename_i e; cases hd; exact e ▸ hc
    · exact hr.ch j d hd
  · obtain ⟨d', h'⟩ := key j d hd; exact hr.foot j d' h'
  · obtain ⟨d', h1⟩ := key j d hd; obtain ⟨e', h2⟩ := key k e he; exact hr.dj j k d' e' h1 h2
  · obtain ⟨d', h'⟩ := key j d hd; exact (hr.xo p hp).2.2 j d' h'
theorem Rel.pack {E : Env} {σ : Sig} {ι : Nat → Value} {w : World} (hr : Rel E σ ι h w) {i sz : Nat} {e : TypeId} {xs : List (List AV)} {Φ : List (List AV) → Prop} (hg : hget h i = some (.row e sz xs)) (hx : Φ xs) : Rel E σ ι ((i, .sem (exC e sz Φ)) :: h) w := by
  refine hr.say hg ?_
  obtain ⟨h0, h1, vs, h2, h3⟩ := hr.ch i _ hg
  exact ⟨xs, hx, h0, h1, w, vs, rfl, h2, h3⟩
theorem Rel.unpack {E : Env} {σ : Sig} {ι : Nat → Value} {w : World} (hr : Rel E σ ι h w) {i sz : Nat} {e : TypeId} {Φ : List (List AV) → Prop} (hg : hget h i = some (.sem (exC e sz Φ))) : ∃ xs, Φ xs ∧ Rel E σ ι ((i, .row e sz xs) :: h) w := by
  obtain ⟨xs, h1, h2, h3, w', vs, h4, h5, h6⟩ := hr.ch i _ hg
  exact ⟨xs, h1, hr.say hg ⟨h2, h3, vs, ownsRow_keep h5 (fun g _ => by rw [h4]), h6⟩⟩
theorem turn_pack (i : Nat) {sz : Nat} {e : TypeId} {xs : List (List AV)} (Φ : List (List AV) → Prop) (hg : hget h i = some (.row e sz xs)) (hx : Φ xs) : Turns n s h s ((i, .sem (exC e sz Φ)) :: h) :=
  fun E σ ι a w hr ht => ⟨σ, ι, hr.pack hg hx, ht⟩
theorem FnH.exOpen {f : FuncId} {args : List AV} {hin : Heap} {R : AV → Heap → Prop} (i : Nat) {sz : Nat} {e : TypeId} {Φ : List (List AV) → Prop} (hf : Entered P f) (h1 : ∀ xs, Φ xs → FnH P f args ((i, .row e sz xs) :: hin) R) (hg : hget hin i = some (.sem (exC e sz Φ))) : FnH P f args hin R :=
  ⟨hf, fun may pin σ ι w vs hr hv => let ⟨xs, h2, h3⟩ := hr.unpack hg; (h1 xs h2).2 may pin σ ι w vs h3 hv⟩
theorem FnH.exPack {f : FuncId} {args : List AV} {hin : Heap} {R : AV → Heap → Prop} (i : Nat) {sz : Nat} {e : TypeId} (hf : FnH P f args hin (fun r h' => ∃ xs Φ, hget h' i = some (.row e sz xs) ∧ Φ xs ∧ ∃ h2, LeH ((i, .sem (exC e sz Φ)) :: h') h2 ∧ R r h2)) : FnH P f args hin R :=
  ⟨hf.1, fun may pin σ ι w vs hr hv => (hf.2 may pin σ ι w vs hr hv).mono fun e w' ⟨u, r, h', σ', ι', h1, ⟨xs, Φ, h2, h3, h4, h5, h6⟩, h7, h8⟩ => ⟨u, r, h4, σ', ι', h1, h6, h7, (h8.pack h2 h3).le h5⟩⟩
theorem FnH.leIn {f : FuncId} {args : List AV} {hin hin' : Heap} {R : AV → Heap → Prop} (hf : FnH P f args hin R) (hl : LeH hin' hin) : FnH P f args hin' R :=
  ⟨hf.1, fun may pin σ ι w vs hr hv => hf.2 may pin σ ι w vs (hr.le hl) hv⟩
end
end Go.Proofs.YtfjoaeghnfkdlaaDoor
