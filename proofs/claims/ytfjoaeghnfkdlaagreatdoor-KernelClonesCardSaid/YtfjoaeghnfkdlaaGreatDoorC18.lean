/- Appends behind appends, a slice of a row that is appended: each takes a row and yields another one; in whatever order the region is walked. No condition. -/
import Derived.Test.YtfjoaeghnfkdlaaGreatDoorC17
import Derived.Test.YtfjoaeghnfkdlaaGreatDoorC7
import Derived.Test.YtfjoaeghnfkdlaaGreatDoorC10
import Derived.Test.YtfjoaeghnfkdlaaGreatDoorC8
import Derived.WalkKit
import Derived.Test.YtfjoaeghnfkdlaaGreatDoorC15
import Derived.Test.YtfjoaeghnfkdlaaGreatDoorC13
set_option linter.unusedSimpArgs false
set_option linter.unusedVariables false
set_option maxHeartbeats 1000000
namespace Go.Proofs.YtfjoaeghnfkdlaaGreatDoor
set_option maxRecDepth 100000
open Go.RowKit
section
variable {P : Program} {n : Md} {Q : Exit → Slots → Heap → Prop} {s : Slots} {h : Heap} {ops : Array Oper} {rest : List Oper} {o : Oper}
theorem Rel.rename {E : Env} {σ : Sig} {ι : Nat → Value} {w : World} (hr : Rel E σ ι h w) {id id2 sz : Nat} {e : TypeId} {xs : List (List AV)} (hg : hget h id = some (.row e sz xs)) (h10 : 10 ≤ id ∧ id < 100) (h5 : 5 ≤ id2) (hf : freshH id2 h = true) : Rel E σ (upd ι id2 (ι id)) ((id2, .row e sz xs) :: hdel id h) w := by
  have hin : ∀ i c, i ≠ id2 → hget ((id2, .row e sz xs) :: hdel id h) i = some c → i ≠ id ∧ hget h i = some c := fun i c hi hc => by
    rw [hget_cons, if_neg (fun e => hi e.symm), hget_hdel] at hc
    split at hc
    · cases hc
    · exact ⟨‹_›, hc⟩
  have hno : (id, id) = (id, id) := rfl
  have hmay : ∀ g, (id, g) ∉ E.may := fun g hm => by have := hr.low _ hm; simp only at this; omega
  refine ⟨hr.os, hr.tape, hr.output, hr.size, hr.old, hr.sigOld, hr.sub, fun i c hc => ?_, fun i c hc g hgf => ?_, fun i j c d hc hd g h1 h2 => ?_, fun p hp => ?_, hr.low, fun p hp => ⟨(hr.xo p hp).1, (hr.xo p hp).2.1, fun i c hc => ?_⟩⟩
  · by_cases hi : i = id2
    · subst hi
      rw [hget_cons, if_pos rfl] at hc
      cases hc
      obtain ⟨a1, a2, vs, a3, a4⟩ := hr.ch id _ hg
      exact ⟨a1, a2, vs, by rw [upd_eq]; exact a3, a4⟩
    · obtain ⟨_, hc2⟩ := hin i c hi hc
      have h4 := hr.ch i c hc2
      have hfr := (freshH_get hf i c hc2).2
      cases c with
      | blk ty cs =>
        obtain ⟨g, cur, h5, h6, h7⟩ := h4
        exact ⟨g, cur, by rw [upd_ne hi]; exact h5, h6, h7.1, fun j x y a b => (h7.2 j x y a b).upd (hasIdL_get hfr j x a)⟩
      | row e sz xs =>
        obtain ⟨h0, h5, vs, h6, h7⟩ := h4
        exact ⟨h0, h5, vs, by rw [upd_ne hi]; exact h6, h7⟩
      | sem c => show c.rel _ _ _; rw [upd_ne hi]; exact h4
  · by_cases hi : i = id2
    · subst hi
      rw [upd_eq] at hgf
      have := hr.foot id _ hg g hgf
      exact ⟨.inr (this.1.resolve_left (hmay g)), this.2⟩
    · rw [upd_ne hi] at hgf
      exact hr.foot i c (hin i c hi hc).2 g hgf
  · by_cases hi : i = id2
    · by_cases hj : j = id2
      · rw [hi, hj]
      · subst hi
        rw [upd_eq] at h1
        rw [upd_ne hj] at h2
        exact absurd (hr.dj id j _ d hg (hin j d hj hd).2 g h1 h2).symm (hin j d hj hd).1
    · by_cases hj : j = id2
      · subst hj
        rw [upd_eq] at h2
        rw [upd_ne hi] at h1
        exact absurd (hr.dj i id c _ (hin i c hi hc).2 hg g h1 h2) (hin i c hi hc).1
      · rw [upd_ne hi] at h1
        rw [upd_ne hj] at h2
        exact hr.dj i j c d (hin i c hi hc).2 (hin j d hj hd).2 g h1 h2
  · have := hr.pin p hp
    exact ⟨this.1, by rw [upd_ne (by omega)]; exact this.2⟩
  · by_cases hi : i = id2
    · subst hi; rw [upd_eq]; exact (hr.xo p hp).2.2 id _ hg
    · rw [upd_ne hi]; exact (hr.xo p hp).2.2 i c (hin i c hi hc).2
theorem app_key {α : Type} {E : Env} {σ : Sig} {ι : Nat → Value} {w : World} (hr : Rel E σ ι h w) {id sz by_ : Nat} {l ys : List α} {f : α → List AV} {t e ot : TypeId} (ht : sliceE P t = some e) (hz : sizeQ P e sz = true) {z0 : List AV} (h0 : zeroA P e = some z0) (hz0 : z0.length = sz)
    (hby : bytesQ P e by_ = true) (hg : hget h id = some (.row e sz (l.map f))) {vy : Value} (hY : VR σ ι (.lst sz (ys.map f)) vy) (hq : ∀ y ∈ ys, (f y).all oneQ = true) (hlen : (l.length + ys.length) * by_ ≤ 140737488355328) (hlen2 : l.length + ys.length ≤ 9223372036854775807) (h5 : Nat.ble 5 id = true) (hl : loneH id h = true) :
    ∃ v' w', (Builtin.append_ #[t, t] ot #[ι id, vy]).run P w = .ok v' w' ∧ (∃ A m c, v' = .slice A m c) ∧ Rel E σ (upd ι id v') ((id, .row e sz ((l ++ ys).map f)) :: h) w' := by
  obtain ⟨hsz0, hsz, vs, hown, hL⟩ := hr.ch id _ hg
  obtain ⟨zi, z, hzi, hzz, hzL⟩ := zeroA_spec h0
  have hisz : zi.size = sz := by unfold sizeQ at hz; rw [hzi] at hz; exact Nat.eq_of_beq_eq_true hz
  have hiby : zi.bytes = by_ := by unfold bytesQ at hby; rw [hzi] at hby; exact Nat.eq_of_beq_eq_true hby
  have hzs : z.cells.size = sz := by rw [← Array.length_toList, ← (hzL σ).1, hz0]
  have hu := sliceE_spec ht
  have key : ∃ v' w' ws, (Builtin.append_ #[t, t] ot #[ι id, vy]).run P w = .ok v' w' ∧ w'.ownsRow 0 e sz v' (l.length + ys.length) (vs ++ ws) ∧ w.grownBy w' (ι id).ownBlock ∧ (footOf v' = footOf (ι id) ∨ footOf v' = some w.heap.size) ∧ L2 (VR0 σ) (ys.map f).flatten ws ∧ (∀ c ∈ ys.map f, c.length = sz) := by
    obtain ⟨A, cap, e2, e3, e4, e5⟩ := hY.lst_inv
    rw [List.length_map] at hown
    by_cases hnil : ys = []
    · subst hnil
      refine ⟨ι id, w, [], ?_, by simpa using hown, ⟨rfl, rfl, rfl, Nat.le_refl _, fun _ _ _ => rfl⟩, .inl rfl, L2.nil _, by simp⟩
      rw [e2]
      rcases hown.2 with ⟨h2, h3⟩ | ⟨g, cap', cur, h2, _, h3, h4, _, h6, _⟩
      · rw [h2]
        cases A with
        | none => simp [Builtin.append_, run_underlying hu, sizeOf, typeInfo, hzi, Builtin.lenOf, Builtin.firstCells]
        | some ad =>
          have hl0 := run_loadCells_list (P := P) w ad [] (by simp)
          simp only [List.length_nil] at hl0
          simp [Builtin.append_, run_underlying hu, sizeOf, typeInfo, hzi, Builtin.lenOf, Builtin.firstCells, hl0]
      · rw [h2]
        cases A with
        | none => simp [Builtin.append_, run_underlying hu, sizeOf, typeInfo, hzi, Builtin.lenOf, Builtin.firstCells, h4, storeCells]
        | some ad =>
          have hl0 := run_loadCells_list (P := P) w ad [] (by simp)
          simp only [List.length_nil] at hl0
          simp [Builtin.append_, run_underlying hu, sizeOf, typeInfo, hzi, Builtin.lenOf, Builtin.firstCells, h4, storeCells, hl0]
    · rcases e5 with e5 | ⟨b, off, g, rfl, h3, h4, h5'⟩
      · exact absurd (by simpa using e5) hnil
      have hfl : ((ys.map f).flatten).length = ys.length * sz := by rw [flatten_length h3, List.length_map]
      obtain ⟨ws, hws⟩ : ∃ ws : List Value, ws = (List.range (ys.length * sz)).map g := ⟨_, rfl⟩
      have hwl : ws.length = ys.length * sz := by rw [hws]; simp
      have hwg : ∀ j u, ws[j]? = some u → j < ys.length * sz ∧ u = g j := fun j u hj => by
        have hjl : j < ys.length * sz := by rw [← hwl]; exact (List.getElem?_eq_some_iff.1 hj).1
        refine ⟨hjl, ?_⟩
        rw [hws] at hj
        simpa [hjl] using hj.symm
      have hone : ∀ u ∈ ws, u.oneCell' = true := fun u hu => by
        obtain ⟨j, hj⟩ := List.getElem?_of_mem hu
        obtain ⟨hjl, rfl⟩ := hwg j u hj
        have h6 : (ys.map f).flatten[j]? = some ((ys.map f).flatten[j]'(by omega)) := List.getElem?_eq_getElem (by omega)
        have h7 : (ys.map f).flatten[j]'(by omega) ∈ (ys.map f).flatten := List.getElem_mem _
        obtain ⟨c, hc, hc2⟩ := List.mem_flatten.1 h7
        obtain ⟨y0, hy0, rfl⟩ := List.mem_map.1 hc
        exact (VR.base (ι := ι) _ _ (h5' j _ h6)).one (List.all_eq_true.1 (hq y0 hy0) _ hc2)
      have hnews : ∀ j u, ws[j]? = some u → w.cell? ((⟨b, off, none⟩ : Addr).add j) = some u := fun j u hj => by
        obtain ⟨hjl, rfl⟩ := hwg j u hj
        rw [Go.WideShapes.add_plain]
        exact hr.sub _ _ (h4 j _ (List.getElem?_eq_getElem (by omega)))
      have hmax : l.length + ys.length ≤ maxLen := by simp only [maxLen]; omega
      obtain ⟨v', w', h6, h7, h8, _⟩ := run_append_own (P := P) w 0 t ot e zi z sz by_ hu hzi hzz hisz hiby hzs hsz0 (ι id) l.length vs hown ⟨b, off, none⟩ ys.length cap ws hwl hnews hone hmax hlen (Nat.zero_le _)
      have hft : footOf v' = footOf (ι id) ∨ footOf v' = some w.heap.size := by
        have h7' := h7
        rcases hown.2 with ⟨h2, h3'⟩ | ⟨g0, cap0, cur0, h2, _, hg0, hn0, hc0, hs0, htake⟩
        · -- out of nothing
          have hown' : w.ownsRow w.heap.size e sz (ι id) l.length vs := ⟨hown.1, .inl ⟨h2, h3'⟩⟩
          obtain ⟨v2, w2, k6, k7, k8, _⟩ := run_append_own (P := P) w w.heap.size t ot e zi z sz by_ hu hzi hzz hisz hiby hzs hsz0 (ι id) l.length vs hown' ⟨b, off, none⟩ ys.length cap ws hwl hnews hone hmax hlen (Nat.le_refl _)
          rw [h6] at k6
          injection k6 with k6 k6'
          subst k6; subst k6'
          have hnr := run_append_nil (P := P) w t ot e zi z hu hzi hzz ⟨b, off, none⟩ ys.length cap ws (by rw [hisz]; exact hwl) hnews (by have := List.length_pos_iff.2 hnil; omega) (by omega) (by rw [h3'] at hlen; simp only [Nat.zero_add] at hlen; rw [hiby]; omega)
          rw [← h2, h6] at hnr
          injection hnr with hnr _
          exact .inr (by rw [hnr]; rfl)
        · by_cases hroom : l.length + ys.length ≤ cap0
          · have hrr := run_append_room (P := P) w t ot e zi hu hzi g0 l.length cap0 cur0 hg0 ⟨b, off, none⟩ ys.length cap ws (by rw [hisz]; exact hwl) hnews hone hroom (by rw [hisz, hwl, hs0, ← Nat.add_mul]; exact Nat.mul_le_mul_right _ hroom)
            rw [← h2, h6] at hrr
            injection hrr with hrr _
            exact .inl (by rw [hrr, h2]; rfl)
          · have hgr := run_append_grow (P := P) w t ot e zi z hu hzi hzz ⟨g0, 0, none⟩ l.length cap0 vs (by rw [hisz]; exact hown.1) (hown.cells (g := g0) (by rw [h2]; rfl)) ⟨b, off, none⟩ ys.length cap ws (by rw [hisz]; exact hwl) hnews (by omega) (by omega) (growslice_fits (by omega) (by rw [hiby]; exact hlen))
            rw [← h2, h6] at hgr
            injection hgr with hgr _
            exact .inr (by rw [hgr]; rfl)
      rw [List.length_map] at e2
      rw [e2]
      refine ⟨v', w', ws, h6, h7, h8, hft, ⟨by omega, fun j x u hx hu => ?_⟩, h3⟩
      obtain ⟨hjl, rfl⟩ := hwg j u hu
      exact h5' j x hx
  obtain ⟨v', w', ws, h6, h7, h8, hft, h9, h10⟩ := key
  have hform : ∃ A m c, v' = .slice A m c := by
    rcases h7.2 with ⟨h2, _⟩ | ⟨g, cap', cur, h2, _⟩
    · exact ⟨_, _, _, h2⟩
    · exact ⟨_, _, _, h2⟩
  obtain ⟨B0, d0, hi0, _⟩ := hr.rowForm hg
  have hob : ∀ k, (ι id).ownBlock = some k ↔ footOf (ι id) = some k := fun k => by rw [hi0]; cases B0 <;> simp [footOf, Value.ownBlock]
  have hnew := hr.turn (id := id) (u := v') (h' := (id, .row e sz ((l ++ ys).map f)) :: h) (c' := .row e sz ((l ++ ys).map f)) (w' := w')
    (fun i c hi hc => by
      rw [hget_cons, if_neg (fun e => hi e.symm)] at hc
      exact ⟨hc, .inr (loneH_get hl i c hc)⟩)
    (by rw [hget_cons, if_pos rfl])
    ⟨hsz0, fun c hc => by
      rw [List.map_append] at hc
      rcases List.mem_append.1 hc with hc | hc
      · exact hsz c hc
      · exact h10 c hc, vs ++ ws, by rw [upd_eq, List.length_map, List.length_append]; exact h7, by rw [List.map_append, List.flatten_append]; exact hL.append h9⟩
    h8.os h8.tape h8.output h8.size
    (fun k hk hne => h8.block k hk fun e => hne _ hg ((hob k).1 e.symm))
    (fun g hv => by
      rcases hft with h1 | h1
      · exact .inl ⟨_, hg, by rw [← h1]; exact hv⟩
      · rw [h1] at hv; cases hv; exact .inr (Nat.le_refl _))
    (.inl (Nat.ble_eq ▸ h5))
  exact ⟨v', w', h6, hform, hnew⟩

theorem tl_ap {α : Type} {id id2 sz : Nat} {l : List α} {f : α → List AV} {t e : TypeId} {x y : Operand} {z0 : List AV} {yl : List (List AV)} {ys : List α} {by_ : Nat} {h' : Heap} (ho : o.op = .call { callee := .builtin .append, args := #[x, y], argTypes := #[t, t] }) (hx : evA s x = .own id) (hg : hget h id = some (.row e sz (l.map f))) (ht : sliceE P t = some e) (hz : sizeQ P e sz = true) (h0 : zeroA P e = some z0) (hz0 : Nat.beq z0.length sz = true) (hby : bytesQ P e by_ = true) (hy : evA s y = .lst sz yl) (hyl : yl = ys.map f) (hq : ∀ y ∈ ys, (f y).all oneQ = true)
    (hlen : (l.length + ys.length) * by_ ≤ 140737488355328) (hlen2 : l.length + ys.length ≤ 9223372036854775807) (h10 : locQ id = true) (h5 : Nat.ble 5 id2 = true) (hf : freshH id2 h = true) (hlo : loneH id2 (hdel id h) = true) (hh : LeH ((id2, .row e sz ((l ++ ys).map f)) :: hdel id h) h') : TuL P [id2] o s h h' (.own id2) := fun E σ ι a w hr hv K Q hK => by
  subst hyl
  have hX : VR σ ι (evA s x) (a.eval x) := hv x (by rw [ho]; simp [Op.operands, Call.operands])
  have hY : VR σ ι (evA s y) (a.eval y) := hv y (by rw [ho]; simp [Op.operands, Call.operands])
  rw [hx] at hX
  rw [hy] at hY
  have e1 := hX.own_inv
  have h5' := Nat.ble_eq ▸ h5
  have hr2 := hr.rename hg (locQ_spec h10) h5' hf
  obtain ⟨v', w', h6, ⟨A, m, c, e0⟩, hnew⟩ := app_key (P := P) (ot := o.type) hr2 ht hz h0 (Nat.eq_of_beq_eq_true hz0) hby (by rw [hget_cons, if_pos rfl]) (hY.upd (u := ι id) rfl) hq hlen hlen2 h5 hlo
  rw [upd_eq] at h6
  unfold Oper.wp
  have hrun : (execOp a.eval o).run P w = .ok (.value v') w' := by
    unfold execOp
    simp only [ho, resolve, invoke, builtin, Sem.run_bind, Sem.run_pure, Result.andThen_ok, List.map_toArray, List.map_cons, List.map_nil, e1, h6]
  rw [hrun]
  refine hK σ _ w' v' (Sig.le.refl σ) (fun n s a hN t => (t.updN h5' (hN id2 (by simp)) _).updN h5' (hN id2 (by simp)) _) ((hnew.le fun i c hc => ?_).le hh) ?_
  · rw [hget_cons] at hc ⊢
    split at hc
    · rename_i e; rw [if_pos e]; exact hc
    · rename_i e; rw [if_neg e, hget_cons, if_neg e]; exact hc
  · have h2 := VR.own (σ := σ) (ι := upd (upd ι id2 (ι id)) id2 v') id2 (by rw [upd_eq, e0]; rfl)
    rwa [upd_eq] at h2
theorem tn_ok {N : Nat} {v : AV} (hy : Y P o s h v) : TuN P N o s h h v := fun E σ ι a w hr hv K Q hK =>
  hy.out E σ ι a w hr hv K Q fun σ' w' u k1 k2 k3 => hK σ' ι w' u k1 (fun n s a _ t => t.mono k1) k2 k3
end
end Go.Proofs.YtfjoaeghnfkdlaaGreatDoor
namespace Go.Proofs.YtfjoaeghnfkdlaaGreatDoor
set_option maxRecDepth 100000
open Go.RowKit
section
variable {P : Program} {n : Md} {Q : Exit → Slots → Heap → Prop} {s : Slots} {h : Heap} {ops : Array Oper} {rest : List Oper} {o : Oper}
theorem turn_ren {t id id2 sz : Nat} {e : TypeId} {xs : List (List AV)} (hs : get s t = .own id) (hg : hget h id = some (.row e sz xs)) (h10 : locQ id = true) (h5 : Nat.ble 5 id2 = true) (hf : freshH id2 h = true) : Turns n s h ((t, .own id2) :: killS id2 s) ((id2, .row e sz xs) :: hdel id h) := by
  intro E σ ι a w hr ht
  have h5' : 5 ≤ id2 := Nat.ble_eq ▸ h5
  have hr0 := hr.rename hg (locQ_spec h10) h5' hf
  refine ⟨σ, upd ι id2 (ι id), hr0, ?_⟩
  have hk := ht.kill id2 h5' (ι id)
  refine ⟨hk.size, hk.defers, fun u => ?_⟩
  rw [get_cons]
  split
  · rename_i e; subst e
    have hv := ht.at_ t
    rw [hs] at hv
    obtain ⟨A, cap, e2, _, _⟩ := hr.rowForm hg
    rw [hv.own_inv]
    have h2 := VR.own (σ := σ) (ι := upd ι id2 (ι id)) id2 (by rw [upd_eq, e2]; rfl)
    rwa [upd_eq] at h2
  · exact hk.at_ u
end
end Go.Proofs.YtfjoaeghnfkdlaaGreatDoor
namespace Go.Proofs.YtfjoaeghnfkdlaaGreatDoor
set_option maxRecDepth 100000
open Go.RowKit Go.ChangeShapes Go.WideShapes

structure Event where
  t : Int
  kind : Int
  task : Int
  a : Int
  b : Int
instance : Inhabited Event := ⟨⟨0, 0, 0, 0, 0⟩⟩
theorem Event.ext_ {x y : Event} (h : x.t = y.t ∧ x.kind = y.kind ∧ x.task = y.task ∧ x.a = y.a ∧ x.b = y.b) : x = y := by cases x; cases y; simp_all
instance : DecidableEq Event := fun x y => decidable_of_iff (x.t = y.t ∧ x.kind = y.kind ∧ x.task = y.task ∧ x.a = y.a ∧ x.b = y.b) ⟨Event.ext_, fun h => by subst h; simp⟩
def Event.cells (x : Event) : List Value := [.int .i64 x.t, .int .i64 x.kind, .int .i64 x.task, .int .i64 x.a, .int .i64 x.b]
def Event.ok (x : Event) : Prop := (Lit.int .i64 x.t).wf = true ∧ (Lit.int .i64 x.kind).wf = true ∧ (Lit.int .i64 x.task).wf = true ∧ (Lit.int .i64 x.a).wf = true ∧ (Lit.int .i64 x.b).wf = true
def Event.cod : Cod Event := fun _ cs x => cs = x.cells ∧ x.ok
theorem Event.mono : Mono Event.cod := fun _ _ _ _ _ h => h
theorem Event.size {w : World} {cs : List Value} {x : Event} (h : Event.cod w cs x) : cs.length = 5 := by rw [h.1]; rfl
theorem Event.at {w : World} {b off : Nat} {xs : List Event} (h : Row' Event.cod 5 w b off xs) (i : Nat) (hi : i < xs.length) :
    w.cell? ⟨b, off + i * 5, none⟩ = some (.int .i64 xs[i].t) ∧ w.cell? ⟨b, off + i * 5 + 1, none⟩ = some (.int .i64 xs[i].kind) ∧ w.cell? ⟨b, off + i * 5 + 2, none⟩ = some (.int .i64 xs[i].task) ∧ w.cell? ⟨b, off + i * 5 + 3, none⟩ = some (.int .i64 xs[i].a) ∧ w.cell? ⟨b, off + i * 5 + 4, none⟩ = some (.int .i64 xs[i].b) ∧ xs[i].ok := by
  obtain ⟨cs, hx, _, hc⟩ := h i xs[i] (List.getElem?_eq_getElem hi)
  obtain ⟨rfl, hk⟩ := hx
  exact ⟨hc 0 _ rfl, hc 1 _ rfl, hc 2 _ rfl, hc 3 _ rfl, hc 4 _ rfl, hk⟩
theorem Event.run_eqIn (x y : Event) (w : World) : (Op.equalIn 10000 68 (.agg #[.int .i64 x.t, .int .i64 x.kind, .int .i64 x.task, .int .i64 x.a, .int .i64 x.b]) (.agg #[.int .i64 y.t, .int .i64 y.kind, .int .i64 y.task, .int .i64 y.a, .int .i64 y.b])).run Tryz.prog w = .ok (decide (x = y)) w := by
  have hs : Tryz.prog.stoodInHeld 68 = false := by kernel_rfl
  rw [run_equalIn_agg w 9999 68 _ _ (by simp only [Program.fieldsOf, Tryz.underlying68]) hs]
  simp only [Program.fieldsOf, Tryz.underlying68]
  simp [go_sem]
  by_cases h : x = y
  · subst h; simp
  · rw [show decide (x = y) = false from by simp [h]]
    repeat' split
    all_goals first | rfl | exact absurd (Event.ext_ ⟨by assumption, by assumption, by assumption, by assumption, by assumption⟩) h
theorem Event.run_guard (op : BinOp) (xo yo : Operand) (xs ys : Array Value) (w : World) : (eqGuard op 68 xo yo (.agg xs) (.agg ys)).run Tryz.prog w = .ok () w := run_eqGuard_agg w op 68 xo yo xs ys (by kernel_rfl)
end Go.Proofs.YtfjoaeghnfkdlaaGreatDoor
namespace Go.Proofs.YtfjoaeghnfkdlaaGreatDoor
set_option maxRecDepth 100000
open Go.RowKit
def eEvent (x : Event) : List AV := [.int .i64 x.t, .int .i64 x.kind, .int .i64 x.task, .int .i64 x.a, .int .i64 x.b]
theorem ex_Event : ∀ σ ι x vs, L2 (VR σ ι) (eEvent x) vs → vs = Event.cells x := fun σ ι x vs h => by
  obtain ⟨u0, r0, rfl, h0, h⟩ := L2.cons_inv h
  obtain ⟨u1, r1, rfl, h1, h⟩ := L2.cons_inv h
  obtain ⟨u2, r2, rfl, h2, h⟩ := L2.cons_inv h
  obtain ⟨u3, r3, rfl, h3, h⟩ := L2.cons_inv h
  obtain ⟨u4, r4, rfl, h4, h⟩ := L2.cons_inv h
  rw [L2.nil_iff] at h
  subst h
  rw [h0.int_inv.1, h1.int_inv.1, h2.int_inv.1, h3.int_inv.1, h4.int_inv.1]
  rfl
theorem eq_Event {s : Slots} {h : Heap} {o : Oper} {yt : TypeId} {X Y : Operand} {op : BinOp} {x y : Event} (ho : o.op = .binOp op 68 X Y yt) (hop : op = .eql ∨ op = .neq) (hx : evA s X = .agg (eEvent x)) (hy : evA s Y = .agg (eEvent y)) : OkO Tryz.prog o s h (.bool (if op = .eql then decide (x = y) else !decide (x = y))) :=
  ok_eqS Event.cells eEvent hop ex_Event (fun w => Event.run_eqIn x y w) (fun xs ys w => Event.run_guard op X Y xs ys w) ho hx hy
theorem neq_Event {s : Slots} {h : Heap} {o : Oper} {yt : TypeId} {X Y : Operand} {x y : Event} (ho : o.op = .binOp .neq 68 X Y yt) (hx : evA s X = .agg (eEvent x)) (hy : evA s Y = .agg (eEvent y)) : OkO Tryz.prog o s h (.bool (!decide (x = y))) := eq_Event ho (.inr rfl) hx hy
end Go.Proofs.YtfjoaeghnfkdlaaGreatDoor
namespace Go.Proofs.YtfjoaeghnfkdlaaGreatDoor
set_option maxRecDepth 100000
set_option maxRecDepth 100000
open Go.RowKit
/-! The agenda, its heap not told. -/
def agΦ (S : List Due) : List (List AV) → Prop := fun xs => ∃ l : List Due, xs = l.map eDue ∧ HpA l ∧ l.Perm S
abbrev agC (S : List Due) : Chunk := .sem (exC 60 2 (agΦ S))
abbrev agS (room : Int) (S : List Due) : Heap := [(5, agC S), (0, .blk 129 [.int .i64 room, .own 5])]
def pushL (room : Int) (S : List Due) (d : Due) : List Due := if pushE room S.length d = 0 then S ++ [d] else S
theorem pushS_fn (room : Int) (S : List Due) (d : Due) (hl : S.length ≤ 10000) : FnH Tryz.prog 39 [.ptr 0 0, .agg (eDue d)] (agS room S) (fun r h' => r = .int .i64 (pushE room S.length d) ∧ h' = agS room (pushL room S d)) := by
  refine FnH.exOpen 5 (entered_of (by kernel_rfl)) (fun xs hx => ?_) rfl
  obtain ⟨l, rfl, h1, h2⟩ := hx
  have hll := h2.length_eq
  refine FnH.exPack 5 (e := 60) (sz := 2) (FnH.mono (FnH.leIn (push05_fn room l d (by omega) h1) leh) ?_)
  rintro r h' ⟨rfl, ys, h3, h4, rfl⟩
  rw [hll] at h4 ⊢
  refine ⟨ys.map eDue, agΦ (pushL room S d), rfl, ⟨ys, rfl, h3, h4.trans ?_⟩, agS room (pushL room S d), leh, rfl, rfl⟩
  rw [pushL]
  split
  · exact h2.append_right _
  · exact h2
theorem untilS_fn (t room : Int) (S : List Due) (hl : S.length ≤ 10000) : FnH Tryz.prog 46 [.ptr 0 0, .int .i64 t] (agS room S) (fun r h' => r = .lst 2 ((dueU t (sortD S)).map eDue) ∧ h' = agS room (restU t (sortD S))) := by
  refine FnH.exOpen 5 (entered_of (by kernel_rfl)) (fun xs hx => ?_) rfl
  obtain ⟨l, rfl, h1, h2⟩ := hx
  have hll := h2.length_eq
  refine FnH.exPack 5 (e := 60) (sz := 2) (FnH.mono (FnH.leIn (until05_fn t room l h1 (by omega)) leh) ?_)
  rintro r h' ⟨rfl, ys, h3, h4, rfl⟩
  rw [sortD_congr h2] at h4 ⊢
  exact ⟨ys.map eDue, agΦ (restU t (sortD S)), rfl, ⟨ys, rfl, h3, h4⟩, agS room (restU t (sortD S)), leh, rfl, rfl⟩
/-! The kernel. -/
structure Kn where
  B : Bk
  S : List Due
  last : List (Int × Int)
  now : Int
  opn : Bool
abbrev knX (l : List Task) (room : Int) (B : Bk) (S : List Due) (last : List (Int × Int)) (now : Int) (opn : Bool) : Heap :=
  [(0, .blk 87 [.lst 7 (l.map eTask), .lst 1 ((l.map Task.prio).map eI), .ptr 1 0, .ptr 4 0, .own 8, .int .i64 now, .bool opn]),
   (1, .blk 127 [.lst 7 (l.map eTask), .own 5, .own 2, .own 3, .int .u64 B.act, .own 6]), (5, .row 71 8 (B.all.map eJob)), (2, mI B.now), (3, mI B.cnt), (6, .row 60 2 (B.overs.map eDue)),
   (4, .blk 129 [.int .i64 room, .own 7]), (7, agC S), (8, mI last)]
abbrev knH (l : List Task) (room : Int) (K : Kn) : Heap := knX l room K.B K.S K.last K.now K.opn
abbrev evZ (i : Nat) : Nat × Chunk := (i, .blk 68 [.int .i64 0, .int .i64 0, .int .i64 0, .int .i64 0, .int .i64 0])
theorem event_fn (l : List Task) (room : Int) (K : Kn) (kind i a b : Int) : FnH Tryz.prog 45 [.ptr 0 0, .int .i64 kind, .int .i64 i, .int .i64 a, .int .i64 b] (knH l room K) (fun r h' => r = .agg (eEvent ⟨K.now, kind, i, a, b⟩) ∧ h' = knH l room K) := by
  refine FnH.drop' (fnhb Tryz.func45 (entered_of (by kernel_rfl)) rfl rfl ?_)
  repeat' (first | refine sA ?_ | (show O _ _ _ _ _ _ _; first | refine ao_alloc (id := 10) rfl rfl rfl rfl rfl rfl rfl ?_) | ((first | apply kM | apply kN); (iterate 3 (· exact rfl)); (· first | exact ya)) | refine sG ?_ | (refine sK ?_ ?_ <;> intro hc <;> (try simp only [KL, sL, reduceCtorEq] at hc) <;> (try (have hT : True := hc; clear hT hc)) <;> (try (exfalso; omega))))
  exact retq rfl ⟨knH l room K, leh, rfl, rfl⟩
def ρL (i : Nat) : Nat := if i = 0 then 1 else i
def ρK (i : Nat) : Nat := i
def ρA (i : Nat) : Nat := if i = 0 then 4 else if i = 5 then 7 else i + 10
def nwR (k : Nat) (ids : List Nat) (i : Nat) : List Nat := if i = k then ids else []
def letE (l : List Task) (K : Kn) (i : Int) : Event := if relOk l K.B i then ⟨K.now, 1, i, noB K.B i, 0⟩ else ⟨K.now, 3, i, 0, 0⟩
def letK (l : List Task) (K : Kn) (i : Int) : Kn := { K with B := relBk l K.B i K.now }
def letH (l : List Task) (room : Int) (K : Kn) (B : Bk) (f : Bool) : Heap := evZ 10 :: knX l room B K.S K.last K.now K.opn
set_option maxHeartbeats 4000000 in
theorem let_fn (l : List Task) (room : Int) (K : Kn) (n : Nat) (h : GoodB l n K.B) (hn : n ≤ 100000) (i : Int) : FnH Tryz.prog 47 [.ptr 0 0, .int .i64 i] (knH l room K) (fun r h' => r = .agg (eEvent (letE l K i)) ∧ h' = knH l room (letK l K i)) := by
  refine FnH.drop' (fnhb Tryz.func47 (entered_of (by kernel_rfl)) rfl rfl ?_)
  have c := relJ_fn l K.B n h hn i K.now
  cases hok : relOk l K.B i
  case true =>
    rw [hok] at c
    rw [letE, hok, if_pos rfl]
    rw [if_pos rfl] at c
    repeat' (first | refine sB ?_ | (show O _ _ _ _ _ _ _; first | refine ao_alloc (id := 10) rfl rfl rfl rfl rfl rfl rfl ?_) | ((first | apply kM | apply kN); (iterate 3 (· exact rfl)); (· first | exact ya)) | refine sG ?_ | (refine sK ?_ ?_ <;> intro hc <;> (try simp only [KL, sL, reduceCtorEq] at hc) <;> (try (have hT : True := hc; clear hT hc)) <;> (try (exfalso; omega))))
    refine wle (s' := [(0, .ptr 0 0), (1, .int .i64 i), (4, .ptr 10 0)]) (h' := letH l room K K.B false) les (show LeH _ (evZ 10 :: knH l room K) from leh) ?_
    refine wdrawQ (letH l room K) (fun _ => True) (fun _ => True) [9] [] 0 99 (nwR 9 [5, 6]) K.B (LeH.refl _) (by kernel_rfl) (by kernel_rfl) (by kernel_rfl) trivial trivial rfl rfl rfl rfl ?_
    refine qw_new (v := .ptr 0 0) rfl rfl (by kernel_rfl) (fun y hy => tn_ok ya) ?_
    repeat' (first | refine sA ?_ | ((first | apply kM | apply kN); (iterate 3 (· exact rfl)); (· first | exact ya)) | (show QW _ _ _ _ _ _ _ _ _ _ _ _ _ _ _; first | refine qw_nil ?_ | (apply qw_any; (· exact rfl); (· exact rfl); (· exact rfl); (· intro y' f' hy'; first | exact ya); (· first | exact rfl | kernel_rfl))) | refine sG ?_ | (refine sK ?_ ?_ <;> intro hc <;> (try simp only [KL, sL, reduceCtorEq] at hc) <;> (try (have hT : True := hc; clear hT hc)) <;> (try (exfalso; omega))))
    refine qw_tu (x' := relBk l K.B i K.now) rfl rfl rfl trivial trivial (fun f hf => tl_call ρL c rfl (show LeH (evZ 10 :: knH l room K) _ from leh) rfl rfl rfl rfl rfl rfl rfl rfl (show LeH _ (evZ 10 :: knH l room (letK l K i)) from leh)) (by kernel_rfl) ?_
    repeat' (first | refine sA ?_ | ((first | apply kM | apply kN); (iterate 3 (· exact rfl)); (· first | exact ya)) | (show QW _ _ _ _ _ _ _ _ _ _ _ _ _ _ _; first | refine qw_nil ?_ | (apply qw_any; (· exact rfl); (· exact rfl); (· exact rfl); (· intro y' f' hy'; first | exact ya); (· first | exact rfl | kernel_rfl))) | refine sG ?_ | (refine sK ?_ ?_ <;> intro hc <;> (try simp only [KL, sL, reduceCtorEq] at hc) <;> (try (have hT : True := hc; clear hT hc)) <;> (try (exfalso; omega))))
    refine ole (h' := evZ 10 :: knH l room (letK l K i)) (LeS.refl _) (LeH.refl _) ?_
    refine zcall (fun i => ρK i) (event_fn l room (letK l K i) 1 i (noB K.B i) 0) rfl rfl leh rfl rfl rfl rfl rfl rfl (fun r h' hR => ?_)
    obtain ⟨rfl, rfl⟩ := hR
    refine ⟨rfl, rfl, ?_⟩
    repeat' (first | refine sA ?_ | ((first | apply kM | apply kN); (iterate 3 (· exact rfl)); (· first | exact ya)) | refine sG ?_ | (refine sK ?_ ?_ <;> intro hc <;> (try simp only [KL, sL, reduceCtorEq] at hc) <;> (try (have hT : True := hc; clear hT hc)) <;> (try (exfalso; omega))))
    exact retq rfl ⟨knH l room (letK l K i), leh, rfl, rfl⟩
  case false =>
    rw [hok] at c
    rw [letE, hok, if_neg (by decide)]
    rw [if_neg (by decide)] at c
    repeat' (first | refine sB ?_ | (show O _ _ _ _ _ _ _; first | refine ao_alloc (id := 10) rfl rfl rfl rfl rfl rfl rfl ?_) | ((first | apply kM | apply kN); (iterate 3 (· exact rfl)); (· first | exact ya)) | refine sG ?_ | (refine sK ?_ ?_ <;> intro hc <;> (try simp only [KL, sL, reduceCtorEq] at hc) <;> (try (have hT : True := hc; clear hT hc)) <;> (try (exfalso; omega))))
    refine wle (s' := [(0, .ptr 0 0), (1, .int .i64 i), (4, .ptr 10 0)]) (h' := letH l room K K.B false) les (show LeH _ (evZ 10 :: knH l room K) from leh) ?_
    refine wdrawQ (letH l room K) (fun _ => True) (fun _ => True) [9] [] 0 99 (nwR 9 [5, 6]) K.B (LeH.refl _) (by kernel_rfl) (by kernel_rfl) (by kernel_rfl) trivial trivial rfl rfl rfl rfl ?_
    refine qw_new (v := .ptr 0 0) rfl rfl (by kernel_rfl) (fun y hy => tn_ok ya) ?_
    repeat' (first | refine sA ?_ | ((first | apply kM | apply kN); (iterate 3 (· exact rfl)); (· first | exact ya)) | (show QW _ _ _ _ _ _ _ _ _ _ _ _ _ _ _; first | refine qw_nil ?_ | (apply qw_any; (· exact rfl); (· exact rfl); (· exact rfl); (· intro y' f' hy'; first | exact ya); (· first | exact rfl | kernel_rfl))) | refine sG ?_ | (refine sK ?_ ?_ <;> intro hc <;> (try simp only [KL, sL, reduceCtorEq] at hc) <;> (try (have hT : True := hc; clear hT hc)) <;> (try (exfalso; omega))))
    refine qw_tu (x' := relBk l K.B i K.now) rfl rfl rfl trivial trivial (fun f hf => tl_call ρL c rfl (show LeH (evZ 10 :: knH l room K) _ from leh) rfl rfl rfl rfl rfl rfl rfl rfl (show LeH _ (evZ 10 :: knH l room (letK l K i)) from leh)) (by kernel_rfl) ?_
    repeat' (first | refine sA ?_ | ((first | apply kM | apply kN); (iterate 3 (· exact rfl)); (· first | exact ya)) | (show QW _ _ _ _ _ _ _ _ _ _ _ _ _ _ _; first | refine qw_nil ?_ | (apply qw_any; (· exact rfl); (· exact rfl); (· exact rfl); (· intro y' f' hy'; first | exact ya); (· first | exact rfl | kernel_rfl))) | refine sG ?_ | (refine sK ?_ ?_ <;> intro hc <;> (try simp only [KL, sL, reduceCtorEq] at hc) <;> (try (have hT : True := hc; clear hT hc)) <;> (try (exfalso; omega))))
    refine ole (h' := evZ 10 :: knH l room (letK l K i)) (LeS.refl _) (LeH.refl _) ?_
    refine zcall (fun i => ρK i) (event_fn l room (letK l K i) 3 i 0 0) rfl rfl leh rfl rfl rfl rfl rfl rfl (fun r h' hR => ?_)
    obtain ⟨rfl, rfl⟩ := hR
    refine ⟨rfl, rfl, ?_⟩
    repeat' (first | refine sA ?_ | ((first | apply kM | apply kN); (iterate 3 (· exact rfl)); (· first | exact ya)) | refine sG ?_ | (refine sK ?_ ?_ <;> intro hc <;> (try simp only [KL, sL, reduceCtorEq] at hc) <;> (try (have hT : True := hc; clear hT hc)) <;> (try (exfalso; omega))))
    exact retq rfl ⟨knH l room (letK l K i), leh, rfl, rfl⟩
def passQ (l : List Task) (K : Kn) (i : Int) : Bool := decide (0 ≤ i ∧ i < l.length) && decide ((l.getD i.toNat default).kind = 2) && match getM K.last i with
  | none => true
  | some v => !decide (K.now - v < (l.getD i.toNat default).period)
def passK (l : List Task) (K : Kn) (i : Int) : Kn := { K with last := if passQ l K i then setM K.last i K.now else K.last }
set_option maxHeartbeats 4000000 in
theorem passes_fn (l : List Task) (room : Int) (K : Kn) (hl : l.length ≤ 1000000) (hn : 0 ≤ K.now ∧ K.now ≤ 2000000) (i : Int) (hL : ∀ v, getM K.last i = some v → 0 ≤ v ∧ v ≤ K.now) : FnH Tryz.prog 48 [.ptr 0 0, .int .i64 i] (knH l room K) (fun r h' => r = .bool (passQ l K i) ∧ h' = knH l room (passK l K i)) := by
  refine FnH.drop' (fnhb Tryz.func48 (entered_of (by kernel_rfl)) rfl rfl ?_)
  have e0 : passQ l K i = false → knH l room (passK l K i) = knH l room K := fun e => by rw [passK, e]; rfl
  by_cases h0 : 0 ≤ i ∧ i < l.length
  case neg =>
    have e : passQ l K i = false := by rw [passQ, decide_eq_false h0]; rfl
    rw [e0 e, e]
    repeat' (first | refine sA ?_ | ((first | apply kM | apply kN); (iterate 3 (· exact rfl)); (· first | exact ya)) | refine sG ?_ | (refine sK ?_ ?_ <;> intro hc <;> (try simp only [KL, sL, reduceCtorEq] at hc) <;> (try (have hT : True := hc; clear hT hc)) <;> (try (exfalso; omega))))
    all_goals first | (exfalso; omega) | exact retq rfl ⟨knH l room K, leh, rfl, rfl⟩
  by_cases hk : (l.getD i.toNat default).kind = 2
  case neg =>
    have e : passQ l K i = false := by rw [passQ, decide_eq_false hk, Bool.and_false]; rfl
    rw [e0 e, e]
    repeat' (first | refine sA ?_ | ((first | apply kM | apply kN); (iterate 3 (· exact rfl)); (· first | (show Y _ ⟨_, .indexAddr _ _ _, _, _, _, _⟩ _ _ _; first | exact q_ioE (i.toNat) rfl rfl rfl rfl rfl rfl (by omega) (by omega)) | exact ya)) | refine sG ?_ | (refine sK ?_ ?_ <;> intro hc <;> (try simp only [KL, sL, reduceCtorEq] at hc) <;> (try (have hT : True := hc; clear hT hc)) <;> (try (exfalso; omega))))
    all_goals first | (exfalso; omega) | exact retq rfl ⟨knH l room K, leh, rfl, rfl⟩
  cases hg : getM K.last i with
  | none =>
    have e : passQ l K i = true := by rw [passQ, decide_eq_true h0, decide_eq_true hk, hg]; rfl
    rw [passK, e, if_pos rfl]
    repeat' (first | refine sB ?_ | ((first | apply kM | apply kN); (iterate 3 (· exact rfl)); (· first | (show Y _ ⟨_, .indexAddr _ _ _, _, _, _, _⟩ _ _ _; first | exact q_ioE (i.toNat) rfl rfl rfl rfl rfl rfl (by omega) (by omega)) | exact ya | exact Y.mk (ok_lookup (cm := true) (.int .i64 0) false rfl rfl rfl rfl rfl z_int (.inl ⟨hg, rfl, rfl⟩)))) | refine sG ?_ | (refine sK ?_ ?_ <;> intro hc <;> (try simp only [KL, sL, reduceCtorEq] at hc) <;> (try (have hT : True := hc; clear hT hc)) <;> (try (exfalso; omega))))
    all_goals first | (exfalso; omega) | skip
    refine kI (by kernel_rfl) (by kernel_rfl) ?_
    repeat' (first | refine sB ?_ | ((first | apply kM | apply kN); (iterate 3 (· exact rfl)); (· first | (show Y _ ⟨_, .indexAddr _ _ _, _, _, _, _⟩ _ _ _; first | exact q_ioE (i.toNat) rfl rfl rfl rfl rfl rfl (by omega) (by omega)) | exact ya)) | refine sG ?_ | (refine sK ?_ ?_ <;> intro hc <;> (try simp only [KL, sL, reduceCtorEq] at hc) <;> (try (have hT : True := hc; clear hT hc)) <;> (try (exfalso; omega))))
    all_goals first | (exfalso; omega) | skip
    refine wdrawC (H := fun y : List (Int × Int) => knX l room K.B K.S y K.now K.opn) (ok := fun _ => True) (tn := [9]) (ln := []) K.last leh (by kernel_rfl) (by kernel_rfl) (by kernel_rfl) trivial ?_
    repeat' (first | refine sA ?_ | ((first | apply kM | apply kN); (iterate 3 (· exact rfl)); (· first | exact ya)) | (show C _ _ _ _ _ _ _ _ _ _ _; first | refine cnil ?_ | (apply c_any; (· exact rfl); (· exact rfl); (· intro y' hy'; first | exact ya)) | (apply c_ld; (· exact rfl); (· exact rfl); (· exact rfl); (· first | exact ya)) | refine c_grdN rfl rfl rfl ?_) | refine sG ?_ | ((first | refine kQ rfl rfl ?_ ?_ | refine kR rfl rfl rfl rfl rfl ?_ ?_ | refine kS rfl rfl rfl ?_ ?_ | refine c_grd rfl rfl rfl ?_ ?_) <;> intro hc <;> (try simp only [KL, sL, reduceCtorEq] at hc) <;> (try (have hT : True := hc; clear hT hc)) <;> (try (exfalso; omega))))
    refine c_tu (x' := setM K.last i K.now) rfl rfl trivial (TuO.post (tu_st (sto_map K.now rfl rfl rfl rfl rfl rfl rfl) rfl) leh) ?_
    repeat' (first | refine sA ?_ | ((first | apply kM | apply kN); (iterate 3 (· exact rfl)); (· first | exact ya)) | (show C _ _ _ _ _ _ _ _ _ _ _; first | refine cnil ?_ | (apply c_any; (· exact rfl); (· exact rfl); (· intro y' hy'; first | exact ya)) | (apply c_ld; (· exact rfl); (· exact rfl); (· exact rfl); (· first | exact ya)) | refine c_grdN rfl rfl rfl ?_) | refine sG ?_ | ((first | refine kQ rfl rfl ?_ ?_ | refine kR rfl rfl rfl rfl rfl ?_ ?_ | refine kS rfl rfl rfl ?_ ?_ | refine c_grd rfl rfl rfl ?_ ?_) <;> intro hc <;> (try simp only [KL, sL, reduceCtorEq] at hc) <;> (try (have hT : True := hc; clear hT hc)) <;> (try (exfalso; omega))))
    exact retq rfl ⟨knX l room K.B K.S (setM K.last i K.now) K.now K.opn, leh, rfl, rfl⟩
  | some v =>
    have hv := hL v hg
    by_cases hp : K.now - v < (l.getD i.toNat default).period
    case pos =>
      have e : passQ l K i = false := by rw [passQ, decide_eq_true h0, decide_eq_true hk, hg]; simp only [decide_eq_true hp]; rfl
      rw [e0 e, e]
      repeat' (first | refine sA ?_ | ((first | apply kM | apply kN); (iterate 3 (· exact rfl)); (· first | (show Y _ ⟨_, .indexAddr _ _ _, _, _, _, _⟩ _ _ _; first | exact q_ioE (i.toNat) rfl rfl rfl rfl rfl rfl (by omega) (by omega)) | exact ya | exact Y.mk (ok_lookup (cm := true) (.int .i64 v) true rfl rfl rfl rfl rfl z_int (.inr ⟨v, hg, rfl, rfl⟩)))) | refine sG ?_ | (refine sK ?_ ?_ <;> intro hc <;> (try simp only [KL, sL, reduceCtorEq] at hc) <;> (try (have hT : True := hc; clear hT hc)) <;> (try (exfalso; omega))))
      all_goals first | (exfalso; omega) | exact retq rfl ⟨knH l room K, leh, rfl, rfl⟩ | skip
    have e : passQ l K i = true := by rw [passQ, decide_eq_true h0, decide_eq_true hk, hg]; simp only [decide_eq_false hp]; rfl
    rw [passK, e, if_pos rfl]
    repeat' (first | refine sB ?_ | ((first | apply kM | apply kN); (iterate 3 (· exact rfl)); (· first | (show Y _ ⟨_, .indexAddr _ _ _, _, _, _, _⟩ _ _ _; first | exact q_ioE (i.toNat) rfl rfl rfl rfl rfl rfl (by omega) (by omega)) | exact ya | exact Y.mk (ok_lookup (cm := true) (.int .i64 v) true rfl rfl rfl rfl rfl z_int (.inr ⟨v, hg, rfl, rfl⟩)))) | refine sG ?_ | (refine sK ?_ ?_ <;> intro hc <;> (try simp only [KL, sL, reduceCtorEq] at hc) <;> (try (have hT : True := hc; clear hT hc)) <;> (try (exfalso; omega))))
    all_goals first | (exfalso; omega) | skip
    refine kI (by kernel_rfl) (by kernel_rfl) ?_
    repeat' (first | refine sB ?_ | ((first | apply kM | apply kN); (iterate 3 (· exact rfl)); (· first | (show Y _ ⟨_, .indexAddr _ _ _, _, _, _, _⟩ _ _ _; first | exact q_ioE (i.toNat) rfl rfl rfl rfl rfl rfl (by omega) (by omega)) | exact ya)) | refine sG ?_ | (refine sK ?_ ?_ <;> intro hc <;> (try simp only [KL, sL, reduceCtorEq] at hc) <;> (try (have hT : True := hc; clear hT hc)) <;> (try (exfalso; omega))))
    all_goals first | (exfalso; omega) | skip
    refine wdrawC (H := fun y : List (Int × Int) => knX l room K.B K.S y K.now K.opn) (ok := fun _ => True) (tn := [9]) (ln := []) K.last leh (by kernel_rfl) (by kernel_rfl) (by kernel_rfl) trivial ?_
    repeat' (first | refine sA ?_ | ((first | apply kM | apply kN); (iterate 3 (· exact rfl)); (· first | exact ya)) | (show C _ _ _ _ _ _ _ _ _ _ _; first | refine cnil ?_ | (apply c_any; (· exact rfl); (· exact rfl); (· intro y' hy'; first | exact ya)) | (apply c_ld; (· exact rfl); (· exact rfl); (· exact rfl); (· first | exact ya)) | refine c_grdN rfl rfl rfl ?_) | refine sG ?_ | ((first | refine kQ rfl rfl ?_ ?_ | refine kR rfl rfl rfl rfl rfl ?_ ?_ | refine kS rfl rfl rfl ?_ ?_ | refine c_grd rfl rfl rfl ?_ ?_) <;> intro hc <;> (try simp only [KL, sL, reduceCtorEq] at hc) <;> (try (have hT : True := hc; clear hT hc)) <;> (try (exfalso; omega))))
    refine c_tu (x' := setM K.last i K.now) rfl rfl trivial (TuO.post (tu_st (sto_map K.now rfl rfl rfl rfl rfl rfl rfl) rfl) leh) ?_
    repeat' (first | refine sA ?_ | ((first | apply kM | apply kN); (iterate 3 (· exact rfl)); (· first | exact ya)) | (show C _ _ _ _ _ _ _ _ _ _ _; first | refine cnil ?_ | (apply c_any; (· exact rfl); (· exact rfl); (· intro y' hy'; first | exact ya)) | (apply c_ld; (· exact rfl); (· exact rfl); (· exact rfl); (· first | exact ya)) | refine c_grdN rfl rfl rfl ?_) | refine sG ?_ | ((first | refine kQ rfl rfl ?_ ?_ | refine kR rfl rfl rfl rfl rfl ?_ ?_ | refine kS rfl rfl rfl ?_ ?_ | refine c_grd rfl rfl rfl ?_ ?_) <;> intro hc <;> (try simp only [KL, sL, reduceCtorEq] at hc) <;> (try (have hT : True := hc; clear hT hc)) <;> (try (exfalso; omega))))
    exact retq rfl ⟨knX l room K.B K.S (setM K.last i K.now) K.now K.opn, leh, rfl, rfl⟩
end Go.Proofs.YtfjoaeghnfkdlaaGreatDoor
namespace Go.Proofs.YtfjoaeghnfkdlaaGreatDoor
set_option maxRecDepth 100000
set_option maxRecDepth 100000
open Go.RowKit
abbrev tab9 : Nat × Chunk := (9, .sem (thatC tabK))
def prios (l : List Task) : List Int := l.map Task.prio
def pickV (l : List Task) (B : Bk) : Int := pickTo (prios l) (setL B.act) (setL B.act).length
def pkH (l : List Task) (room : Int) (B : Bk) (S : List Due) (last : List (Int × Int)) (now : Int) (y : Unit) (f : Bool) : Heap := tab9 :: knX l room B S last now true
set_option maxHeartbeats 4000000 in
theorem pickK_fn (l : List Task) (room : Int) (K : Kn) (hl : l.length ≤ 1000000) (ha : K.B.act < 2 ^ 64) : FnH Tryz.prog 10 [.ptr 0 0] (tab9 :: knH l room K)
    (fun r h' => r = .tup [.int .i64 (if K.opn then max (pickV l K.B) 0 else 0), .bool (K.opn && decide (0 ≤ pickV l K.B))] ∧ h' = tab9 :: knH l room K) := by
  obtain ⟨B, S, last, now, opn⟩ := K
  simp only at ha
  refine FnH.drop' (fnhb Tryz.func10 (entered_of (by kernel_rfl)) rfl rfl ?_)
  have c1 := activeJ_fn l B
  have c2 := pick_fn (prios l) B.act ha (by rw [prios, List.length_map]; exact hl)
  rw [pick_eq] at c2
  cases opn
  case false =>
    repeat' (first | refine sB ?_ | ((first | apply kM | apply kN); (iterate 3 (· exact rfl)); (· first | exact ya)) | refine sG ?_ | (refine sK ?_ ?_ <;> intro hc <;> (try simp only [KL, sL, reduceCtorEq] at hc) <;> (try (have hT : True := hc; clear hT hc)) <;> (try (exfalso; omega))))
    all_goals exact retq rfl ⟨tab9 :: knX l room B S last now false, leh, rfl, rfl⟩
  repeat' (first | refine sB ?_ | ((first | apply kM | apply kN); (iterate 3 (· exact rfl)); (· first | exact ya)) | refine sG ?_ | (refine sK ?_ ?_ <;> intro hc <;> (try simp only [KL, sL, reduceCtorEq] at hc) <;> (try (have hT : True := hc; clear hT hc)) <;> (try (exfalso; omega))))
  refine wle (s' := [(0, .ptr 0 0)]) (h' := pkH l room B S last now () false) les (show LeH _ (tab9 :: knX l room B S last now true) from leh) ?_
  refine wdrawQ (pkH l room B S last now) (fun _ => True) (fun _ => True) [8] [] 0 99 (nwR 8 [5, 6]) () (LeH.refl _) (by kernel_rfl) (by kernel_rfl) (by kernel_rfl) trivial trivial rfl rfl rfl rfl ?_
  refine qw_new (v := .ptr 0 0) rfl rfl (by kernel_rfl) (fun y hy => tn_ok ya) ?_
  repeat' (first | refine sA ?_ | ((first | apply kM | apply kN); (iterate 3 (· exact rfl)); (· first | exact ya)) | (show QW _ _ _ _ _ _ _ _ _ _ _ _ _ _ _; first | refine qw_nil ?_ | (apply qw_any; (· exact rfl); (· exact rfl); (· exact rfl); (· intro y' f' hy'; first | exact ya); (· first | exact rfl | kernel_rfl))) | refine sG ?_ | (refine sK ?_ ?_ <;> intro hc <;> (try simp only [KL, sL, reduceCtorEq] at hc) <;> (try (have hT : True := hc; clear hT hc)) <;> (try (exfalso; omega))))
  refine qw_tu (x' := ()) rfl rfl rfl trivial trivial (fun f hf => tl_call ρL c1 rfl (show LeH (tab9 :: knX l room B S last now true) _ from leh) rfl rfl rfl rfl rfl rfl rfl rfl (show LeH _ (tab9 :: knX l room B S last now true) from leh)) (by kernel_rfl) ?_
  repeat' (first | refine sA ?_ | ((first | apply kM | apply kN); (iterate 3 (· exact rfl)); (· first | exact ya | exact Y.mk (ok_callT (id := 9) c2 rfl rfl))) | (show QW _ _ _ _ _ _ _ _ _ _ _ _ _ _ _; first | refine qw_nil ?_ | (apply qw_any; (· exact rfl); (· exact rfl); (· exact rfl); (· intro y' f' hy'; first | exact ya | exact Y.mk (ok_callT (id := 9) c2 rfl rfl)); (· first | exact rfl | kernel_rfl))) | refine sG ?_ | (refine sK ?_ ?_ <;> intro hc <;> (try simp only [KL, sL, reduceCtorEq] at hc) <;> (try (have hT : True := hc; clear hT hc)) <;> (try (exfalso; omega))))
  exact retq rfl ⟨tab9 :: knX l room B S last now true, leh, by rw [if_pos rfl, Bool.true_and]; rfl, rfl⟩
def stepE (now i at_ : Int) (ended : Bool) (j j2 : Job) : List Event := ⟨now, 5, i, j.no, at_⟩ :: if ended then [⟨now, 7, i, j2.no, j2.fin - j2.release⟩] else []
def stepB (B : Bk) (now i : Int) (ended : Bool) : Bk := if ended then endBk (stepBk B i now) i now else stepBk B i now
abbrev jbO (i : Nat) (j : Job) : Nat × Chunk := (i, .blk 71 (eJob j))
def stH (l : List Task) (room : Int) (S : List Due) (last : List (Int × Int)) (now : Int) (opn : Bool) (j : Job) (y : Bk) (f : Bool) : Heap := jbO 12 j :: knX l room y S last now opn
def stH2 (l : List Task) (room : Int) (S : List Due) (last : List (Int × Int)) (now : Int) (opn : Bool) (e : Event) (y : Bk × Job) (f : Bool) : Heap := jbO 12 y.2 :: (14, .row 68 5 ([e].map eEvent)) :: knX l room y.1 S last now opn
theorem step_has {B : Bk} {i t : Int} : hasN (stepBk B i t).act i = hasN B.act i := by
  unfold stepBk; split
  · rfl
  · rfl
set_option maxHeartbeats 8000000 in
theorem step_fn (l : List Task) (room : Int) (K : Kn) (n : Nat) (h : GoodB l n K.B) (hn : n ≤ 99999) (i at_ : Int) (ended : Bool) (hh : hasN K.B.act i = true) (hnow : 0 ≤ K.now ∧ K.now ≤ 2000000) (hrel : 0 ≤ (jobAt (stepBk K.B i K.now) i).release ∧ (jobAt (stepBk K.B i K.now) i).release ≤ 2000000) :
    FnH Tryz.prog 49 [.ptr 0 0, .int .i64 i, .int .i64 at_, .bool ended] (knH l room K)
    (fun r h' => r = .lst 5 ((stepE K.now i at_ ended (jobAt K.B i) (endJb K.now (jobAt (stepBk K.B i K.now) i))).map eEvent) ∧ h' = knH l room { K with B := stepB K.B K.now i ended }) := by
  obtain ⟨B, S, last, now, opn⟩ := K
  simp only at h hh hnow hrel ⊢
  refine FnH.drop' (fnhb Tryz.func49 (entered_of (by kernel_rfl)) rfl rfl ?_)
  have c1 := getJ_fn l B n h i
  have c2 := stepJ_fn l B n h (by omega) i now
  have c3 := endJ_fn l (stepBk B i now) (n + 1) (h.step i now) (by omega) i now
  rw [step_has] at c3
  rw [hh, if_pos rfl] at c1 c3
  rw [hh] at c2
  have hB2 : stepB B now i false = stepBk B i now := rfl
  have hB3 : stepB B now i true = endBk (stepBk B i now) i now := rfl
  obtain ⟨j2, hj2⟩ : ∃ j2, j2 = endJb now (jobAt (stepBk B i now) i) := ⟨_, rfl⟩
  have hr2 : j2.release = (jobAt (stepBk B i now) i).release := by rw [hj2]; rfl
  have hf2 : j2.fin = inT now + 1 := by rw [hj2]; rfl
  have hin := inT_le now
  rw [← hr2] at hrel
  rw [← hj2] at c3 ⊢
  generalize jobAt B i = j at c1 ⊢
  generalize stepBk B i now = B2 at c2 c3 hB2 hB3
  generalize endBk B2 i now = B3 at c3 hB3
  repeat' (first | refine sA ?_ | ((first | apply kM | apply kN); (iterate 3 (· exact rfl)); (· first | exact ya)) | refine sG ?_ | (refine sK ?_ ?_ <;> intro hc <;> (try simp only [KL, sL, reduceCtorEq] at hc) <;> (try (have hT : True := hc; clear hT hc)) <;> (try (exfalso; omega))))
  refine zcall (fun i => ρL i) (c1) rfl rfl leh rfl rfl rfl rfl rfl rfl (fun r h' hR => ?_)
  obtain ⟨rfl, rfl⟩ := hR
  refine ⟨rfl, rfl, ?_⟩
  repeat' (first | refine sB ?_ | (show O _ _ _ _ _ _ _; first | refine ao_alloc (id := 12) rfl rfl rfl rfl rfl rfl rfl ?_) | ((first | apply kM | apply kN); (iterate 3 (· exact rfl)); (· first | exact ya)) | refine sG ?_ | (refine sK ?_ ?_ <;> intro hc <;> (try simp only [KL, sL, reduceCtorEq] at hc) <;> (try (have hT : True := hc; clear hT hc)) <;> (try (exfalso; omega))))
  refine wle (s' := [(0, .ptr 0 0), (1, .int .i64 i), (2, .int .i64 at_), (3, .bool ended), (9, .ptr 12 0)]) (h' := stH l room S last now opn j B false) les (show LeH _ (jbO 12 j :: knX l room B S last now opn) from leh) ?_
  refine wdrawQ (stH l room S last now opn j) (fun _ => True) (fun _ => True) [9] [] 0 99 (nwR 9 [5, 6]) B (LeH.refl _) (by kernel_rfl) (by kernel_rfl) (by kernel_rfl) trivial trivial rfl rfl rfl rfl ?_
  refine qw_new (v := .ptr 0 0) rfl rfl (by kernel_rfl) (fun y hy => tn_ok ya) ?_
  repeat' (first | refine sA ?_ | ((first | apply kM | apply kN); (iterate 3 (· exact rfl)); (· first | exact ya)) | (show QW _ _ _ _ _ _ _ _ _ _ _ _ _ _ _; first | refine qw_nil ?_ | (apply qw_any; (· exact rfl); (· exact rfl); (· exact rfl); (· intro y' f' hy'; first | exact ya); (· first | exact rfl | kernel_rfl))) | refine sG ?_ | (refine sK ?_ ?_ <;> intro hc <;> (try simp only [KL, sL, reduceCtorEq] at hc) <;> (try (have hT : True := hc; clear hT hc)) <;> (try (exfalso; omega))))
  refine qw_tu (x' := B2) rfl rfl rfl trivial trivial (fun f hf => tl_call ρL c2 rfl (show LeH (jbO 12 j :: knX l room B S last now opn) _ from leh) rfl rfl rfl rfl rfl rfl rfl rfl (show LeH _ (jbO 12 j :: knX l room B2 S last now opn) from leh)) (by kernel_rfl) ?_
  repeat' (first | refine sA ?_ | ((first | apply kM | apply kN); (iterate 3 (· exact rfl)); (· first | exact ya)) | (show QW _ _ _ _ _ _ _ _ _ _ _ _ _ _ _; first | refine qw_nil ?_ | (apply qw_any; (· exact rfl); (· exact rfl); (· exact rfl); (· intro y' f' hy'; first | exact ya); (· first | exact rfl | kernel_rfl))) | refine sG ?_ | (refine sK ?_ ?_ <;> intro hc <;> (try simp only [KL, sL, reduceCtorEq] at hc) <;> (try (have hT : True := hc; clear hT hc)) <;> (try (exfalso; omega))))
  refine ole (h' := jbO 12 j :: knX l room B2 S last now opn) (LeS.refl _) (LeH.refl _) ?_
  refine zcall (fun i => ρK i) (event_fn l room ⟨B2, S, last, now, opn⟩ 5 i j.no at_) rfl rfl leh rfl rfl rfl rfl rfl rfl (fun r h' hR => ?_)
  obtain ⟨rfl, rfl⟩ := hR
  refine ⟨rfl, rfl, ?_⟩
  refine o_blit (f := eEvent) (l := [(⟨now, 5, i, j.no, at_⟩ : Event)]) (id := 14) (sz := 5) rfl rfl rfl rfl rfl rfl rfl rfl rfl rfl rfl rfl rfl rfl ?_
  cases ended
  case false =>
    repeat' (first | refine sB ?_ | ((first | apply kM | apply kN); (iterate 3 (· exact rfl)); (· first | exact ya)) | refine sG ?_ | (refine sK ?_ ?_ <;> intro hc <;> (try simp only [KL, sL, reduceCtorEq] at hc) <;> (try (have hT : True := hc; clear hT hc)) <;> (try (exfalso; omega))))
    refine retT (fun _ => turn_freeze (t := 8) rfl rfl rfl) ?_
    exact retq rfl ⟨knX l room B2 S last now opn, leh, rfl, by rw [hB2]⟩
  repeat' (first | refine sB ?_ | ((first | apply kM | apply kN); (iterate 3 (· exact rfl)); (· first | exact ya)) | refine sG ?_ | (refine sK ?_ ?_ <;> intro hc <;> (try simp only [KL, sL, reduceCtorEq] at hc) <;> (try (have hT : True := hc; clear hT hc)) <;> (try (exfalso; omega))))
  refine wle (s' := [(0, .ptr 0 0), (1, .int .i64 i), (9, .ptr 12 0), (11, .own 14)]) (h' := stH2 l room S last now opn ⟨now, 5, i, j.no, at_⟩ (B2, j) false) les (show LeH _ (jbO 12 j :: (14, .row 68 5 ([(⟨now, 5, i, j.no, at_⟩ : Event)].map eEvent)) :: knX l room B2 S last now opn) from leh) ?_
  refine wdrawQ (stH2 l room S last now opn ⟨now, 5, i, j.no, at_⟩) (fun _ => True) (fun _ => True) [9, 13] [] 0 99 (nwR 9 [5, 6]) (B2, j) (LeH.refl _) (by kernel_rfl) (by kernel_rfl) (by kernel_rfl) trivial trivial rfl rfl rfl rfl ?_
  refine qw_new (v := .ptr 0 0) rfl rfl (by kernel_rfl) (fun y hy => tn_ok ya) ?_
  repeat' (first | refine sA ?_ | ((first | apply kM | apply kN); (iterate 3 (· exact rfl)); (· first | exact ya)) | (show QW _ _ _ _ _ _ _ _ _ _ _ _ _ _ _; first | refine qw_nil ?_ | (apply qw_any; (· exact rfl); (· exact rfl); (· exact rfl); (· intro y' f' hy'; first | exact ya); (· first | exact rfl | kernel_rfl))) | refine sG ?_ | (refine sK ?_ ?_ <;> intro hc <;> (try simp only [KL, sL, reduceCtorEq] at hc) <;> (try (have hT : True := hc; clear hT hc)) <;> (try (exfalso; omega))))
  refine qw_tu (x' := (B3, j)) rfl rfl rfl trivial trivial (fun f hf => tl_call ρL c3 rfl (show LeH (jbO 12 j :: (14, .row 68 5 ([(⟨now, 5, i, j.no, at_⟩ : Event)].map eEvent)) :: knX l room B2 S last now opn) _ from leh) rfl rfl rfl rfl rfl rfl rfl rfl (show LeH _ (jbO 12 j :: (14, .row 68 5 ([(⟨now, 5, i, j.no, at_⟩ : Event)].map eEvent)) :: knX l room B3 S last now opn) from leh)) (by kernel_rfl) ?_
  repeat' (first | refine sA ?_ | ((first | apply kM | apply kN); (iterate 3 (· exact rfl)); (· first | exact ya)) | (show QW _ _ _ _ _ _ _ _ _ _ _ _ _ _ _; first | refine qw_nil ?_ | (apply qw_any; (· exact rfl); (· exact rfl); (· exact rfl); (· intro y' f' hy'; first | exact ya); (· first | exact rfl | kernel_rfl))) | refine sG ?_ | (refine sK ?_ ?_ <;> intro hc <;> (try simp only [KL, sL, reduceCtorEq] at hc) <;> (try (have hT : True := hc; clear hT hc)) <;> (try (exfalso; omega))))
  refine qw_tu (x' := (B3, j2)) rfl rfl rfl trivial trivial (fun f hf => ((tu_st (sto_B rfl rfl rfl rfl rfl rfl (Nat.le_of_ble_eq_true rfl)) rfl).post (show LeH _ (jbO 12 j2 :: (14, .row 68 5 ([(⟨now, 5, i, j.no, at_⟩ : Event)].map eEvent)) :: knX l room B3 S last now opn) from leh)).toL) (by kernel_rfl) ?_
  repeat' (first | refine sA ?_ | ((first | apply kM | apply kN); (iterate 3 (· exact rfl)); (· first | exact ya)) | (show QW _ _ _ _ _ _ _ _ _ _ _ _ _ _ _; first | refine qw_nil ?_ | (apply qw_any; (· exact rfl); (· exact rfl); (· exact rfl); (· intro y' f' hy'; first | exact ya); (· first | exact rfl | kernel_rfl))) | refine sG ?_ | (refine sK ?_ ?_ <;> intro hc <;> (try simp only [KL, sL, reduceCtorEq] at hc) <;> (try (have hT : True := hc; clear hT hc)) <;> (try (exfalso; omega))))
  refine ole (h' := jbO 12 j2 :: (14, .row 68 5 ([(⟨now, 5, i, j.no, at_⟩ : Event)].map eEvent)) :: knX l room B3 S last now opn) (LeS.refl _) (LeH.refl _) ?_
  refine zcall (fun i => ρK i) (event_fn l room ⟨B3, S, last, now, opn⟩ 7 i j2.no (j2.fin - j2.release)) rfl rfl leh rfl rfl rfl rfl rfl rfl (fun r h' hR => ?_)
  obtain ⟨rfl, rfl⟩ := hR
  refine ⟨rfl, rfl, ?_⟩
  repeat' (first | refine sA ?_ | ((first | apply kM | apply kN); (iterate 3 (· exact rfl)); (· first | exact ya)) | refine sG ?_ | (refine sK ?_ ?_ <;> intro hc <;> (try simp only [KL, sL, reduceCtorEq] at hc) <;> (try (have hT : True := hc; clear hT hc)) <;> (try (exfalso; omega))))
  (refine ao_ap (id := 14) (ys := [(⟨now, 7, i, j2.no, j2.fin - j2.release⟩ : Event)]) (by_ := 40) rfl rfl rfl rfl rfl rfl rfl rfl rfl rfl (fun _ _ => rfl) ?_ ?_ rfl rfl rfl rfl rfl ?_; (· (first | omega | ((try simp only [List.length_cons, List.length_nil, List.length_append, List.length_map]) <;> omega))); (· (first | omega | ((try simp only [List.length_cons, List.length_nil, List.length_append, List.length_map]) <;> omega))))
  repeat' (first | refine sA ?_ | ((first | apply kM | apply kN); (iterate 3 (· exact rfl)); (· first | exact ya)) | refine sG ?_ | (refine sK ?_ ?_ <;> intro hc <;> (try simp only [KL, sL, reduceCtorEq] at hc) <;> (try (have hT : True := hc; clear hT hc)) <;> (try (exfalso; omega))))
  refine retT (fun _ => turn_freeze (t := 8) rfl rfl rfl) ?_
  exact retq rfl ⟨knX l room B3 S last now opn, leh, rfl, by rw [hB3]⟩
end Go.Proofs.YtfjoaeghnfkdlaaGreatDoor
