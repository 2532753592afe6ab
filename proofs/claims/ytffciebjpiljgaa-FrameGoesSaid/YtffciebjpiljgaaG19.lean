/- Regions in whatever order in which one operation moves a row of the call's own (an append): what named the row is known no more behind it. No condition. -/
import Derived.Test.YtffciebjpiljgaaG13
import Derived.Test.YtffciebjpiljgaaG8
import Derived.Laws.IdiomCopy
import Derived.Laws.CopyRow
import Derived.Test.YtffciebjpiljgaaG18
namespace Go.Proofs.Ytffciebjpiljgaa
set_option linter.unusedSimpArgs false
set_option linter.unusedVariables false
set_option maxRecDepth 100000
set_option linter.unusedVariables false
set_option linter.unusedSimpArgs false
open Go.RowKit
section
variable {P : Program} {n : Md} {Q : Exit → Slots → Heap → Prop} {s : Slots} {h : Heap} {ops : Array Oper} {rest : List Oper} {o : Oper}
/-- An operation that turns blocks and moves a row, and what it yields. -/
def TuK (P : Program) (R : Nat) (o : Oper) (s : Slots) (h h' : Heap) (v : AV) : Prop :=
  ∀ (E : Env) (σ : Sig) (ι : Nat → Value) (a : Act) (w : World), Rel E σ ι h w → (∀ y ∈ o.op.operands.toList, VR σ ι (evA s y) (a.eval y)) →
    ∀ (K : Act → World → Prop) (Q : Exit → Act → World → Prop), (∀ σ' ι' w' u, Sig.le σ σ' → (∀ (n : Md) (s : Slots) (a : Act), TR n σ ι s a → TR n σ' ι' (killS R s) a) → Rel E σ' ι' h' w' → VR σ' ι' v u → K (a.put o.dst u) w') → o.wp P a w K Q
variable {β : Type} {H : β → Heap} {ok : β → Prop} {K : Slots → β → Prop} {tn ln : List Nat} {c R : Nat}
/-- Does an operation stand in a fixed order with the one that moves the row, or not speak of it? -/
def cQ (ops : Array Oper) (c R : Nat) (m : Nat) (o : Oper) (s : Slots) (v : AV) : Bool :=
  bif Nat.blt m c then ((Region.before ops).getD c 0).testBit m || (!hasId R v && (tmpsOf ops o).all fun t => !hasId R (get s t)) else Nat.beq m c || ((Region.before ops).getD m 0).testBit c || !hasId R v
def ADk (P : Program) (ops : Array Oper) (H : β → Heap) (ok : β → Prop) (tn ln : List Nat) (c R : Nat) (K : Slots → β → Prop) : Nat → List Oper → Slots → β → Prop
  | m, [], s, x => c < m ∧ ∃ s', (∀ t, get s t = get s' t) ∧ K s' x
  | m, o :: rest, s, x => (GoG ops s o ∧ m ≠ c ∧ tn.contains m = true ∧ ∃ x' v, ok x' ∧ cQ ops c R m o s v = true ∧ TuO P o s (H x) (H x') v ∧ ADk P ops H ok tn ln c R K (m + 1) rest (putS s o.dst v) x') ∨
      (GoG ops s o ∧ m = c ∧ tn.contains m = true ∧ ∃ x' v, ok x' ∧ TuK P R o s (H x) (H x') v ∧ ADk P ops H ok tn ln c R K (m + 1) rest (putS (killS R s) o.dst v) x') ∨
      (GoG ops s o ∧ m ≠ c ∧ tn.contains m = false ∧ ∃ v, cQ ops c R m o s v = true ∧ ((ln.contains m = true ∧ OkO P o s (H x) v) ∨ ∀ y, ok y → OkO P o s (H y) v) ∧ ADk P ops H ok tn ln c R K (m + 1) rest (putS s o.dst v) x) ∨
      (SkG ops s o ∧ m ≠ c ∧ cQ ops c R m o s (.tup []) = true ∧ ADk P ops H ok tn ln c R K (m + 1) rest (putS s o.dst (.tup [])) x)
theorem TuK.congr {s s' : Slots} {h h' : Heap} {v : AV} (e : ∀ t, get s t = get s' t) (hk : TuK P R o s h h' v) : TuK P R o s' h h' v := fun E σ ι a w hr hx =>
  hk E σ ι a w hr fun x hm => by rw [evA_congr e]; exact hx x hm
def mkA (R : Nat) (v : AV) : AV := bif hasId R v then .undef else v
def vK (c R : Nat) (vs : Nat → AV) (j : Nat) : AV := if j < c then mkA R (vs j) else vs j
/-- The state of the text at an operation. -/
def tx (l : List Oper) (c R : Nat) (s : Slots) (vs : Nat → AV) (i : Nat) : Slots := if c < i then stOf (killS R s) l (vK c R vs) (fun _ => true) i else stOf s l vs (fun _ => true) i
def KnK (P : Program) (H : β → Heap) (ok : β → Prop) (tn ln : List Nat) (c R : Nat) (l : List Oper) (s : Slots) (vs : Nat → AV) (ys : Nat → β) (i : Nat) (o : Oper) : Prop :=
  (GoG l.toArray (tx l c R s vs i) o ∧ i ≠ c ∧ tn.contains i = true ∧ cQ l.toArray c R i o (tx l c R s vs i) (vs i) = true ∧ TuO P o (tx l c R s vs i) (H (ys (cTn tn i))) (H (ys (cTn tn i + 1))) (vs i)) ∨
  (GoG l.toArray (tx l c R s vs i) o ∧ i = c ∧ tn.contains i = true ∧ TuK P R o (tx l c R s vs i) (H (ys (cTn tn i))) (H (ys (cTn tn i + 1))) (vs i)) ∨
  (GoG l.toArray (tx l c R s vs i) o ∧ i ≠ c ∧ tn.contains i = false ∧ cQ l.toArray c R i o (tx l c R s vs i) (vs i) = true ∧ ((ln.contains i = true ∧ OkO P o (tx l c R s vs i) (H (ys (cTn tn i))) (vs i)) ∨ ∀ y, ok y → OkO P o (tx l c R s vs i) (H y) (vs i))) ∨
  (SkG l.toArray (tx l c R s vs i) o ∧ i ≠ c ∧ cQ l.toArray c R i o (tx l c R s vs i) (vs i) = true ∧ vs i = .tup [] ∧ (tn.contains i = true → ys (cTn tn i + 1) = ys (cTn tn i)))
/-- The state when these have come up. -/
def actK (l : List Oper) (c R : Nat) (s : Slots) (vs : Nat → AV) (L : Nat → Bool) : Slots := if L c = true then stOf (killS R s) l (vK c R vs) L l.length else stOf s l vs L l.length
end
end Go.Proofs.Ytffciebjpiljgaa
namespace Go.Proofs.Ytffciebjpiljgaa
set_option linter.unusedSimpArgs false
set_option linter.unusedVariables false
set_option maxRecDepth 100000
set_option linter.unusedVariables false
set_option linter.unusedSimpArgs false
open Go.RowKit
section
variable {P : Program} {n : Md} {Q : Exit → Slots → Heap → Prop} {s : Slots} {h : Heap} {ops : Array Oper} {rest : List Oper} {o : Oper}
/-- Cells of a block are known no more. -/
def maskL : List AV → List Bool → List AV
  | x :: xs, b :: bs => (bif b then .undef else x) :: maskL xs bs
  | xs, _ => xs
theorem TuK.post {R : Nat} {h' h'' : Heap} {v : AV} (ht : TuK P R o s h h' v) (hh : LeH h' h'') : TuK P R o s h h'' v := fun E σ ι a w hr hv K Q hK =>
  ht E σ ι a w hr hv K Q fun σ' ι' w' u k1 k2 k3 k4 => hK σ' ι' w' u k1 k2 (k3.le hh) k4
theorem TuK.pre {R : Nat} {h0 h' : Heap} {v : AV} (hp : ∀ (E : Env) (σ : Sig) (ι : Nat → Value) (w : World), Rel E σ ι h0 w → Rel E σ ι h w) (ht : TuK P R o s h h' v) : TuK P R o s h0 h' v := fun E σ ι a w hr hv K Q hK =>
  ht E σ ι a w (hp E σ ι w hr) hv K Q hK
variable {β : Type} {H : β → Heap} {ok : β → Prop} {K : Slots → β → Prop} {tn ln : List Nat} {c R : Nat}
/-- A walk through such a region, behind a name that nothing opens. -/
structure KW (P : Program) (ops : Array Oper) (H : β → Heap) (ok : β → Prop) (tn ln : List Nat) (c R : Nat) (K : Slots → β → Prop) (m : Nat) (rest : List Oper) (s : Slots) (x : β) : Prop where
  out : ADk P ops H ok tn ln c R K m rest s x
variable {m : Nat} {x : β}
/-- The same test, its cheap part first. -/
def cQ2 (ops : Array Oper) (c R : Nat) (m : Nat) (o : Oper) (s : Slots) (v : AV) : Bool :=
  bif Nat.blt m c then (!hasId R v && (tmpsOf ops o).all fun t => !hasId R (get s t)) || ((Region.before ops).getD c 0).testBit m else Nat.beq m c || (!hasId R v || ((Region.before ops).getD m 0).testBit c)
end
end Go.Proofs.Ytffciebjpiljgaa
namespace Go.Proofs.Ytffciebjpiljgaa
set_option linter.unusedSimpArgs false
set_option linter.unusedVariables false
set_option maxRecDepth 100000
set_option linter.unusedVariables false
set_option linter.unusedSimpArgs false
open Go.RowKit
section
variable {P : Program} {n : Md} {Q : Exit → Slots → Heap → Prop} {s : Slots} {h : Heap} {ops : Array Oper} {rest : List Oper} {o : Oper}
theorem a1_appendO {α : Type} {id sz by_ : Nat} {l ys : List α} {f : α → List AV} {t e : TypeId} {x y : Operand} (ho : o.op = .call { callee := .builtin .append, args := #[x, y], argTypes := #[t, t] }) (ht : sliceE P t = some e) (hz : sizeQ P e sz = true) {z0 : List AV} (h0 : zeroA P e = some z0) (hz0 : z0.length = sz)
    (hby : bytesQ P e by_ = true) (hx : evA s x = .own id) (hg : hget h id = some (.row e sz (l.map f))) {id2 : Nat} (hy : evA s y = .own id2) (hg2 : hget h id2 = some (.row e sz (ys.map f))) (hq : ∀ y ∈ ys, (f y).all oneQ = true) (hlen : (l.length + ys.length) * by_ ≤ 140737488355328) (hlen2 : l.length + ys.length ≤ 9223372036854775807)
    (hco : constsOk o = true) (hd : dstOk n o.dst = true) (h5 : Nat.ble 5 id = true) (hl : loneH id h = true)
    (hk : AOps P n ops Q rest (putS (killS id s) o.dst (.own id)) ((id, .row e sz ((l ++ ys).map f)) :: h)) : A1 P n ops Q o rest s h := fun E σ ι a w hr ht' => by
  have hX : VR σ ι (evA s x) (a.eval x) := evA_sound (List.all_eq_true.1 hco x (by rw [ho]; simp [Op.operands, Call.operands])) fun t _ => ht'.at_ t
  have hY : VR σ ι (evA s y) (a.eval y) := evA_sound (List.all_eq_true.1 hco y (by rw [ho]; simp [Op.operands, Call.operands])) fun t _ => ht'.at_ t
  rw [hx] at hX
  rw [hy] at hY
  obtain ⟨hsz0, hsz, vs, hown, hL⟩ := hr.ch id _ hg
  obtain ⟨zi, z, hzi, hzz, hzL⟩ := zeroA_spec h0
  have hisz : zi.size = sz := by unfold sizeQ at hz; rw [hzi] at hz; exact Nat.eq_of_beq_eq_true hz
  have hiby : zi.bytes = by_ := by unfold bytesQ at hby; rw [hzi] at hby; exact Nat.eq_of_beq_eq_true hby
  have hzs : z.cells.size = sz := by rw [← Array.length_toList, ← (hzL σ).1, hz0]
  have e1 := hX.own_inv
  have hu := sliceE_spec ht
  obtain ⟨_, hsz2, vs2, hown2, hL2⟩ := hr.ch id2 _ hg2
  rw [List.length_map] at hown2
  have eY := hY.own_inv
  -- what append yields
  have key : ∃ v' w' ws, (Builtin.append_ #[t, t] o.type #[ι id, a.eval y]).run P w = .ok v' w' ∧ w'.ownsRow 0 e sz v' (l.length + ys.length) (vs ++ ws) ∧ w.grownBy w' (ι id).ownBlock ∧ (footOf v' = footOf (ι id) ∨ footOf v' = some w.heap.size) ∧ L2 (VR0 σ) (ys.map f).flatten ws ∧ (∀ c ∈ ys.map f, c.length = sz) := by
    obtain ⟨A, cap, e2, e5⟩ : ∃ A cap, a.eval y = .slice A ys.length cap ∧ (ys = [] ∨ ∃ b, A = some ⟨b, 0, none⟩ ∧ (ι id2).ownBlock = some b) := by
      rcases hown2.2 with ⟨h2, h3⟩ | ⟨g, cap', cur, h2, _⟩
      · exact ⟨none, 0, by rw [eY, h2, h3], .inl (List.eq_nil_of_length_eq_zero h3)⟩
      · exact ⟨_, cap', by rw [eY, h2], .inr ⟨g, rfl, by rw [h2]; rfl⟩⟩
    rw [List.length_map] at hown
    by_cases hnil : ys = []
    · subst hnil
      refine ⟨ι id, w, [], ?_, by simpa using hown, ⟨rfl, rfl, rfl, Nat.le_refl _, fun _ _ _ => rfl⟩, .inl rfl, L2.nil _, by simp⟩
      rw [e2]
      rcases hown.2 with ⟨h2, h3⟩ | ⟨g, cap', cur, h2, _, h3, h4, _, h6, _⟩
      · rw [h2]
        cases A with
        | none => simp [Builtin.append_, run_underlying hu, sizeOf, typeInfo, hzi, Builtin.lenOf, Builtin.firstCells]
        | some ad =>
          have hl0 := run_loadCells_list (P := P) w ad [] (by simp)
          simp only [List.length_nil] at hl0
          simp [Builtin.append_, run_underlying hu, sizeOf, typeInfo, hzi, Builtin.lenOf, Builtin.firstCells, hl0]
      · rw [h2]
        cases A with
        | none => simp [Builtin.append_, run_underlying hu, sizeOf, typeInfo, hzi, Builtin.lenOf, Builtin.firstCells, h4, storeCells]
        | some ad =>
          have hl0 := run_loadCells_list (P := P) w ad [] (by simp)
          simp only [List.length_nil] at hl0
          simp [Builtin.append_, run_underlying hu, sizeOf, typeInfo, hzi, Builtin.lenOf, Builtin.firstCells, h4, storeCells, hl0]
    · rcases e5 with e5 | ⟨b, rfl, hfoot⟩
      · exact absurd e5 hnil
      have hwl : vs2.length = ys.length * sz := hown2.1
      have hL2' := hL2
      have hone : ∀ u ∈ vs2, u.oneCell' = true := fun u hu => by
        obtain ⟨j, hj⟩ := List.getElem?_of_mem hu
        have hjl : j < (ys.map f).flatten.length := by rw [hL2.1]; exact (List.getElem?_eq_some_iff.1 hj).1
        have h6 : (ys.map f).flatten[j]? = some ((ys.map f).flatten[j]'hjl) := List.getElem?_eq_getElem hjl
        have h7 : (ys.map f).flatten[j]'hjl ∈ (ys.map f).flatten := List.getElem_mem _
        obtain ⟨c, hc, hc2⟩ := List.mem_flatten.1 h7
        obtain ⟨y0, hy0, rfl⟩ := List.mem_map.1 hc
        exact (VR.base (ι := ι) _ _ (hL2.2 j _ u h6 hj)).one (List.all_eq_true.1 (hq y0 hy0) _ hc2)
      have hnews : ∀ j u, vs2[j]? = some u → w.cell? ((⟨b, 0, none⟩ : Addr).add j) = some u := fun j u hj => by
        exact hown2.cells hfoot j u hj
      have hmax : l.length + ys.length ≤ maxLen := by simp only [maxLen]; omega
      obtain ⟨v', w', h6, h7, h8, _⟩ := run_append_own (P := P) w 0 t o.type e zi z sz by_ hu hzi hzz hisz hiby hzs hsz0 (ι id) l.length vs hown ⟨b, 0, none⟩ ys.length cap vs2 hwl hnews hone hmax hlen (Nat.zero_le _)
      have hft : footOf v' = footOf (ι id) ∨ footOf v' = some w.heap.size := by
        have h7' := h7
        rcases hown.2 with ⟨h2, h3'⟩ | ⟨g0, cap0, cur0, h2, _, hg0, hn0, hc0, hs0, htake⟩
        · -- out of nothing
          have hown' : w.ownsRow w.heap.size e sz (ι id) l.length vs := ⟨hown.1, .inl ⟨h2, h3'⟩⟩
          obtain ⟨v2, w2, k6, k7, k8, _⟩ := run_append_own (P := P) w w.heap.size t o.type e zi z sz by_ hu hzi hzz hisz hiby hzs hsz0 (ι id) l.length vs hown' ⟨b, 0, none⟩ ys.length cap vs2 hwl hnews hone hmax hlen (Nat.le_refl _)
          rw [h6] at k6
          injection k6 with k6 k6'
          subst k6; subst k6'
          have hnr := run_append_nil (P := P) w t o.type e zi z hu hzi hzz ⟨b, 0, none⟩ ys.length cap vs2 (by rw [hisz]; exact hwl) hnews (by have := List.length_pos_iff.2 hnil; omega) (by omega) (by rw [h3'] at hlen; simp only [Nat.zero_add] at hlen; rw [hiby]; omega)
          rw [← h2, h6] at hnr
          injection hnr with hnr _
          exact .inr (by rw [hnr]; rfl)
        · by_cases hroom : l.length + ys.length ≤ cap0
          · have hrr := run_append_room (P := P) w t o.type e zi hu hzi g0 l.length cap0 cur0 hg0 ⟨b, 0, none⟩ ys.length cap vs2 (by rw [hisz]; exact hwl) hnews hone hroom (by rw [hisz, hwl, hs0, ← Nat.add_mul]; exact Nat.mul_le_mul_right _ hroom)
            rw [← h2, h6] at hrr
            injection hrr with hrr _
            exact .inl (by rw [hrr, h2]; rfl)
          · have hgr := run_append_grow (P := P) w t o.type e zi z hu hzi hzz ⟨g0, 0, none⟩ l.length cap0 vs (by rw [hisz]; exact hown.1) (hown.cells (g := g0) (by rw [h2]; rfl)) ⟨b, 0, none⟩ ys.length cap vs2 (by rw [hisz]; exact hwl) hnews (by omega) (by omega) (growslice_fits (by omega) (by rw [hiby]; exact hlen))
            rw [← h2, h6] at hgr
            injection hgr with hgr _
            exact .inr (by rw [hgr]; rfl)
      rw [e2]
      exact ⟨v', w', vs2, h6, h7, h8, hft, hL2, hsz2⟩
  obtain ⟨v', w', ws, h6, h7, h8, hft, h9, h10⟩ := key
  unfold Oper.wp
  have hrun : (execOp a.eval o).run P w = .ok (.value v') w' := by
    unfold execOp
    simp only [ho, resolve, invoke, builtin, Sem.run_bind, Sem.run_pure, Result.andThen_ok, List.map_toArray, List.map_cons, List.map_nil, e1, h6]
  rw [hrun]
  have hform : ∃ A m c, v' = .slice A m c := by
    rcases h7.2 with ⟨h2, _⟩ | ⟨g, cap', cur, h2, _⟩
    · exact ⟨_, _, _, h2⟩
    · exact ⟨_, _, _, h2⟩
  obtain ⟨A0, m0, c0, e0⟩ := hform
  obtain ⟨B0, d0, hi0, _⟩ := hr.rowForm hg
  have hob : ∀ k, (ι id).ownBlock = some k ↔ footOf (ι id) = some k := fun k => by rw [hi0]; cases B0 <;> simp [footOf, Value.ownBlock]
  have hnew := hr.turn (id := id) (u := v') (h' := (id, .row e sz ((l ++ ys).map f)) :: h) (c' := .row e sz ((l ++ ys).map f)) (w' := w')
    (fun i c hi hc => by
      rw [hget_cons, if_neg (fun e => hi e.symm)] at hc
      exact ⟨hc, .inr (loneH_get hl i c hc)⟩)
    (by rw [hget_cons, if_pos rfl])
    ⟨hsz0, fun c hc => by
      rw [List.map_append] at hc
      rcases List.mem_append.1 hc with hc | hc
      · exact hsz c hc
      · exact h10 c hc, vs ++ ws, by rw [upd_eq, List.length_map, List.length_append]; exact h7, by rw [List.map_append, List.flatten_append]; exact hL.append h9⟩
    h8.os h8.tape h8.output h8.size
    (fun k hk hne => h8.block k hk fun e => hne _ hg ((hob k).1 e.symm))
    (fun g hv => by
      rcases hft with h1 | h1
      · exact .inl ⟨_, hg, by rw [← h1]; exact hv⟩
      · rw [h1] at hv; cases hv; exact .inr (Nat.le_refl _))
    (.inl (Nat.ble_eq ▸ h5))
  refine hk E σ _ _ _ hnew ((ht'.kill id (Nat.ble_eq ▸ h5) v').putS hd ?_)
  have h2 := VR.own (σ := σ) (ι := upd ι id v') id (by rw [upd_eq, e0]; rfl)
  rwa [upd_eq] at h2
theorem ao_apO {α : Type} {id sz : Nat} {l : List α} {f : α → List AV} {t e : TypeId} {x y : Operand} {z0 : List AV} {ys : List α} {by_ id2 : Nat} (ho : o.op = .call { callee := .builtin .append, args := #[x, y], argTypes := #[t, t] }) (hx : evA s x = .own id) (hg : hget h id = some (.row e sz (l.map f))) (ht : sliceE P t = some e) (hz : sizeQ P e sz = true) (h0 : zeroA P e = some z0) (hz0 : Nat.beq z0.length sz = true) (hby : bytesQ P e by_ = true) (hy : evA s y = .own id2) (hg2 : hget h id2 = some (.row e sz (ys.map f))) (hq : ∀ y ∈ ys, (f y).all oneQ = true) (hlen : (l.length + ys.length) * by_ ≤ 140737488355328) (hlen2 : l.length + ys.length ≤ 9223372036854775807) (h5 : Nat.ble 5 id = true) (hlo : loneH id h = true) (hgd : o.guard = none) (hco : constsOk o = true) (hdo : dstOk n o.dst = true)
    (hk : O P n ops Q rest (putS (killS id s) o.dst (.own id)) ((id, .row e sz ((l ++ ys).map f)) :: h)) : O P n ops Q (o :: rest) s h := ⟨aops_one hgd (a1_appendO ho ht hz h0 (Nat.eq_of_beq_eq_true hz0) hby hx hg hy hg2 hq hlen hlen2 hco hdo h5 hlo hk.out)⟩
/-- Whether a row of the call's own is nil is told by nothing; if it is, it has no elements. -/
theorem ao_nilqO {sz id : Nat} {xs : List (List AV)} {t e e' t' : TypeId} {x y : Operand} (ho : o.op = .binOp .eql t x y t') (ht : sliceE P t = some e) (hx : evA s x = .own id) (hg : hget h id = some (.row e' sz xs)) (hy : evA s y = .nils) (hgd : o.guard = none) (hco : constsOk o = true) (hdo : dstOk n o.dst = true)
    (hk : ∀ b : Bool, (b = true → xs = []) → O P n ops Q rest (putS s o.dst (.bool b)) h) : O P n ops Q (o :: rest) s h := ⟨aops_one hgd fun E σ ι a w hr htr => by
  have hv : ∀ z ∈ o.op.operands.toList, VR σ ι (evA s z) (a.eval z) := fun z hz => evA_sound (List.all_eq_true.1 hco z hz) fun t _ => htr.at_ t
  have hX := hv x (by rw [ho]; simp [Op.operands])
  have hY := hv y (by rw [ho]; simp [Op.operands])
  rw [hx] at hX
  rw [hy] at hY
  have e2 : a.eval y = .slice none 0 0 := by
    generalize a.eval y = q at hY
    cases hY with
    | base _ _ h0 => cases h0; rfl
  obtain ⟨_, hsz, vs, hown, hL⟩ := hr.ch id _ hg
  obtain ⟨A, cap, e1, h4⟩ : ∃ A cap, a.eval x = .slice A xs.length cap ∧ (A = none → xs = []) := by
    rcases hown.2 with ⟨h2, h3⟩ | ⟨g, cap', cur, h2, _⟩
    · exact ⟨none, 0, by rw [hX.own_inv, h2, h3], fun _ => List.eq_nil_of_length_eq_zero h3⟩
    · exact ⟨_, cap', by rw [hX.own_inv, h2], fun h => by cases h⟩
  have hrun : (execOp a.eval o).run P w = .ok (.value (.bool A.isNone)) w := by
    have h5 := Lib.run_eql_slice_nil (P := P) w t e A xs.length cap 0 0 (sliceE_spec ht)
    simp only [execOp, ho, e1, e2]
    simp [eqGuard, h5]
  unfold Oper.wp
  rw [hrun]
  exact (hk _ (fun hA => h4 (by cases A <;> simp_all))).out E σ ι _ w hr (htr.putS hdo (.base _ _ (.bool _)))⟩
def strQ (P : Program) (t : TypeId) : Bool := match P.underlying t with | some .string => true | _ => false
end
end Go.Proofs.Ytffciebjpiljgaa
namespace Go.Proofs.Ytffciebjpiljgaa
set_option linter.unusedSimpArgs false
set_option linter.unusedVariables false
set_option maxRecDepth 100000
set_option linter.unusedSimpArgs false
set_option linter.unusedVariables false
set_option maxRecDepth 100000
open Go.RowKit
section
variable {P : Program} {n : Md} {Q : Exit → Slots → Heap → Prop} {s : Slots} {h : Heap} {ops : Array Oper} {rest : List Oper} {o : Oper}
theorem ok_slice_all {α : Type} {t e e' : TypeId} {x : Operand} {lo hi : Option Operand} {id sz : Nat} {l : List α} {f : α → List AV} (ho : o.op = .slice t x lo hi none) (ht : sliceE P t = some e) (hz : sizeQ P e sz = true) (hx : evA s x = .own id) (hg : hget h id = some (.row e' sz (l.map f)))
    (hlo : boundQ s lo 0 0) (hhi : boundQ s hi l.length l.length) : OkO P o s h (.own id) := by
  refine ok_of_run fun E σ ι act w hr hv => ?_
  have hX := hv x (by rw [ho]; simp [Op.operands])
  rw [hx] at hX
  have e1 := hX.own_inv
  obtain ⟨A, cap, e2, e3, e4⟩ := hr.rowForm hg
  rw [List.length_map] at e2 e3
  have rb : ∀ (v : Value) (k : IntKind) (m y : Nat) (c : BoundsCode), v = .int k m → m ≤ y → (Instr.sliceBound v y c).run P w = .ok m w := fun v k m y c hv hm => by
    have h4 : (0 : Int) ≤ (m : Int) ∧ (m : Int) ≤ (y : Int) := by omega
    simp only [Instr.sliceBound, hv, asIntOf, Sem.run_bind, Sem.run_pure, Result.andThen_ok, h4, and_self, if_true, Int.toNat_natCast]
  have rs : (Instr.sliceBounds true l.length cap (lo.map act.eval) (hi.map act.eval) none).run P w = .ok (0, l.length, cap) w := by
    have hlo' : ∀ y, lo = some y → ∃ k, act.eval y = .int k (0 : Nat) := fun y e => by
      subst e
      obtain ⟨k, hk⟩ := hlo
      have hY := hv y (by rw [ho]; simp [Op.operands])
      rw [hk] at hY
      exact ⟨k, hY.int_inv.1⟩
    have hhi' : ∀ y, hi = some y → ∃ k, act.eval y = .int k l.length := fun y e => by
      subst e
      obtain ⟨k, hk⟩ := hhi
      have hY := hv y (by rw [ho]; cases lo <;> simp [Op.operands])
      rw [hk] at hY
      exact ⟨k, hY.int_inv.1⟩
    unfold Instr.sliceBounds
    cases lo with
    | none =>
      cases hi with
      | none => simp
      | some z =>
        obtain ⟨k, hk⟩ := hhi' z rfl
        have r2 := fun c => rb (act.eval z) k l.length cap c hk (by omega)
        simp [r2]
    | some y =>
      obtain ⟨k, hk⟩ := hlo' y rfl
      have r1 := fun c => rb (act.eval y) k 0 l.length c hk (Nat.zero_le _)
      cases hi with
      | none => simp [r1]
      | some z =>
        obtain ⟨k', hk'⟩ := hhi' z rfl
        have r2 := fun c => rb (act.eval z) k' l.length cap c hk' (by omega)
        simp [r1, r2]
  have hadd : A.map (fun x => x.add 0) = A := by
    cases A with
    | none => rfl
    | some ad => simp [Addr.add]
  refine ⟨ι id, ?_, e1 ▸ hX⟩
  simp [execOp, ho, Instr.sliceAt, run_underlying (sliceE_spec ht), Instr.slice, e1, e2, rs, sizeQ_run hz, hadd]
theorem ao_cpy {α : Type} {t e : TypeId} {x y : Operand} {id : Nat} {l ys : List α} {f : α → List AV} (ho : o.op = .call { callee := .builtin .copy, args := #[x, y], argTypes := #[t, t] }) (hx : evA s x = .own id) (hy : evA s y = .lst 1 (ys.map f)) (hg : hget h id = some (.row e 1 (l.map f)))
    (ht : sliceE P t = some e) (hz : sizeQ P e 1 = true) (hlen : ys.length = l.length) (hf1 : ∀ z, (f z).length = 1) (hone : ∀ z, (f z).all oneQ = true) (hgd : o.guard = none) (hco : constsOk o = true) (hdo : dstOk n o.dst = true) (hmx : ys.length ≤ 1000000)
    (hk : O P n ops Q rest (putS s o.dst (.int .i64 ys.length)) ((id, .row e 1 (ys.map f)) :: h)) : O P n ops Q (o :: rest) s h := ⟨aops_one hgd fun E σ ι act w hr ht' => by
  have hX : VR σ ι (evA s x) (act.eval x) := evA_sound (List.all_eq_true.1 hco x (by rw [ho]; simp [Op.operands, Call.operands])) fun t _ => ht'.at_ t
  have hY : VR σ ι (evA s y) (act.eval y) := evA_sound (List.all_eq_true.1 hco y (by rw [ho]; simp [Op.operands, Call.operands])) fun t _ => ht'.at_ t
  rw [hx] at hX
  rw [hy] at hY
  obtain ⟨hsz0, hsz, vs, hown, hL⟩ := hr.ch id _ hg
  have e1 := hX.own_inv
  obtain ⟨A, capY, e2, e3, e4, e5⟩ := hY.lst_inv
  rw [List.length_map] at e2
  have hsame : upd ι id (ι id) = ι := by funext i; unfold upd; split <;> simp_all
  have hs1 : (P.info? e).map (·.size) = some 1 := by
    unfold sizeQ at hz
    cases hq : P.info? e with
    | none => rw [hq] at hz; cases hz
    | some i => rw [hq] at hz; exact congrArg some (Nat.eq_of_beq_eq_true hz)
  have hR : VR σ ι (.int .i64 ys.length) (goInt ys.length) := .base _ _ (.int _ _ (by simp only [rangeP]; omega))
  by_cases hnil : ys = []
  · have hl0 : l = [] := List.eq_nil_of_length_eq_zero (by rw [← hlen, hnil]; rfl)
    subst hnil; subst hl0
    obtain ⟨A0, cap0, e6, _, _⟩ := hr.rowForm hg
    have hrun : (execOp act.eval o).run P w = .ok (.value (goInt 0)) w := by
      have hc := run_copy_none (P := P) w t t o.type e A0 A 0 cap0 0 capY (sliceE_spec ht) hs1 rfl
      unfold execOp
      simp only [ho, resolve, invoke, builtin, Sem.run_bind, Sem.run_pure, Result.andThen_ok, List.map_toArray, List.map_cons, List.map_nil, e1, e2, e6, List.length_nil]
      simp [hc]
    unfold Oper.wp
    rw [hrun]
    have hnew := hr.turn (id := id) (u := ι id) (h' := (id, .row e 1 (([] : List α).map f)) :: h) (c' := .row e 1 (([] : List α).map f)) (w' := w)
      (fun i c hi hc => by rw [hget_cons, if_neg (fun e => hi e.symm)] at hc; exact ⟨hc, .inl rfl⟩) (by rw [hget_cons, if_pos rfl])
      (by rw [hsame]; exact hr.ch id _ hg) rfl rfl rfl (Nat.le_refl _) (fun k hk hne => rfl) (fun g2 hg2 => .inl ⟨_, hg, hg2⟩) (.inr rfl)
    rw [hsame] at hnew
    exact hk.out E σ ι _ _ hnew (ht'.putS hdo hR)
  rcases e5 with e5 | ⟨b, off, gY, rfl, h3', h4', h5'⟩
  · exact absurd (by simpa using e5) hnil
  have hfl : ((ys.map f).flatten).length = ys.length := by rw [flatten_length h3', List.length_map, Nat.mul_one]
  obtain ⟨ws, hws⟩ : ∃ ws : List Value, ws = (List.range ys.length).map gY := ⟨_, rfl⟩
  have hwl : ws.length = ys.length := by rw [hws]; simp
  have hwg : ∀ j u, ws[j]? = some u → j < ys.length ∧ u = gY j := fun j u hj => by
    have hjl : j < ys.length := by rw [← hwl]; exact (List.getElem?_eq_some_iff.1 hj).1
    refine ⟨hjl, ?_⟩
    rw [hws] at hj
    simpa [hjl] using hj.symm
  have hone' : ∀ u ∈ ws, u.oneCell' = true := fun u hu => by
    obtain ⟨j, hj⟩ := List.getElem?_of_mem hu
    obtain ⟨hjl, rfl⟩ := hwg j u hj
    have h6 : (ys.map f).flatten[j]? = some ((ys.map f).flatten[j]'(by omega)) := List.getElem?_eq_getElem (by omega)
    have h7 : (ys.map f).flatten[j]'(by omega) ∈ (ys.map f).flatten := List.getElem_mem _
    obtain ⟨c, hc, hc2⟩ := List.mem_flatten.1 h7
    obtain ⟨y0, hy0, rfl⟩ := List.mem_map.1 hc
    exact (VR.base (ι := ι) _ _ (h5' j _ h6)).one (List.all_eq_true.1 (hone y0) _ hc2)
  have hnews : ∀ j u, ws[j]? = some u → w.cell? ((⟨b, off, none⟩ : Addr).add j) = some u := fun j u hj => by
    obtain ⟨hjl, rfl⟩ := hwg j u hj
    rw [Go.WideShapes.add_plain]
    exact hr.sub _ _ (h4' j _ (List.getElem?_eq_getElem (by omega)))
  have hypos : 0 < ys.length := List.length_pos_iff.2 hnil
  rcases hown.2 with ⟨h3, h4⟩ | ⟨g, cap, cur, h3, _, h4, h5, h6, h7, h8⟩
  · rw [List.length_map] at h4; omega
  rw [List.length_map] at h3 h5
  have hc := run_copy_row (P := P) w t t o.type e g 0 l.length cap ⟨b, off, none⟩ ys.length capY cur e ws (sliceE_spec ht) hs1 h4 (by rw [hwl, hlen]; simp) hnews (by rw [hwl]; omega) hone'
  obtain ⟨cur', hcur'⟩ : ∃ cur', cur' = (cur.toList.take 0 ++ ws ++ cur.toList.drop (0 + ws.length)).toArray := ⟨_, rfl⟩
  rw [← hcur'] at hc
  have hs' : cur'.size = cur.size := by
    have hcl : cur.toList.length = cur.size := Array.length_toList (xs := cur)
    rw [hcur']; simp only [List.size_toArray, List.length_append, List.length_take, List.length_drop, hcl]; omega
  have hrun : (execOp act.eval o).run P w = .ok (.value (goInt ys.length)) (w.setRow g cur') := by
    unfold execOp
    simp only [ho, resolve, invoke, builtin, Sem.run_bind, Sem.run_pure, Result.andThen_ok, List.map_toArray, List.map_cons, List.map_nil, e1, e2, h3]
    rw [hwl] at hc
    simp [hc]
  unfold Oper.wp
  rw [hrun]
  have htk : cur'.toList.take (ys.length * 1) = ws := by
    rw [hcur', List.toList_toArray, List.take_zero, List.nil_append, Nat.mul_one, ← hwl, List.take_append_of_le_length (Nat.le_refl _), List.take_length]
  have hnew := hr.turn (id := id) (u := ι id) (h' := (id, .row e 1 (ys.map f)) :: h) (c' := .row e 1 (ys.map f)) (w' := w.setRow g cur')
    (fun i c hi hc => by rw [hget_cons, if_neg (fun e => hi e.symm)] at hc; exact ⟨hc, .inl rfl⟩) (by rw [hget_cons, if_pos rfl])
    ⟨Nat.succ_pos _, fun c hc => by
      obtain ⟨q, hq, rfl⟩ := List.mem_map.1 hc
      exact hf1 q, ws, by
        rw [hsame, h3, List.length_map, hlen]
        exact ⟨by rw [hwl, hlen, Nat.mul_one], .inr ⟨g, cap, cur', rfl, Nat.zero_le _, setRow_heap w g cur cur' e (0, 0) h4, h5, h6, by rw [hs', h7], by rw [← hlen]; exact htk⟩⟩, ⟨by rw [hfl, hwl], fun j x u hx hu => by
      obtain ⟨hjl, rfl⟩ := hwg j u hu
      exact h5' j x hx⟩⟩
    rfl rfl rfl (by simp) (fun k hk hne => setRow_other w g k _ fun e => hne _ hg (by rw [e, h3]; rfl))
    (fun g2 hg2 => .inl ⟨_, hg, hg2⟩) (.inr rfl)
  rw [hsame] at hnew
  exact hk.out E σ ι _ _ hnew (ht'.putS hdo hR)⟩
end
end Go.Proofs.Ytffciebjpiljgaa
namespace Go.Proofs.Ytffciebjpiljgaa
set_option linter.unusedSimpArgs false
set_option linter.unusedVariables false
set_option maxRecDepth 100000
set_option linter.unusedSimpArgs false
set_option linter.unusedVariables false
set_option maxRecDepth 100000
open Go.RowKit
theorem nsdB_all (n : Nat) : nsdB n 0 n = true := decide_eq_true (by omega)
theorem mfill_fn (st : Int) (L ys : List Int) (hlen : ys.length = L.length) (hL : L.length ≤ 100000) : FnH Try.prog 68 [.ptr 1 0, .int .i64 0, .lst 1 (ys.map eU)] (memH st L) (fun r h' => r = .int .i64 0 ∧ h' = memH st ys) := by
  refine FnH.drop' (fnhb Try.func68 (entered_of (by kernel_rfl)) rfl rfl ?_)
  have c := minside_fn L.length 0 ys.length (by omega)
  rw [show nsdB L.length 0 ys.length = true from decide_eq_true (by omega)] at c
  repeat' (first | (show W _ _ _ _ _ _; first | apply kA | refine kB rfl ?_ | refine kC rfl rfl ?_ | refine kD rfl rfl ?_ | apply kE | apply kF | apply kG | apply kH | refine kI (by kernel_rfl) (by kernel_rfl) ?_) | (show O _ _ _ _ _ _ _; first | (show O _ _ _ _ (⟨_, .store _ _ _, _, _, _, _⟩ :: _) _ _; refine kJ rfl rfl rfl rfl rfl rfl rfl rfl rfl rfl rfl ?_) | apply kK) | apply kL | ((first | apply kM | apply kN); (iterate 3 (· exact rfl)); (· first | (show Y _ ⟨_, .call ⟨.value _, _, _⟩, _, _, _, _⟩ _ _ _; first | exact q_c (c) rfl) | exact ya | exact Y.mk (ok_slice_all rfl rfl rfl rfl rfl ⟨_, rfl⟩ rfl))) | refine kO rfl rfl rfl rfl rfl ?_ | refine kP rfl rfl rfl ?_ | ((first | refine kQ rfl rfl ?_ ?_ | refine kR rfl rfl rfl rfl rfl ?_ ?_ | refine kS rfl rfl rfl ?_ ?_) <;> intro hc <;> (try simp only [KL, cond_true, cond_false, beq_iff_eq, bne_iff_ne, ne_eq, reduceCtorEq] at hc) <;> (try (have hT : True := hc; clear hT hc)) <;> (try (exfalso; omega))) | apply kT | apply kU | apply kV | apply kW | refine kX rfl ?_ | apply kY | apply kZ)
  all_goals first | (exfalso; omega) | skip
  refine ao_cpy (f := eU) (l := L) (ys := ys) (e := 47) rfl rfl rfl rfl rfl rfl hlen (fun _ => rfl) (fun _ => rfl) rfl rfl rfl (by omega) ?_
  repeat' (first | (show W _ _ _ _ _ _; first | apply kA | refine kB rfl ?_ | refine kC rfl rfl ?_ | refine kD rfl rfl ?_ | apply kE | apply kF | apply kG | apply kH | refine kI (by kernel_rfl) (by kernel_rfl) ?_) | (show O _ _ _ _ _ _ _; first | (show O _ _ _ _ (⟨_, .store _ _ _, _, _, _, _⟩ :: _) _ _; refine kJ rfl rfl rfl rfl rfl rfl rfl rfl rfl rfl rfl ?_) | apply kK) | apply kL | ((first | apply kM | apply kN); (iterate 3 (· exact rfl)); (· first | exact ya)) | refine kO rfl rfl rfl rfl rfl ?_ | refine kP rfl rfl rfl ?_ | ((first | refine kQ rfl rfl ?_ ?_ | refine kR rfl rfl rfl rfl rfl ?_ ?_ | refine kS rfl rfl rfl ?_ ?_) <;> intro hc <;> (try simp only [KL, cond_true, cond_false, beq_iff_eq, bne_iff_ne, ne_eq, reduceCtorEq] at hc) <;> (try (have hT : True := hc; clear hT hc)) <;> (try (exfalso; omega))) | apply kT | apply kU | apply kV | apply kW | refine kX rfl ?_ | apply kY | apply kZ)
  exact retq rfl ⟨memH st ys, leh, rfl, rfl⟩
theorem clU13_fn (L : List Int) (hn : L.length ≤ 100000) : FnH Try.prog 94 [.own 2] [(2, .row 47 1 (L.map eU))] (fun r h' => r = .lst 1 (L.map eU) ∧ h' = [(2, .row 47 1 (L.map eU))]) := by
  refine FnH.drop' (fnhb Try.func94 (entered_of (by kernel_rfl)) rfl rfl ?_)
  repeat' (first | (show W _ _ _ _ _ _; first | apply kA | refine kB rfl ?_ | refine kC rfl rfl ?_ | refine kD rfl rfl ?_ | apply kE | apply kF | apply kG | apply kH | refine kI (by kernel_rfl) (by kernel_rfl) ?_) | (show O _ _ _ _ _ _ _; first | (show O _ _ _ _ (⟨_, .store _ _ _, _, _, _, _⟩ :: _) _ _; refine kJ rfl rfl rfl rfl rfl rfl rfl rfl rfl rfl rfl ?_) | apply kK) | apply kL | ((first | apply kM | apply kN); (iterate 3 (· exact rfl)); (· first | exact ya)) | refine kO rfl rfl rfl rfl rfl ?_ | refine kP rfl rfl rfl ?_ | ((first | refine kQ rfl rfl ?_ ?_ | refine kR rfl rfl rfl rfl rfl ?_ ?_ | refine kS rfl rfl rfl ?_ ?_) <;> intro hc <;> (try simp only [KL, cond_true, cond_false, beq_iff_eq, bne_iff_ne, ne_eq, reduceCtorEq] at hc) <;> (try (have hT : True := hc; clear hT hc)) <;> (try (exfalso; omega))) | apply kT | apply kU | apply kV | apply kW | refine kX rfl ?_ | apply kY | apply kZ)
  refine ao_nilqO rfl rfl rfl rfl rfl rfl rfl rfl (fun b hb => ?_)
  cases b
  · repeat' (first | (show W _ _ _ _ _ _; first | apply kA | refine kB rfl ?_ | refine kC rfl rfl ?_ | refine kD rfl rfl ?_ | apply kE | apply kF | apply kG | apply kH | refine kI (by kernel_rfl) (by kernel_rfl) ?_) | (show O _ _ _ _ _ _ _; first | (show O _ _ _ _ (⟨_, .store _ _ _, _, _, _, _⟩ :: _) _ _; refine kJ rfl rfl rfl rfl rfl rfl rfl rfl rfl rfl rfl ?_) | apply kK) | apply kL | ((first | apply kM | apply kN); (iterate 3 (· exact rfl)); (· first | exact yag)) | refine kO rfl rfl rfl rfl rfl ?_ | refine kP rfl rfl rfl ?_ | ((first | refine kQ rfl rfl ?_ ?_ | refine kR rfl rfl rfl rfl rfl ?_ ?_ | refine kS rfl rfl rfl ?_ ?_) <;> intro hc <;> (try simp only [KL, cond_true, cond_false, beq_iff_eq, bne_iff_ne, ne_eq, reduceCtorEq] at hc) <;> (try (have hT : True := hc; clear hT hc)) <;> (try (exfalso; omega))) | apply kT | apply kU | apply kV | apply kW | refine kX rfl ?_ | apply kY | apply kZ)
    refine o_blit (f := eU) (l := []) (id := 15) (sz := 1) rfl rfl rfl rfl rfl rfl rfl rfl rfl rfl rfl rfl rfl rfl ?_
    repeat' (first | (show W _ _ _ _ _ _; first | apply kA | refine kB rfl ?_ | refine kC rfl rfl ?_ | refine kD rfl rfl ?_ | apply kE | apply kF | apply kG | apply kH | refine kI (by kernel_rfl) (by kernel_rfl) ?_) | (show O _ _ _ _ _ _ _; first | (show O _ _ _ _ (⟨_, .store _ _ _, _, _, _, _⟩ :: _) _ _; refine kJ rfl rfl rfl rfl rfl rfl rfl rfl rfl rfl rfl ?_) | apply kK) | apply kL | ((first | apply kM | apply kN); (iterate 3 (· exact rfl)); (· first | exact ya)) | refine kO rfl rfl rfl rfl rfl ?_ | refine kP rfl rfl rfl ?_ | ((first | refine kQ rfl rfl ?_ ?_ | refine kR rfl rfl rfl rfl rfl ?_ ?_ | refine kS rfl rfl rfl ?_ ?_) <;> intro hc <;> (try simp only [KL, cond_true, cond_false, beq_iff_eq, bne_iff_ne, ne_eq, reduceCtorEq] at hc) <;> (try (have hT : True := hc; clear hT hc)) <;> (try (exfalso; omega))) | apply kT | apply kU | apply kV | apply kW | refine kX rfl ?_ | apply kY | apply kZ)
    refine ao_apO (id := 15) (id2 := 2) (ys := L) (by_ := 4) rfl rfl rfl rfl rfl rfl rfl rfl rfl rfl (fun _ _ => rfl) ?_ ?_ rfl rfl rfl rfl rfl ?_
    · simp only [List.length_nil]; omega
    · simp only [List.length_nil]; omega
    repeat' (first | (show W _ _ _ _ _ _; first | apply kA | refine kB rfl ?_ | refine kC rfl rfl ?_ | refine kD rfl rfl ?_ | apply kE | apply kF | apply kG | apply kH | refine kI (by kernel_rfl) (by kernel_rfl) ?_) | (show O _ _ _ _ _ _ _; first | (show O _ _ _ _ (⟨_, .store _ _ _, _, _, _, _⟩ :: _) _ _; refine kJ rfl rfl rfl rfl rfl rfl rfl rfl rfl rfl rfl ?_) | apply kK) | apply kL | ((first | apply kM | apply kN); (iterate 3 (· exact rfl)); (· first | exact ya)) | refine kO rfl rfl rfl rfl rfl ?_ | refine kP rfl rfl rfl ?_ | ((first | refine kQ rfl rfl ?_ ?_ | refine kR rfl rfl rfl rfl rfl ?_ ?_ | refine kS rfl rfl rfl ?_ ?_) <;> intro hc <;> (try simp only [KL, cond_true, cond_false, beq_iff_eq, bne_iff_ne, ne_eq, reduceCtorEq] at hc) <;> (try (have hT : True := hc; clear hT hc)) <;> (try (exfalso; omega))) | apply kT | apply kU | apply kV | apply kW | refine kX rfl ?_ | apply kY | apply kZ)
    refine retT (fun _ => turn_freeze (t := 2) rfl rfl rfl) ?_
    exact retq rfl ⟨[(2, .row 47 1 (L.map eU))], leh, rfl, rfl⟩
  · have h0 : L = [] := by simpa using hb rfl
    subst h0
    repeat' (first | (show W _ _ _ _ _ _; first | apply kA | refine kB rfl ?_ | refine kC rfl rfl ?_ | refine kD rfl rfl ?_ | apply kE | apply kF | apply kG | apply kH | refine kI (by kernel_rfl) (by kernel_rfl) ?_) | (show O _ _ _ _ _ _ _; first | (show O _ _ _ _ (⟨_, .store _ _ _, _, _, _, _⟩ :: _) _ _; refine kJ rfl rfl rfl rfl rfl rfl rfl rfl rfl rfl rfl ?_) | apply kK) | apply kL | ((first | apply kM | apply kN); (iterate 3 (· exact rfl)); (· first | exact ya)) | refine kO rfl rfl rfl rfl rfl ?_ | refine kP rfl rfl rfl ?_ | ((first | refine kQ rfl rfl ?_ ?_ | refine kR rfl rfl rfl rfl rfl ?_ ?_ | refine kS rfl rfl rfl ?_ ?_) <;> intro hc <;> (try simp only [KL, cond_true, cond_false, beq_iff_eq, bne_iff_ne, ne_eq, reduceCtorEq] at hc) <;> (try (have hT : True := hc; clear hT hc)) <;> (try (exfalso; omega))) | apply kT | apply kU | apply kV | apply kW | refine kX rfl ?_ | apply kY | apply kZ)
    refine retT (fun _ => Turns.le (s' := [(2, .lst 1 (([] : List Int).map eU))]) (h' := [(2, .row 47 1 (([] : List Int).map eU))]) les leh) ?_
    exact retq rfl ⟨[(2, .row 47 1 (([] : List Int).map eU))], leh, rfl, rfl⟩
abbrev lkH (st n : Int) (L : List Int) : Heap := (20, .blk 55 [.int .i64 0, .int .i64 n]) :: memH st L
theorem mlook_fn (st : Int) (L : List Int) (hL : L.length ≤ 100000) : FnH Try.prog 71 [.ptr 1 0, .agg [.int .i64 0, .int .i64 L.length]] (memH st L) (fun r h' => r = .tup [.lst 1 (L.map eU), .int .i64 0] ∧ h' = memH st L) := by
  refine FnH.drop' (fnhb Try.func71 (entered_of (by kernel_rfl)) rfl rfl ?_)
  have c := minside_fn L.length 0 L.length (by omega)
  rw [nsdB_all] at c
  have cC := clU13_fn L hL
  repeat' (first | (show W _ _ _ _ _ _; first | apply kA | refine kB rfl ?_ | refine kC rfl rfl ?_ | refine kD rfl rfl ?_ | apply kE | apply kF | apply kG | apply kH) | (show O _ _ _ _ _ _ _; first | (show O _ _ _ _ (⟨_, .store _ _ _, _, _, _, _⟩ :: _) _ _; refine kJ rfl rfl rfl rfl rfl rfl rfl rfl rfl rfl rfl ?_) | apply kK) | apply kL | ((first | apply kM | apply kN); (iterate 3 (· exact rfl)); (· first | (show Y _ ⟨_, .call ⟨.value _, _, _⟩, _, _, _, _⟩ _ _ _; first | exact q_c (c) rfl) | exact ya)) | refine kO rfl rfl rfl rfl rfl ?_ | refine kP rfl rfl rfl ?_ | ((first | refine kQ rfl rfl ?_ ?_ | refine kR rfl rfl rfl rfl rfl ?_ ?_ | refine kS rfl rfl rfl ?_ ?_) <;> intro hc <;> (try simp only [KL, cond_true, cond_false, beq_iff_eq, bne_iff_ne, ne_eq, reduceCtorEq] at hc) <;> (try (have hT : True := hc; clear hT hc)) <;> (try (exfalso; omega))) | apply kT | apply kU | apply kV | apply kW | refine kX rfl ?_ | apply kY | apply kZ)
  all_goals first | (exfalso; omega) | skip
  refine wdraw (by kernel_rfl) (by kernel_rfl) ?_
  repeat' (first | (show W _ _ _ _ _ _; first | apply kA | refine kB rfl ?_ | refine kC rfl rfl ?_ | refine kD rfl rfl ?_ | apply kE | apply kF | apply kG | apply kH) | (show O _ _ _ _ _ _ _; first | (show O _ _ _ _ (⟨_, .store _ _ _, _, _, _, _⟩ :: _) _ _; refine kJ rfl rfl rfl rfl rfl rfl rfl rfl rfl rfl rfl ?_) | apply kK) | apply kL | ((first | apply kM | apply kN); (iterate 3 (· exact rfl)); (· first | (show Y _ ⟨_, .call ⟨.value _, _, _⟩, _, _, _, _⟩ _ _ _; first | exact q_c (c) rfl) | exact ya)) | refine kO rfl rfl rfl rfl rfl ?_ | refine kP rfl rfl rfl ?_ | ((first | refine kQ rfl rfl ?_ ?_ | refine kR rfl rfl rfl rfl rfl ?_ ?_ | refine kS rfl rfl rfl ?_ ?_) <;> intro hc <;> (try simp only [KL, cond_true, cond_false, beq_iff_eq, bne_iff_ne, ne_eq, reduceCtorEq] at hc) <;> (try (have hT : True := hc; clear hT hc)) <;> (try (exfalso; omega))) | apply kT | apply kU | apply kV | apply kW | refine kX rfl ?_ | apply kY | apply kZ)
  all_goals first | (exfalso; omega) | skip
  refine wle (s' := [(0, .ptr 1 0), (3, .ref [.int .i64 0, .int .i64 L.length])]) (h' := memH st L) les leh ?_
  refine wdrawC (H := fun _ : Unit => memH st L) (ok := fun _ => True) (tn := [12]) (ln := []) () leh (by kernel_rfl) (by kernel_rfl) (by kernel_rfl) trivial ?_
  repeat' (first | (show W _ _ _ _ _ _; first | apply kA | refine kB rfl ?_ | refine kC rfl rfl ?_ | refine kD rfl rfl ?_ | apply kE | apply kF | apply kG | apply kH) | (show O _ _ _ _ _ _ _; first | (show O _ _ _ _ (⟨_, .store _ _ _, _, _, _, _⟩ :: _) _ _; refine kJ rfl rfl rfl rfl rfl rfl rfl rfl rfl rfl rfl ?_) | apply kK) | apply kL | ((first | apply kM | apply kN); (iterate 3 (· exact rfl)); (· first | exact ya | exact Y.mk (ok_slice_all rfl rfl rfl rfl rfl ⟨_, rfl⟩ ⟨.i64, congrArg (AV.int .i64) (Int.zero_add (L.length : Int))⟩))) | (show C _ _ _ _ _ _ _ _ _ _ _; first | refine cnil ?_ | (apply c_any; (· exact rfl); (· exact rfl); (· intro y' hy'; first | exact ya | exact Y.mk (ok_slice_all rfl rfl rfl rfl rfl ⟨_, rfl⟩ ⟨.i64, congrArg (AV.int .i64) (Int.zero_add (L.length : Int))⟩))) | (apply c_ld; (· exact rfl); (· exact rfl); (· exact rfl); (· first | exact ya | exact Y.mk (ok_slice_all rfl rfl rfl rfl rfl ⟨_, rfl⟩ ⟨.i64, congrArg (AV.int .i64) (Int.zero_add (L.length : Int))⟩))) | refine c_grdN rfl rfl rfl ?_) | refine kO rfl rfl rfl rfl rfl ?_ | refine kP rfl rfl rfl ?_ | ((first | refine kQ rfl rfl ?_ ?_ | refine kR rfl rfl rfl rfl rfl ?_ ?_ | refine kS rfl rfl rfl ?_ ?_ | refine c_grd rfl rfl rfl ?_ ?_) <;> intro hc <;> (try simp only [KL, cond_true, cond_false, beq_iff_eq, bne_iff_ne, ne_eq, reduceCtorEq] at hc) <;> (try (have hT : True := hc; clear hT hc)) <;> (try (exfalso; omega))) | apply kT | apply kU | apply kV | apply kW | refine kX rfl ?_ | apply kY | apply kZ)
  refine c_tu (x' := ()) rfl rfl trivial (tu_call (fun i => i) cC rfl leh rfl rfl rfl rfl rfl rfl leh) ?_
  repeat' (first | (show W _ _ _ _ _ _; first | apply kA | refine kB rfl ?_ | refine kC rfl rfl ?_ | refine kD rfl rfl ?_ | apply kE | apply kF | apply kG | apply kH) | (show O _ _ _ _ _ _ _; first | (show O _ _ _ _ (⟨_, .store _ _ _, _, _, _, _⟩ :: _) _ _; refine kJ rfl rfl rfl rfl rfl rfl rfl rfl rfl rfl rfl ?_) | apply kK) | apply kL | ((first | apply kM | apply kN); (iterate 3 (· exact rfl)); (· first | exact ya)) | (show C _ _ _ _ _ _ _ _ _ _ _; first | refine cnil ?_ | (apply c_any; (· exact rfl); (· exact rfl); (· intro y' hy'; first | exact ya)) | (apply c_ld; (· exact rfl); (· exact rfl); (· exact rfl); (· first | exact ya)) | refine c_grdN rfl rfl rfl ?_) | refine kO rfl rfl rfl rfl rfl ?_ | refine kP rfl rfl rfl ?_ | ((first | refine kQ rfl rfl ?_ ?_ | refine kR rfl rfl rfl rfl rfl ?_ ?_ | refine kS rfl rfl rfl ?_ ?_ | refine c_grd rfl rfl rfl ?_ ?_) <;> intro hc <;> (try simp only [KL, cond_true, cond_false, beq_iff_eq, bne_iff_ne, ne_eq, reduceCtorEq] at hc) <;> (try (have hT : True := hc; clear hT hc)) <;> (try (exfalso; omega))) | apply kT | apply kU | apply kV | apply kW | refine kX rfl ?_ | apply kY | apply kZ)
  exact retq rfl ⟨memH st L, leh, rfl, rfl⟩
theorem memory13_fn (L : List Int) (hL : L.length ≤ 4096) : FnH Try.prog 37 [.lst 1 (L.map eU)] dumM (fun r h' => r = .ptr 5 0 ∧ h' = [(5, .blk 124 [.own 6, .int .i64 0]), (6, .row 47 1 (L.map eU))]) := by
  refine FnH.drop' (fnhb Try.func37 (entered_of (by kernel_rfl)) rfl rfl ?_)
  have cN := mnew_fn L.length hL
  have cF := mfill_fn 0 (List.replicate L.length 0) L (by rw [List.length_replicate]) (by rw [List.length_replicate]; omega)
  repeat' (first | (show W _ _ _ _ _ _; first | apply kA | refine kB rfl ?_ | refine kC rfl rfl ?_ | refine kD rfl rfl ?_ | apply kE | apply kF | apply kG | apply kH | refine kI (by kernel_rfl) (by kernel_rfl) ?_) | (show O _ _ _ _ _ _ _; first | (show O _ _ _ _ (⟨_, .store _ _ _, _, _, _, _⟩ :: _) _ _; refine kJ rfl rfl rfl rfl rfl rfl rfl rfl rfl rfl rfl ?_) | apply kK) | apply kL | ((first | apply kM | apply kN); (iterate 3 (· exact rfl)); (· first | exact ya)) | refine kO rfl rfl rfl rfl rfl ?_ | refine kP rfl rfl rfl ?_ | ((first | refine kQ rfl rfl ?_ ?_ | refine kR rfl rfl rfl rfl rfl ?_ ?_ | refine kS rfl rfl rfl ?_ ?_) <;> intro hc <;> (try simp only [KL, cond_true, cond_false, beq_iff_eq, bne_iff_ne, ne_eq, reduceCtorEq] at hc) <;> (try (have hT : True := hc; clear hT hc)) <;> (try (exfalso; omega))) | apply kT | apply kU | apply kV | apply kW | refine kX rfl ?_ | apply kY | apply kZ)
  refine zcall (fun i => i) (cN) rfl rfl leh rfl rfl rfl rfl rfl rfl (fun r h' hR => ?_)
  obtain ⟨rfl, rfl⟩ := hR
  refine ⟨rfl, rfl, ?_⟩
  repeat' (first | (show W _ _ _ _ _ _; first | apply kA | refine kB rfl ?_ | refine kC rfl rfl ?_ | refine kD rfl rfl ?_ | apply kE | apply kF | apply kG | apply kH | refine kI (by kernel_rfl) (by kernel_rfl) ?_) | (show O _ _ _ _ _ _ _; first | (show O _ _ _ _ (⟨_, .store _ _ _, _, _, _, _⟩ :: _) _ _; refine kJ rfl rfl rfl rfl rfl rfl rfl rfl rfl rfl rfl ?_) | apply kK) | apply kL | ((first | apply kM | apply kN); (iterate 3 (· exact rfl)); (· first | exact ya)) | refine kO rfl rfl rfl rfl rfl ?_ | refine kP rfl rfl rfl ?_ | ((first | refine kQ rfl rfl ?_ ?_ | refine kR rfl rfl rfl rfl rfl ?_ ?_ | refine kS rfl rfl rfl ?_ ?_) <;> intro hc <;> (try simp only [KL, cond_true, cond_false, beq_iff_eq, bne_iff_ne, ne_eq, reduceCtorEq] at hc) <;> (try (have hT : True := hc; clear hT hc)) <;> (try (exfalso; omega))) | apply kT | apply kU | apply kV | apply kW | refine kX rfl ?_ | apply kY | apply kZ)
  refine zcall (fun i => i + 4) (cF) rfl rfl leh rfl rfl rfl rfl rfl rfl (fun r h' hR => ?_)
  obtain ⟨rfl, rfl⟩ := hR
  refine ⟨rfl, rfl, ?_⟩
  repeat' (first | (show W _ _ _ _ _ _; first | apply kA | refine kB rfl ?_ | refine kC rfl rfl ?_ | refine kD rfl rfl ?_ | apply kE | apply kF | apply kG | apply kH | refine kI (by kernel_rfl) (by kernel_rfl) ?_) | (show O _ _ _ _ _ _ _; first | (show O _ _ _ _ (⟨_, .store _ _ _, _, _, _, _⟩ :: _) _ _; refine kJ rfl rfl rfl rfl rfl rfl rfl rfl rfl rfl rfl ?_) | apply kK) | apply kL | ((first | apply kM | apply kN); (iterate 3 (· exact rfl)); (· first | exact ya)) | refine kO rfl rfl rfl rfl rfl ?_ | refine kP rfl rfl rfl ?_ | ((first | refine kQ rfl rfl ?_ ?_ | refine kR rfl rfl rfl rfl rfl ?_ ?_ | refine kS rfl rfl rfl ?_ ?_) <;> intro hc <;> (try simp only [KL, cond_true, cond_false, beq_iff_eq, bne_iff_ne, ne_eq, reduceCtorEq] at hc) <;> (try (have hT : True := hc; clear hT hc)) <;> (try (exfalso; omega))) | apply kT | apply kU | apply kV | apply kW | refine kX rfl ?_ | apply kY | apply kZ)
  exact retq rfl ⟨[(5, .blk 124 [.own 6, .int .i64 0]), (6, .row 47 1 (L.map eU))], leh, rfl, rfl⟩
theorem words13_fn (st : Int) (L : List Int) (hL : L.length ≤ 100000) : FnH Try.prog 41 [.ptr 1 0] (memH st L) (fun r h' => r = .lst 1 (L.map eU) ∧ h' = memH st L) := by
  refine FnH.drop' (fnhb Try.func41 (entered_of (by kernel_rfl)) rfl rfl ?_)
  have cL := mlen_fn st L
  have cK := mlook_fn st L hL
  repeat' (first | (show W _ _ _ _ _ _; first | apply kA | refine kB rfl ?_ | refine kC rfl rfl ?_ | refine kD rfl rfl ?_ | apply kE | apply kF | apply kG | apply kH | refine kI (by kernel_rfl) (by kernel_rfl) ?_) | (show O _ _ _ _ _ _ _; first | (show O _ _ _ _ (⟨_, .store _ _ _, _, _, _, _⟩ :: _) _ _; refine kJ rfl rfl rfl rfl rfl rfl rfl rfl rfl rfl rfl ?_) | apply kK) | apply kL | ((first | apply kM | apply kN); (iterate 3 (· exact rfl)); (· first | exact ya)) | refine kO rfl rfl rfl rfl rfl ?_ | refine kP rfl rfl rfl ?_ | ((first | refine kQ rfl rfl ?_ ?_ | refine kR rfl rfl rfl rfl rfl ?_ ?_ | refine kS rfl rfl rfl ?_ ?_) <;> intro hc <;> (try simp only [KL, cond_true, cond_false, beq_iff_eq, bne_iff_ne, ne_eq, reduceCtorEq] at hc) <;> (try (have hT : True := hc; clear hT hc)) <;> (try (exfalso; omega))) | apply kT | apply kU | apply kV | apply kW | refine kX rfl ?_ | apply kY | apply kZ)
  refine zcall (fun i => i) (cL) rfl rfl leh rfl rfl rfl rfl rfl rfl (fun r h' hR => ?_)
  obtain ⟨rfl, rfl⟩ := hR
  refine ⟨rfl, rfl, ?_⟩
  repeat' (first | (show W _ _ _ _ _ _; first | apply kA | refine kB rfl ?_ | refine kC rfl rfl ?_ | refine kD rfl rfl ?_ | apply kE | apply kF | apply kG | apply kH | refine kI (by kernel_rfl) (by kernel_rfl) ?_) | (show O _ _ _ _ _ _ _; first | (show O _ _ _ _ (⟨_, .store _ _ _, _, _, _, _⟩ :: _) _ _; refine kJ rfl rfl rfl rfl rfl rfl rfl rfl rfl rfl rfl ?_) | apply kK) | apply kL | ((first | apply kM | apply kN); (iterate 3 (· exact rfl)); (· first | exact ya)) | refine kO rfl rfl rfl rfl rfl ?_ | refine kP rfl rfl rfl ?_ | ((first | refine kQ rfl rfl ?_ ?_ | refine kR rfl rfl rfl rfl rfl ?_ ?_ | refine kS rfl rfl rfl ?_ ?_) <;> intro hc <;> (try simp only [KL, cond_true, cond_false, beq_iff_eq, bne_iff_ne, ne_eq, reduceCtorEq] at hc) <;> (try (have hT : True := hc; clear hT hc)) <;> (try (exfalso; omega))) | apply kT | apply kU | apply kV | apply kW | refine kX rfl ?_ | apply kY | apply kZ)
  refine zcall (fun i => i) (cK) rfl rfl leh rfl rfl rfl rfl rfl rfl (fun r h' hR => ?_)
  obtain ⟨rfl, rfl⟩ := hR
  refine ⟨rfl, rfl, ?_⟩
  repeat' (first | (show W _ _ _ _ _ _; first | apply kA | refine kB rfl ?_ | refine kC rfl rfl ?_ | refine kD rfl rfl ?_ | apply kE | apply kF | apply kG | apply kH | refine kI (by kernel_rfl) (by kernel_rfl) ?_) | (show O _ _ _ _ _ _ _; first | (show O _ _ _ _ (⟨_, .store _ _ _, _, _, _, _⟩ :: _) _ _; refine kJ rfl rfl rfl rfl rfl rfl rfl rfl rfl rfl rfl ?_) | apply kK) | apply kL | ((first | apply kM | apply kN); (iterate 3 (· exact rfl)); (· first | exact ya)) | refine kO rfl rfl rfl rfl rfl ?_ | refine kP rfl rfl rfl ?_ | ((first | refine kQ rfl rfl ?_ ?_ | refine kR rfl rfl rfl rfl rfl ?_ ?_ | refine kS rfl rfl rfl ?_ ?_) <;> intro hc <;> (try simp only [KL, cond_true, cond_false, beq_iff_eq, bne_iff_ne, ne_eq, reduceCtorEq] at hc) <;> (try (have hT : True := hc; clear hT hc)) <;> (try (exfalso; omega))) | apply kT | apply kU | apply kV | apply kW | refine kX rfl ?_ | apply kY | apply kZ)
  exact retq rfl ⟨memH st L, leh, rfl, rfl⟩
end Go.Proofs.Ytffciebjpiljgaa
namespace Go.Proofs.Ytffciebjpiljgaa
set_option linter.unusedSimpArgs false
set_option linter.unusedVariables false
set_option maxRecDepth 100000
set_option linter.unusedSimpArgs false
set_option linter.unusedVariables false
set_option maxRecDepth 100000
open Go.RowKit
end Go.Proofs.Ytffciebjpiljgaa
namespace Go.Proofs.Ytffciebjpiljgaa
set_option linter.unusedSimpArgs false
set_option linter.unusedVariables false
set_option maxRecDepth 100000
set_option linter.unusedSimpArgs false
set_option linter.unusedVariables false
set_option maxRecDepth 100000
open Go.RowKit
def awP : List Instr := [⟨1, 1, 0, 0, 5⟩, ⟨12, 1, 0, 0, 0⟩, ⟨21, 0, 0, 0, 0⟩]
def awR : RnR := runF awP 1 1 9 ⟨0, fun _ => 0, List.replicate 3 0⟩ 0 (List.replicate 2 0)
theorem awR_1 : awR.f.pc = 2 := by kernel_rfl
theorem awR_2 : awR.n = 2 := by kernel_rfl
theorem awR_3 : awR.k = 2 := by kernel_rfl
theorem awR_4 : awR.L = [0, 5] := by kernel_rfl
theorem awR_5 : awR.st = 1 := by kernel_rfl
theorem awP_n : ∀ i, 0 ≤ (awP.getD i default).n ∧ (awP.getD i default).n ≤ 4294967295 := fun i => by
  match i with
  | 0 => decide
  | 1 => decide
  | 2 => decide
  | i + 3 => exact ⟨Int.le_refl 0, (by show (0 : Int) ≤ 4294967295; decide)⟩
theorem awake13_fn : Fn Try.prog 31 [] (.bool true) := by
  have c1 : Fn Try.prog 45 [.lst 5 (awP.map eInstr)] (.agg (eFr ⟨0, fun _ => 0, List.replicate 3 0⟩)) := start13_fn awP (by decide)
  have cN := mnew_fn 2 (by decide)
  have cR := run13_fn awP ⟨0, fun _ => 0, List.replicate 3 0⟩ 1 1 0 9 (List.replicate 2 0) (by decide) awP_n (fun i => ⟨Int.le_refl 0, (by show (0 : Int) ≤ 4294967295; decide)⟩) (by decide) (by decide) (fun i => by
    match i with
    | 0 => exact ⟨by decide, by decide⟩
    | 1 => exact ⟨by decide, by decide⟩
    | i + 2 => exact ⟨Int.le_refl 0, (by show (0 : Int) ≤ 4294967295; decide)⟩) (by decide) (by decide)
  change FnH _ _ _ _ (fun r h' => r = .tup [.agg (eFr awR.f), .int .i64 awR.n, .int .i64 awR.k] ∧ h' = memH awR.st awR.L) at cR
  have e1 := awR_1
  have e2 := awR_2
  have e3 := awR_3
  have e4 := awR_4
  have e5 := awR_5
  generalize awR = R at *
  obtain ⟨⟨pc, rg, tn⟩, n, k, st, L⟩ := R
  simp only at e1 e2 e3 e4 e5 cR
  subst e1; subst e2; subst e3; subst e4; subst e5
  have cM := mread_fn 1 [0, 5] 1 (by decide) (by decide)
  refine fnb Try.func31 (entered_of (by kernel_rfl)) rfl rfl rfl ?_
  repeat' (first | (show W _ _ _ _ _ _; first | apply kA | refine kB rfl ?_ | refine kC rfl rfl ?_ | refine kD rfl rfl ?_ | apply kE | apply kF | apply kG | apply kH | refine kI (by kernel_rfl) (by kernel_rfl) ?_) | (show O _ _ _ _ _ _ _; first | (show O _ _ _ _ (⟨_, .store _ _ _, _, _, _, _⟩ :: _) _ _; refine kJ rfl rfl rfl rfl rfl rfl rfl rfl rfl rfl rfl ?_) | apply kK) | apply kL | ((first | apply kM | apply kN); (iterate 3 (· exact rfl)); (· first | exact ya)) | refine kO rfl rfl rfl rfl rfl ?_ | refine kP rfl rfl rfl ?_ | ((first | refine kQ rfl rfl ?_ ?_ | refine kR rfl rfl rfl rfl rfl ?_ ?_ | refine kS rfl rfl rfl ?_ ?_) <;> intro hc <;> (try simp only [KL, cond_true, cond_false, beq_iff_eq, bne_iff_ne, ne_eq, reduceCtorEq] at hc) <;> (try (have hT : True := hc; clear hT hc)) <;> (try (exfalso; omega))) | apply kT | apply kU | apply kV | apply kW | refine kX rfl ?_ | apply kY | apply kZ)
  refine oturn (turn_dummy eI 15 3 1 (by omega) rfl) ?_
  refine oturn (turn_dummy eU 16 47 1 (by omega) rfl) ?_
  refine zcall (fun i => i + 10) (cN) rfl rfl leh rfl rfl rfl rfl rfl rfl (fun r h' hR => ?_)
  obtain ⟨rfl, rfl⟩ := hR
  refine ⟨rfl, rfl, ?_⟩
  repeat' (first | (show W _ _ _ _ _ _; first | apply kA | refine kB rfl ?_ | refine kC rfl rfl ?_ | refine kD rfl rfl ?_ | apply kE | apply kF | apply kG | apply kH | refine kI (by kernel_rfl) (by kernel_rfl) ?_) | (show O _ _ _ _ _ _ _; first | (show O _ _ _ _ (⟨_, .store _ _ _, _, _, _, _⟩ :: _) _ _; refine kJ rfl rfl rfl rfl rfl rfl rfl rfl rfl rfl rfl ?_) | apply kK) | apply kL | ((first | apply kM | apply kN); (iterate 3 (· exact rfl)); (· first | (show Y _ ⟨_, .call ⟨.value _, _, _⟩, _, _, _, _⟩ _ _ _; first | exact q_c (c1) rfl) | exact ya)) | refine kO rfl rfl rfl rfl rfl ?_ | refine kP rfl rfl rfl ?_ | ((first | refine kQ rfl rfl ?_ ?_ | refine kR rfl rfl rfl rfl rfl ?_ ?_ | refine kS rfl rfl rfl ?_ ?_) <;> intro hc <;> (try simp only [KL, cond_true, cond_false, beq_iff_eq, bne_iff_ne, ne_eq, reduceCtorEq] at hc) <;> (try (have hT : True := hc; clear hT hc)) <;> (try (exfalso; omega))) | apply kT | apply kU | apply kV | apply kW | refine kX rfl ?_ | apply kY | apply kZ)
  refine zcall (fun i => i + 14) (cR) rfl rfl leh rfl rfl rfl rfl rfl rfl (fun r h' hR => ?_)
  obtain ⟨rfl, rfl⟩ := hR
  refine ⟨rfl, rfl, ?_⟩
  repeat' (first | (show W _ _ _ _ _ _; first | apply kA | refine kB rfl ?_ | refine kC rfl rfl ?_ | refine kD rfl rfl ?_ | apply kE | apply kF | apply kG | apply kH | refine kI (by kernel_rfl) (by kernel_rfl) ?_) | (show O _ _ _ _ _ _ _; first | (show O _ _ _ _ (⟨_, .alloc _, _, _, _, _⟩ :: _) _ _; first | refine ao_alloc (id := 20) rfl rfl rfl rfl rfl rfl rfl ?_) | (show O _ _ _ _ (⟨_, .store _ _ _, _, _, _, _⟩ :: _) _ _; refine kJ rfl rfl rfl rfl rfl rfl rfl rfl rfl rfl rfl ?_) | apply kK) | apply kL | ((first | apply kM | apply kN); (iterate 3 (· exact rfl)); (· first | exact ya)) | refine kO rfl rfl rfl rfl rfl ?_ | refine kP rfl rfl rfl ?_ | ((first | refine kQ rfl rfl ?_ ?_ | refine kR rfl rfl rfl rfl rfl ?_ ?_ | refine kS rfl rfl rfl ?_ ?_) <;> intro hc <;> (try simp only [KL, cond_true, cond_false, beq_iff_eq, bne_iff_ne, ne_eq, reduceCtorEq] at hc) <;> (try (have hT : True := hc; clear hT hc)) <;> (try (exfalso; omega))) | apply kT | apply kU | apply kV | apply kW | refine kX rfl ?_ | apply kY | apply kZ)
  refine zcall (fun i => i + 14) (cM) rfl rfl leh rfl rfl rfl rfl rfl rfl (fun r h' hR => ?_)
  obtain ⟨rfl, rfl⟩ := hR
  refine ⟨rfl, rfl, ?_⟩
  repeat' (first | (show W _ _ _ _ _ _; first | apply kA | refine kB rfl ?_ | refine kC rfl rfl ?_ | refine kD rfl rfl ?_ | apply kE | apply kF | apply kG | apply kH | refine kI (by kernel_rfl) (by kernel_rfl) ?_) | (show O _ _ _ _ _ _ _; first | (show O _ _ _ _ (⟨_, .store _ _ _, _, _, _, _⟩ :: _) _ _; refine kJ rfl rfl rfl rfl rfl rfl rfl rfl rfl rfl rfl ?_) | apply kK) | apply kL | ((first | apply kM | apply kN); (iterate 3 (· exact rfl)); (· first | exact ya)) | refine kO rfl rfl rfl rfl rfl ?_ | refine kP rfl rfl rfl ?_ | ((first | refine kQ rfl rfl ?_ ?_ | refine kR rfl rfl rfl rfl rfl ?_ ?_ | refine kS rfl rfl rfl ?_ ?_) <;> intro hc <;> (try simp only [KL, cond_true, cond_false, beq_iff_eq, bne_iff_ne, ne_eq, reduceCtorEq] at hc) <;> (try (have hT : True := hc; clear hT hc)) <;> (try (exfalso; omega))) | apply kT | apply kU | apply kV | apply kW | refine kX rfl ?_ | apply kY | apply kZ)
  exact retq rfl rfl
end Go.Proofs.Ytffciebjpiljgaa
