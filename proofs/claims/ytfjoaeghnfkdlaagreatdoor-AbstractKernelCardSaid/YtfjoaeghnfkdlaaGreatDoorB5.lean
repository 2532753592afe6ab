/- Rows of the call's own: read, written, appended to, made, let go. No condition. -/
import Derived.Test.YtfjoaeghnfkdlaaGreatDoorB4
set_option linter.unusedSimpArgs false
set_option linter.unusedVariables false
set_option maxHeartbeats 1000000
set_option maxRecDepth 100000
namespace Go.Proofs.YtfjoaeghnfkdlaaGreatDoor
open Go.RowKit
section
variable {P : Program} {n : Md} {Q : Exit -> j6 -> j8 -> Prop} {s : j6} {h : j8} {ops : Array Oper} {rest : List Oper} {o : Oper} {K : j6 -> Prop}
theorem VR.own_inv {σ : Sig} {ι : Nat -> Value} {id : Nat} {v : Value} (hv : VR σ ι (.own id) v) : v = ι id := by
 cases hv with
 | base _ _ h0 => cases h0
 | own => rfl
theorem VR.eptr_inv {σ : Sig} {ι : Nat -> Value} {id sz i j : Nat} {v : Value} (hv : VR σ ι (.eptr id sz i j) v) : ∃ g, jC (ι id) = some g ∧ v = .pointer (some ⟨g, i * sz + j, none⟩) := by
 cases hv with
 | base _ _ h0 => cases h0
 | eptr _ _ _ _ g hg => exact ⟨g, hg, rfl⟩
theorem Rel.rowForm {E : Env} {σ : Sig} {ι : Nat -> Value} {w : World} {id sz : Nat} {e : TypeId} {xs : List (List AV)} (hr : Rel E σ ι h w) (hg : j9 h id = some (.row e sz xs)) :
  ∃ A cap, ι id = .slice A xs.length cap ∧ xs.length <= cap ∧ cap <= maxLen := by
 obtain ⟨_, _, vs, h1, _⟩ := hr.ch id _ hg
 rcases h1.2 with ⟨h2, h3⟩ | ⟨g, cap, cur, h2, _, _, h4, h5, _⟩
 ·exact ⟨none, 0, by rw [h2, h3], by omega, by simp⟩
 ·exact ⟨_, cap, h2, h4, h5⟩
theorem Rel.rowCells {E : Env} {σ : Sig} {ι : Nat -> Value} {w : World} {id sz g : Nat} {e : TypeId} {xs : List (List AV)} (hr : Rel E σ ι h w) (hg : j9 h id = some (.row e sz xs)) (hf : jC (ι id) = some g) {i : Nat} {c : List AV} (hi : xs[i]? = some c) :
  Cells σ ι w g (i * sz) c := by
 obtain ⟨h0, hsz, vs, h1, h2⟩ := hr.ch id _ hg
 rcases h1.2 with ⟨h3, _⟩ | ⟨g', cap, cur, h3, _, h4, h5, h6, h7, h8⟩
 ·rw [h3] at hf; cases hf
 rw [h3] at hf
 simp only [jC, Option.some.injEq] at hf
 subst hf
 intro j x hj
 obtain ⟨v, hv, hR⟩ := h2.get (wA hsz hi hj)
 refine ⟨v, ?_, .base _ _ hR⟩
 simp only [World.cell?, h4, Option.isSome_none, Bool.false_eq_true, if_false]
 rw [<- h8, List.getElem?_take] at hv
 split at hv
 ·rw [<- Array.getElem?_toList]; exact hv
 ·cases hv
theorem ZI {α : Type} {sz id : Nat} {l : List α} {f : α -> List AV} {t e e' : TypeId} {x : Operand} (ho : o.op = .call { callee := .builtin .len, args := #[x], argTypes := #[t] }) (ht : qD P t = some e) (hx : evA s x = .own id) (hg : j9 h id = some (.row e' sz (l.map f))) :
  OkO P o s h (.int .i64 l.length) := by
 refine ja fun E σ ι a w hr hv => ?_
 have hv := hv x (by rw [ho]; simp [Op.operands, Call.operands])
 rw [hx] at hv
 obtain ⟨A, cap, e1, e2, e3⟩ := hr.rowForm hg
 have e4 := hv.own_inv.trans e1
 refine ⟨.int .i64 l.length, ?_, .base _ _ (.int _ _ ?_)⟩
 ·simp [execOp, ho, resolve, invoke, builtin, Builtin.len_, run_underlying (qF ht), e4, goInt]
 ·simp only [maxLen, List.length_map] at e2 e3; simp only [jS]; omega
theorem yO {α : Type} {sz id : Nat} {l : List α} {f : α -> List AV} {t e e' : TypeId} {x y : Operand} {ik : IntKind} {i : Nat} (ho : o.op = .indexAddr t x y) (ht : qD P t = some e) (hz : q9 P e sz = true) (hx : evA s x = .own id) (hg : j9 h id = some (.row e' sz (l.map f)))
  (hy : evA s y = .int ik i) (hi : i < l.length) : OkO P o s h (.eptr id sz i 0) := by
 refine ja fun E σ ι a w hr hv => ?_
 have hX := hv x (by rw [ho]; simp [Op.operands])
 have hY := hv y (by rw [ho]; simp [Op.operands])
 rw [hx] at hX
 rw [hy] at hY
 obtain ⟨h0, hsz, vs, h1, h2⟩ := hr.ch id _ hg
 rcases h1.2 with ⟨h3, h4⟩ | ⟨g, cap, cur, h3, _, h4, h5, h6, h7, h8⟩
 ·rw [List.length_map] at h4; omega
 have e1 := hX.own_inv.trans h3
 refine ⟨.pointer (some ⟨g, i * sz + 0, none⟩), ?_, .eptr id sz i 0 g (by rw [h3]; rfl)⟩
 have h9 : (0 : Int) <= (i : Int) ∧ (i : Int) < ((l.map f).length : Int) := by simp; omega
 simp only [execOp, ho, e1, hY.int_inv.1, Instr.indexAt, asIntOf, Sem.run_bind, Sem.run_pure, Result.andThen_ok, run_underlying (qF ht), h9, and_self, if_true, vV hz, Int.toNat_natCast, Go.WideShapes.add_plain, Nat.zero_add, Nat.add_zero]
theorem Y6 {α : Type} [Inhabited α] {sz id i j : Nat} {l : List α} {f : α -> List AV} {t e' : TypeId} {x : Operand} {side : Prop} {v : AV} (ho : o.op = .load t x) (hx : evA s x = .eptr id sz i j) (hg : j9 h id = some (.row e' sz (l.map f))) (hi : i < l.length)
  (hc : xX P t ((f (l.getD i default)).drop j) = some (side, v)) (hside : side) : OkO P o s h v := by
 refine ja fun E σ ι a w hr hv => ?_
 have hX := hv x (by rw [ho]; simp [Op.operands])
 rw [hx] at hX
 obtain ⟨g, h1, h2⟩ := hX.eptr_inv
 have hcells := (hr.rowCells hg h1 (i := i) (c := f (l.getD i default)) (by simp [hi])).drop j
 obtain ⟨u, h3, h4⟩ := wN (P := P) hcells hc hside
 refine ⟨u, ?_, h4⟩
 simp only [execOp, ho, h2, Instr.loadAt, Instr.sureAddr, Sem.run_bind, Sem.run_pure, Result.andThen_ok, h3]
def qv (id : Nat) : j6 -> j6
 | [] => []
 | (i, v) :: r => (i, bif jg id v then .undef else v) :: qv id r
theorem wX (id : Nat) : ∀ (s : j6) (t : Nat), get (qv id s) t = if jg id (get s t) = true then .undef else get s t
 | [], t => by simp [qv, get, jg]
 | (i, v) :: r, t => by
  rw [qv, qO, qO]
  by_cases hi : i = t
  ·rw [if_pos hi, if_pos hi]; cases jg id v <;> rfl
  ·rw [if_neg hi, if_neg hi]; exact wX id r t
theorem TR.kill {σ : Sig} {ι : Nat -> Value} {a : Act} (ht : TR n σ ι s a) (id : Nat) (h5 : 5 <= id) (u : Value) : TR n σ (YtfjoaeghnfkdlaaGreatDoor.upd ι id u) (qv id s) a :=
 ⟨ht.size, ⟨ht.defers.1, fun p hp => let ⟨h1, h2⟩ := ht.defers.2 p hp; ⟨h1, by rw [jW (by omega)]; exact h2⟩⟩, fun t => by
  rw [wX]
  split
  ·exact .base _ _ (.undef _)
  ·rename_i hb; exact (ht.at_ t).upd (by simpa using hb)⟩
def wl (id : Nat) : j8 -> Bool
 | [] => true
 | (i, .blk _ cs) :: r => !Nat.beq i id && !vD id cs && wl id r
 | (_, .row _ _ _) :: r => wl id r
 | (_, .sem _) :: r => wl id r
theorem vM {id : Nat} : ∀ {h : j8}, wl id h = true -> ∀ i c, j9 h i = some c -> match c with | .blk _ cs => vD id cs = false | _ => True
 | [], _, i, c, hc => by cases hc
 | (i', .blk ty cs) :: r, hf, i, c, hc => by
  simp only [wl, Bool.and_eq_true, Bool.not_eq_true'] at hf
  rw [j7] at hc
  split at hc
  ·cases hc; exact hf.1.2
  ·exact vM hf.2 i c hc
 | (i', .row e sz xs) :: r, hf, i, c, hc => by
  simp only [wl] at hf
  rw [j7] at hc
  split at hc
  ·cases hc; trivial
  ·exact vM hf i c hc
 | (i', .sem _) :: r, hf, i, c, hc => by
  simp only [wl] at hf
  rw [j7] at hc
  split at hc
  ·cases hc; trivial
  ·exact vM hf i c hc
def w0 (P : Program) (t : TypeId) (k : Nat) : Bool := match P.info? t with | some i => Nat.beq i.bytes k | none => false
theorem j1e {α : Type} {id sz by_ : Nat} {l ys : List α} {f : α -> List AV} {t e : TypeId} {x y : Operand} (ho : o.op = .call { callee := .builtin .append, args := #[x, y], argTypes := #[t, t] }) (ht : qD P t = some e) (hz : q9 P e sz = true) {z0 : List AV} (h0 : wQ P e = some z0) (hz0 : z0.length = sz)
  (hby : w0 P e by_ = true) (hx : evA s x = .own id) (hg : j9 h id = some (.row e sz (l.map f))) {yl : List (List AV)} (hy : evA s y = .lst sz yl) (hyl : yl = ys.map f) (hq : ∀ y ∈ ys, (f y).all Ql = true) (hlen : (l.length + ys.length) * by_ <= 140737488355328) (hlen2 : l.length + ys.length <= 9223372036854775807)
  (hco : qC o = true) (hd : qj n o.dst = true) (h5 : Nat.ble 5 id = true) (hl : wl id h = true)
  (hk : xq P n ops Q rest (jX (qv id s) o.dst (.own id)) ((id, .row e sz ((l ++ ys).map f)) :: h)) : A1 P n ops Q o rest s h := fun E σ ι a w hr ht' => by
 subst hyl
 have hX : VR σ ι (evA s x) (a.eval x) := jZ (List.all_eq_true.1 hco x (by rw [ho]; simp [Op.operands, Call.operands])) fun t _ => ht'.at_ t
 have hY : VR σ ι (evA s y) (a.eval y) := jZ (List.all_eq_true.1 hco y (by rw [ho]; simp [Op.operands, Call.operands])) fun t _ => ht'.at_ t
 rw [hx] at hX
 rw [hy] at hY
 obtain ⟨hsz0, hsz, vs, hown, hL⟩ := hr.ch id _ hg
 obtain ⟨zi, z, hzi, hzz, hzL⟩ := vI h0
 have hisz : zi.size = sz := by unfold q9 at hz; rw [hzi] at hz; exact Nat.eq_of_beq_eq_true hz
 have hiby : zi.bytes = by_ := by unfold w0 at hby; rw [hzi] at hby; exact Nat.eq_of_beq_eq_true hby
 have hzs : z.cells.size = sz := by rw [<- Array.length_toList, <- (hzL σ).1, hz0]
 have e1 := hX.own_inv
 have hu := qF ht
 -- what append yields
 have key : ∃ v' w' ws, (Builtin.append_ #[t, t] o.type #[ι id, a.eval y]).run P w = .ok v' w' ∧ w'.ownsRow 0 e sz v' (l.length + ys.length) (vs ++ ws) ∧ w.grownBy w' (ι id).ownBlock ∧ (jC v' = jC (ι id) ∨ jC v' = some w.heap.size) ∧ L2 (VR0 σ) (ys.map f).flatten ws ∧ (∀ c ∈ ys.map f, c.length = sz) := by
  obtain ⟨A, cap, e2, e3, e4, e5⟩ := hY.lst_inv
  rw [List.length_map] at hown
  by_cases hnil : ys = []
  ·subst hnil
   refine ⟨ι id, w, [], ?_, by simpa using hown, ⟨rfl, rfl, rfl, Nat.le_refl _, fun _ _ _ => rfl⟩, .inl rfl, L2.nil _, by simp⟩
   rw [e2]
   rcases hown.2 with ⟨h2, h3⟩ | ⟨g, cap', cur, h2, _, h3, h4, _, h6, _⟩
   ·rw [h2]
    cases A with
    | none => simp [Builtin.append_, run_underlying hu, sizeOf, typeInfo, hzi, Builtin.lenOf, Builtin.firstCells]
    | some ad =>
     have hl0 := run_loadCells_list (P := P) w ad [] (by simp)
     simp only [List.length_nil] at hl0
     simp [Builtin.append_, run_underlying hu, sizeOf, typeInfo, hzi, Builtin.lenOf, Builtin.firstCells, hl0]
   ·rw [h2]
    cases A with
    | none => simp [Builtin.append_, run_underlying hu, sizeOf, typeInfo, hzi, Builtin.lenOf, Builtin.firstCells, h4, storeCells]
    | some ad =>
     have hl0 := run_loadCells_list (P := P) w ad [] (by simp)
     simp only [List.length_nil] at hl0
     simp [Builtin.append_, run_underlying hu, sizeOf, typeInfo, hzi, Builtin.lenOf, Builtin.firstCells, h4, storeCells, hl0]
  ·rcases e5 with e5 | ⟨b, off, g, rfl, h3, h4, h5'⟩
   ·exact absurd (by simpa using e5) hnil
   have hfl : ((ys.map f).flatten).length = ys.length * sz := by rw [qM h3, List.length_map]
   obtain ⟨ws, hws⟩ : ∃ ws : List Value, ws = (List.range (ys.length * sz)).map g := ⟨_, rfl⟩
   have hwl : ws.length = ys.length * sz := by rw [hws]; simp
   have hwg : ∀ j u, ws[j]? = some u -> j < ys.length * sz ∧ u = g j := fun j u hj => by
    have hjl : j < ys.length * sz := by rw [<- hwl]; exact (List.getElem?_eq_some_iff.1 hj).1
    refine ⟨hjl, ?_⟩
    rw [hws] at hj
    simpa [hjl] using hj.symm
   have hone : ∀ u ∈ ws, u.oneCell' = true := fun u hu => by
    obtain ⟨j, hj⟩ := List.getElem?_of_mem hu
    obtain ⟨hjl, rfl⟩ := hwg j u hj
    have h6 : (ys.map f).flatten[j]? = some ((ys.map f).flatten[j]'(by omega)) := List.getElem?_eq_getElem (by omega)
    have h7 : (ys.map f).flatten[j]'(by omega) ∈ (ys.map f).flatten := List.getElem_mem _
    obtain ⟨c, hc, hc2⟩ := List.mem_flatten.1 h7
    obtain ⟨y0, hy0, rfl⟩ := List.mem_map.1 hc
    exact (VR.base (ι := ι) _ _ (h5' j _ h6)).one (List.all_eq_true.1 (hq y0 hy0) _ hc2)
   have hnews : ∀ j u, ws[j]? = some u -> w.cell? ((⟨b, off, none⟩ : Addr).add j) = some u := fun j u hj => by
    obtain ⟨hjl, rfl⟩ := hwg j u hj
    rw [Go.WideShapes.add_plain]
    exact hr.sub _ _ (h4 j _ (List.getElem?_eq_getElem (by omega)))
   have hmax : l.length + ys.length <= maxLen := by simp only [maxLen]; omega
   obtain ⟨v', w', h6, h7, h8, _⟩ := run_append_own (P := P) w 0 t o.type e zi z sz by_ hu hzi hzz hisz hiby hzs hsz0 (ι id) l.length vs hown ⟨b, off, none⟩ ys.length cap ws hwl hnews hone hmax hlen (Nat.zero_le _)
   have hft : jC v' = jC (ι id) ∨ jC v' = some w.heap.size := by
    have h7' := h7
    rcases hown.2 with ⟨h2, h3'⟩ | ⟨g0, cap0, cur0, h2, _, hg0, hn0, hc0, hs0, htake⟩
    ·-- out of nothing
     have hown' : w.ownsRow w.heap.size e sz (ι id) l.length vs := ⟨hown.1, .inl ⟨h2, h3'⟩⟩
     obtain ⟨v2, w2, k6, k7, k8, _⟩ := run_append_own (P := P) w w.heap.size t o.type e zi z sz by_ hu hzi hzz hisz hiby hzs hsz0 (ι id) l.length vs hown' ⟨b, off, none⟩ ys.length cap ws hwl hnews hone hmax hlen (Nat.le_refl _)
     rw [h6] at k6
     injection k6 with k6 k6'
     subst k6; subst k6'
     have hnr := run_append_nil (P := P) w t o.type e zi z hu hzi hzz ⟨b, off, none⟩ ys.length cap ws (by rw [hisz]; exact hwl) hnews (by have := List.length_pos_iff.2 hnil; omega) (by omega) (by rw [h3'] at hlen; simp only [Nat.zero_add] at hlen; rw [hiby]; omega)
     rw [<- h2, h6] at hnr
     injection hnr with hnr _
     exact .inr (by rw [hnr]; rfl)
    ·by_cases hroom : l.length + ys.length <= cap0
     ·have hrr := run_append_room (P := P) w t o.type e zi hu hzi g0 l.length cap0 cur0 hg0 ⟨b, off, none⟩ ys.length cap ws (by rw [hisz]; exact hwl) hnews hone hroom (by rw [hisz, hwl, hs0, <- Nat.add_mul]; exact Nat.mul_le_mul_right _ hroom)
      rw [<- h2, h6] at hrr
      injection hrr with hrr _
      exact .inl (by rw [hrr, h2]; rfl)
     ·have hgr := run_append_grow (P := P) w t o.type e zi z hu hzi hzz ⟨g0, 0, none⟩ l.length cap0 vs (by rw [hisz]; exact hown.1) (hown.cells (g := g0) (by rw [h2]; rfl)) ⟨b, off, none⟩ ys.length cap ws (by rw [hisz]; exact hwl) hnews (by omega) (by omega) (growslice_fits (by omega) (by rw [hiby]; exact hlen))
      rw [<- h2, h6] at hgr
      injection hgr with hgr _
      exact .inr (by rw [hgr]; rfl)
   rw [List.length_map] at e2
   rw [e2]
   refine ⟨v', w', ws, h6, h7, h8, hft, ⟨by omega, fun j x u hx hu => ?_⟩, h3⟩
   obtain ⟨hjl, rfl⟩ := hwg j u hu
   exact h5' j x hx
 obtain ⟨v', w', ws, h6, h7, h8, hft, h9, h10⟩ := key
 unfold Oper.wp
 have hrun : (execOp a.eval o).run P w = .ok (.value v') w' := by
  unfold execOp
  simp only [ho, resolve, invoke, builtin, Sem.run_bind, Sem.run_pure, Result.andThen_ok, List.map_toArray, List.map_cons, List.map_nil, e1, h6]
 rw [hrun]
 have hform : ∃ A m c, v' = .slice A m c := by
  rcases h7.2 with ⟨h2, _⟩ | ⟨g, cap', cur, h2, _⟩
  ·exact ⟨_, _, _, h2⟩
  ·exact ⟨_, _, _, h2⟩
 obtain ⟨A0, m0, c0, e0⟩ := hform
 obtain ⟨B0, d0, hi0, _⟩ := hr.rowForm hg
 have hob : ∀ k, (ι id).ownBlock = some k ↔ jC (ι id) = some k := fun k => by rw [hi0]; cases B0 <;> simp [jC, Value.ownBlock]
 have hnew := hr.turn (id := id) (u := v') (h' := (id, .row e sz ((l ++ ys).map f)) :: h) (c' := .row e sz ((l ++ ys).map f)) (w' := w')
  (fun i c hi hc => by
    rw [j7, if_neg (fun e => hi e.symm)] at hc
    exact ⟨hc, .inr (vM hl i c hc)⟩)
  (by rw [j7, if_pos rfl])
  ⟨hsz0, fun c hc => by
   rw [List.map_append] at hc
   rcases List.mem_append.1 hc with hc | hc
   ·exact hsz c hc
   ·exact h10 c hc, vs ++ ws, by rw [jM, List.length_map, List.length_append]; exact h7, by rw [List.map_append, List.flatten_append]; exact hL.append h9⟩
  h8.os h8.tape h8.output h8.size
  (fun k hk hne => h8.block k hk fun e => hne _ hg ((hob k).1 e.symm))
  (fun g hv => by
    rcases hft with h1 | h1
    ·exact .inl ⟨_, hg, by rw [<- h1]; exact hv⟩
    ·rw [h1] at hv; cases hv; exact .inr (Nat.le_refl _))
  (.inl (Nat.ble_eq ▸ h5))
 refine hk E σ _ _ _ hnew ((ht'.kill id (Nat.ble_eq ▸ h5) v').putS hd ?_)
 have h2 := VR.own (σ := σ) (ι := upd ι id v') id (by rw [jM, e0]; rfl)
 rwa [jM] at h2
end
section
variable {P : Program} {n : Md} {Q : Exit -> j6 -> j8 -> Prop} {s : j6} {h : j8} {ops : Array Oper} {rest : List Oper} {o : Oper} {K : j6 -> Prop}
def Turns (n : Md) (s : j6) (h : j8) (s' : j6) (h' : j8) : Prop :=
 ∀ (E : Env) (σ : Sig) (ι : Nat -> Value) (a : Act) (w : World), Rel E σ ι h w -> TR n σ ι s a -> ∃ σ' ι', Rel E σ' ι' h' w ∧ TR n σ' ι' s' a
theorem j3Z {c : Code} {s' : j6} {h' : j8} (ht : Turns n s h s' h') (hc : AWp P n c Q s' h') : AWp P n c Q s h := fun E σ ι a w hr hs =>
 let ⟨σ', ι', h1, h2⟩ := ht E σ ι a w hr hs; hc E σ' ι' a w h1 h2
theorem j1L {s' : j6} {h' : j8} (ht : Turns n s h s' h') (hc : xq P n ops Q rest s' h') : xq P n ops Q rest s h := fun E σ ι a w hr hs =>
 let ⟨σ', ι', h1, h2⟩ := ht E σ ι a w hr hs; hc E σ' ι' a w h1 h2
theorem vN {α : Type} (f : α -> List AV) {t : Nat} (hn : get s t = .nils) (id : Nat) (e : TypeId) (sz : Nat) (hsz : 0 < sz) (hf : jd id s h = true) : Turns n s h ((t, .own id) :: s) ((id, .row e sz (([] : List α).map f)) :: h) := by
 intro E σ ι a w hr ht
 simp only [jd, Bool.and_eq_true, Nat.ble_eq] at hf
 refine ⟨σ, upd ι id (.slice none 0 0), ?_, ?_⟩
 ·refine hr.turn (c' := .row e sz []) ?_ (by rw [j7, if_pos rfl]; rfl) ⟨hsz, by simp, [], by rw [jM]; exact World.ownsRow_nil w 0 e sz, L2.nil _⟩ rfl rfl rfl (Nat.le_refl _) (fun _ _ _ => rfl) (fun g hg => by cases hg) (.inl hf.1.1)
  intro i c hi hc
  rw [j7, if_neg (fun e => hi e.symm)] at hc
  exact ⟨hc, .inr (ju hf.2 i c hc).2⟩
 ·have h1 := ht.upd hf.1.1 hf.1.2 (.slice none 0 0)
  refine ⟨h1.size, h1.defers, fun u => ?_⟩
  rw [qO]
  split
  ·rename_i e; subst e
   have h2 := ht.at_ t
   rw [hn] at h2
   have h3 : a.tmps.getD t undef = .slice none 0 0 := by
    generalize a.tmps.getD t undef = q at h2
    cases h2 with
    | base _ _ h0 => cases h0; rfl
   rw [h3]
   have h4 := VR.own (σ := σ) (ι := upd ι id (.slice none 0 0)) id (by rw [jM]; rfl)
   rwa [jM] at h4
  ·exact h1.at_ u
def yf (id : Nat) : j8 -> j8
 | [] => []
 | (i, c) :: r => bif Nat.beq i id then yf id r else (i, c) :: yf id r
theorem vE (id : Nat) : ∀ (h : j8) (i : Nat), j9 (yf id h) i = if i = id then none else j9 h i
 | [], i => by simp [yf, j9]
 | (j, c) :: r, i => by
  rw [yf]
  by_cases hj : j = id
  ·subst hj
   rw [show Nat.beq j j = true by simp, cond_true, vE, j7]
   by_cases hi : i = j
   ·simp [hi]
   ·rw [if_neg hi, if_neg hi, if_neg (fun e => hi e.symm)]
  ·rw [show Nat.beq j id = false from Bool.eq_false_iff.2 fun e => hj (Nat.eq_of_beq_eq_true e), cond_false, j7, j7, vE]
   by_cases hi : j = i
   ·subst hi; simp [hj]
   ·simp [hi]
def yX (σ : Sig) (w : World) (g k : Nat) : Sig := fun a => if a.block = g ∧ a.spot = none ∧ a.off < k then w.cell? a else σ a
theorem Rel.letGo {E : Env} {σ : Sig} {ι : Nat -> Value} {w : World} (hr : Rel E σ ι h w) {id g : Nat} {c : Chunk} (hg : j9 h id = some c) (hf : jC (ι id) = some g) (h10 : 10 <= id ∧ id < 100) (k : Nat) :
  Sig.le σ (yX σ w g k) ∧ Rel E (yX σ w g k) ι (yf id h) w := by
 have hge : E.w.heap.size <= g := by
  rcases (hr.foot id c hg g (.inl hf)).1 with h1 | h1
  ·have := hr.low _ h1; simp only at this; omega
  ·exact h1
 have hnone := (hr.foot id c hg g (.inl hf)).2
 have hle : Sig.le σ (yX σ w g k) := fun a v ha => by
  unfold yX
  split
  ·exact hr.sub a v ha
  ·exact ha
 refine ⟨hle, ⟨hr.os, hr.tape, hr.output, hr.size, hr.old, ?_, ?_, ?_, ?_, ?_, hr.pin, hr.low, fun p hp => ⟨(hr.xo p hp).1, (hr.xo p hp).2.1, fun i d hd => by
  rw [vE] at hd
  split at hd
  ·cases hd
  ·exact (hr.xo p hp).2.2 i d hd⟩⟩⟩
 ·intro a ha
  unfold yX; rw [if_neg (fun e => by omega)]; exact hr.sigOld a ha
 ·intro a v ha
  unfold yX at ha
  split at ha
  ·exact ha
  ·exact hr.sub a v ha
 ·intro i d hd
  rw [vE] at hd
  split at hd
  ·cases hd
  ·exact (hr.ch i d hd).keep hle fun _ _ => rfl
 ·intro i d hd g' hg'
  rw [vE] at hd
  split at hd
  ·cases hd
  ·rename_i hne
   obtain ⟨h1, h2⟩ := hr.foot i d hd g' hg'
   refine ⟨h1, fun o => ?_⟩
   unfold yX
   rw [if_neg (fun e => hne (hr.dj i id d c hd hg g' hg' (.inl (by rw [hf]; exact congrArg some e.1.symm))))]
   exact h2 o
 ·intro i j c' d' hc hd
  rw [vE] at hc hd
  split at hc
  ·cases hc
  ·split at hd
   ·cases hd
   ·exact hr.dj i j c' d' hc hd
theorem jf {t id sz : Nat} {e : TypeId} {xs : List (List AV)} (hs : get s t = .own id) (hg : j9 h id = some (.row e sz xs)) (h10 : ZV id = true) : Turns n s h ((t, .lst sz xs) :: s) (yf id h) := by
 intro E σ ι a w hr ht
 have h10' : 10 <= id ∧ id < 100 := yD h10
 obtain ⟨hsz0, hsz, vs, hown, hL⟩ := hr.ch id _ hg
 have hv := ht.at_ t
 rw [hs] at hv
 have hv := hv.own_inv
 rcases hown.2 with ⟨h1, h2⟩ | ⟨g, cap, cur, h1, _, h2, h3, h4, h5, h6⟩
 ·have hnil : xs = [] := List.eq_nil_of_length_eq_zero h2
  subst hnil
  refine ⟨σ, ι, hr.le fun i c hc => ?_, ⟨ht.size, ht.defers, fun u => ?_⟩⟩
  ·rw [vE] at hc
   split at hc
   ·cases hc
   ·exact hc
  ·rw [qO]; split
   ·rename_i e; subst e
    rw [hv, h1]; exact .base _ _ (.empty _ _ _ (by simp))
   ·exact ht.at_ u
 ·obtain ⟨h7, h8⟩ := hr.letGo hg (g := g) (by rw [h1]; rfl) h10' (xs.length * sz)
  refine ⟨_, ι, h8, ⟨ht.size, ht.defers, fun u => ?_⟩⟩
  rw [qO]; split
  ·rename_i e; subst e
   rw [hv, h1]
   have hfl := qM hsz
   refine .base _ _ (.lst _ _ _ 0 _ (fun j => (vs[j]?).getD undef) h3 h4 hsz (fun j c hc => ?_) fun j c hc => ?_)
   ·obtain ⟨u, hu, _⟩ := hL.get hc
    have hj : j < xs.length * sz := by rw [<- hfl]; exact (List.getElem?_eq_some_iff.1 hc).1
    unfold yX
    rw [if_pos ⟨rfl, rfl, by simpa using hj⟩]
    rw [hu]
    rw [<- h6, List.getElem?_take] at hu
    rw [if_pos hj] at hu
    simp only [World.cell?, h2, Option.isSome_none, Bool.false_eq_true, if_false, Nat.zero_add, Option.getD_some]
    rw [<- Array.getElem?_toList]; exact hu
   ·obtain ⟨u, hu, hR⟩ := hL.get hc
    rw [hu]; exact hR.mono h7
  ·exact (ht.at_ u).mono h7
theorem j4w {α : Type} {f : α -> List AV} {d : α} {t e : TypeId} {x y : Operand} {sz by_ m : Nat} {k k' : IntKind} (ho : o.op = .makeSlice t x y) (id : Nat) (ht : qD P t = some e) (hz : q9 P e sz = true) {z0 : List AV} (h0 : wQ P e = some z0) (hz0 : z0 = f d) (hzl : z0.length = sz) (hsz : 0 < sz) (hby : w0 P e by_ = true)
  (hx : evA s x = .int k m) (hy : evA s y = .int k' m) (hb : m * by_ <= 140737488355328) (hm : m <= 9223372036854775807) (hco : qC o = true) (hd : qj n o.dst = true) (hf : jd id s h = true)
  (hk : xq P n ops Q rest (jX s o.dst (.own id)) ((id, .row e sz ((List.replicate m d).map f)) :: h)) : A1 P n ops Q o rest s h := fun E σ ι a w hr ht' => by
 simp only [jd, Bool.and_eq_true, Nat.ble_eq] at hf
 have hX : VR σ ι (evA s x) (a.eval x) := jZ (List.all_eq_true.1 hco x (by rw [ho]; simp [Op.operands])) fun t _ => ht'.at_ t
 have hY : VR σ ι (evA s y) (a.eval y) := jZ (List.all_eq_true.1 hco y (by rw [ho]; simp [Op.operands])) fun t _ => ht'.at_ t
 rw [hx] at hX
 rw [hy] at hY
 obtain ⟨zi, z, hzi, hzz, hzL⟩ := vI h0
 have hisz : zi.size = sz := by unfold q9 at hz; rw [hzi] at hz; exact Nat.eq_of_beq_eq_true hz
 have hiby : zi.bytes = by_ := by unfold w0 at hby; rw [hzi] at hby; exact Nat.eq_of_beq_eq_true hby
 have hzs : z.cells.size = sz := by rw [<- Array.length_toList, <- (hzL σ).1, hzl]
 obtain ⟨w', h1, h2, h3⟩ := run_make_full (P := P) w 0 t e zi z sz (qF ht) hzi hzz hisz k k' m (by rw [hiby, Nat.mul_comm]; omega) (by simp only [maxLen]; omega) (Nat.zero_le _)
 unfold Oper.wp
 have hrun : (execOp a.eval o).run P w = .ok (.value (.slice (some ⟨w.heap.size, 0, none⟩) m m)) w' := by
  simp only [execOp, ho, hX.int_inv.1, hY.int_inv.1, Sem.run_bind, Sem.run_pure, h1, Result.andThen_ok]
 rw [hrun]
 have hL : L2 (VR0 σ) ((List.replicate m d).map f).flatten (madeCells z.cells (m * sz)).toList := by
  have hlen : ((List.replicate m d).map f).flatten.length = m * sz := by
   rw [qM (sz := sz)]
   ·simp
   ·intro c hc
    obtain ⟨q, hq, rfl⟩ := List.mem_map.1 hc
    rw [List.eq_of_mem_replicate hq, <- hz0]; exact hzl
  refine ⟨by rw [hlen, Array.length_toList, size_madeCells], fun j c u hc hu => ?_⟩
  have hj : j < m * sz := by rw [<- hlen]; exact (List.getElem?_eq_some_iff.1 hc).1
  have hjs : j % sz < sz := Nat.mod_lt _ hsz
  have hjm : j / sz < m := Nat.div_lt_of_lt_mul (by rw [Nat.mul_comm]; exact hj)
  have hc2 : ((List.replicate m d).map f).flatten[j]? = some (z0[j % sz]'(by omega)) := by
   have := wA (sz := sz) (xs := (List.replicate m d).map f) (i := j / sz) (j := j % sz) (c := z0) (x := z0[j % sz]'(by omega)) (fun c hc => by
    obtain ⟨q, hq, rfl⟩ := List.mem_map.1 hc
    rw [List.eq_of_mem_replicate hq, <- hz0]; exact hzl) (by simp [hjm, hz0]) (List.getElem?_eq_getElem _)
   rwa [Nat.mul_comm, Nat.div_add_mod] at this
  rw [hc2] at hc
  cases hc
  have hu2 : (z.cells.toList)[j % sz]? = some u := by
   rw [Array.getElem?_toList] at hu
   simp only [madeCells, Array.getElem?_map, Array.getElem?_range, hj, if_true, Option.map_some, Option.some.injEq, hzs] at hu
   rw [Array.getElem?_toList, <- hu]
   have : j % sz < z.cells.size := by omega
   simp [this]
  exact (hzL σ).2 _ _ u (List.getElem?_eq_getElem _) hu2
 have hnew := hr.turn (id := id) (u := .slice (some ⟨w.heap.size, 0, none⟩) m m) (h' := (id, .row e sz ((List.replicate m d).map f)) :: h) (c' := .row e sz ((List.replicate m d).map f)) (w' := w')
  (fun i c hi hc => by
    rw [j7, if_neg (fun e => hi e.symm)] at hc
    exact ⟨hc, .inr (ju hf.2 i c hc).2⟩)
  (by rw [j7, if_pos rfl])
  ⟨hsz, fun c hc => by
   obtain ⟨q, hq, rfl⟩ := List.mem_map.1 hc
   rw [List.eq_of_mem_replicate hq, <- hz0]; exact hzl, _, by rw [jM, List.length_map, List.length_replicate]; exact h2, hL⟩
  h3.os h3.tape h3.output h3.size (fun k hk _ => h3.block k hk (by simp)) (fun g hv => by cases hv; exact .inr (Nat.le_refl _)) (.inl hf.1.1)
 refine hk E σ _ _ _ hnew ((ht'.upd hf.1.1 hf.1.2 _).putS hd ?_)
 have h5 := VR.own (σ := σ) (ι := upd ι id (.slice (some ⟨w.heap.size, 0, none⟩) m m)) id (by rw [jM]; rfl)
 rwa [jM] at h5
end
section
variable {P : Program} {n : Md} {Q : Exit -> j6 -> j8 -> Prop} {s : j6} {h : j8} {ops : Array Oper} {rest : List Oper} {o : Oper} {K : j6 -> Prop}
def qw (P : Program) (f : FuncId) : Prop := ∀ as w, (callFunc f as).run P w = .ok (.enter f as) w
def YE (P : Program) (f : FuncId) : Bool := match P.funcs[f]? with | some fn => !(fn.name == "runtime.NumGoroutine") && fn.body.isSome | none => false
theorem j5 {f : FuncId} (h : YE P f = true) : qw P f := by
 unfold YE at h
 split at h
 ·rename_i fn hf
  simp only [Bool.and_eq_true, Bool.not_eq_true'] at h
  intro as w
  have hb : fn.body.isNone = false := by cases hq : fn.body <;> simp_all
  have h1 : ¬ fn.name = "runtime.NumGoroutine" := by simpa using h.1
  have h2 : ¬ fn.body = none := fun e => by simp [e] at hb
  simp [callFunc, hf, h1, h2]
 ·cases h
def Fn (P : Program) (f : FuncId) (args : List AV) (r : AV) : Prop :=
 qw P f ∧ ∀ (σ : Sig) (ι : Nat -> Value) (w : World) (vs : List Value), (∀ a v, σ a = some v -> w.cell? a = some v) -> L2 (VR σ ι) args vs ->
  Calls P f vs.toArray w (fun e w' => ∃ u σ', e = .returned u ∧ VR0 σ' r u ∧ Rel ⟨w, σ, [], [], []⟩ σ' ι [] w')
theorem Rel.start (σ : Sig) (ι : Nat -> Value) (w : World) (hsub : ∀ a v, σ a = some v -> w.cell? a = some v) : Rel ⟨w, σ, [], [], []⟩ σ ι [] w :=
 ⟨rfl, rfl, rfl, Nat.le_refl _, fun _ _ _ => rfl, fun _ _ => rfl, hsub, fun i c hc => (by cases hc), fun i c hc => (by cases hc), fun i j c d hc => (by cases hc), fun p hp => (by cases hp), fun p hp => (by cases hp), fun p hp => (by cases hp)⟩
def Q8 (s : j6) (o : Oper) : Option (FuncId × List AV) := match o.op with
 | .call { callee := .value x, args := as, argTypes := _ } => match evA s x with
  | .fn (.func f) first cap => some (f, first ++ as.toList.map (evA s) ++ cap)
  | _ => none
 | _ => none
theorem VR.fn_inv {σ : Sig} {ι : Nat -> Value} {f : Go.Fn} {xs ys : List AV} {v : Value} (hv : VR σ ι (.fn f xs ys) v) : ∃ us vs : List Value, v = .func f us.toArray vs.toArray ∧ L2 (VR σ ι) xs us ∧ L2 (VR σ ι) ys vs := by
 cases hv with
 | base _ _ h0 => cases h0 with | fn _ _ _ us vs h1 h2 h3 h4 => exact ⟨us, vs, rfl, ⟨h1, fun j x y a b => .base _ _ (h2 j x y a b)⟩, ⟨h3, fun j x y a b => .base _ _ (h4 j x y a b)⟩⟩
 | fn _ _ _ us vs h1 h2 h3 h4 => exact ⟨us, vs, rfl, ⟨h1, h2⟩, ⟨h3, h4⟩⟩
theorem xb {f : FuncId} {args : List AV} (hc : Q8 s o = some (f, args)) (he : qw P f) {σ : Sig} {ι : Nat -> Value} {a : Act} {w : World} (hx : ∀ x ∈ o.op.operands.toList, VR σ ι (evA s x) (a.eval x)) :
  ∃ vs : List Value, (execOp a.eval o).run P w = .ok (.enter f vs.toArray) w ∧ L2 (VR σ ι) args vs := by
 unfold Q8 at hc
 split at hc
 ·rename_i x as tys ho
  split at hc
  ·rename_i f' first cap hz
   simp only [Option.some.injEq, Prod.mk.injEq] at hc
   obtain ⟨rfl, rfl⟩ := hc
   have hv := hx x (by rw [ho]; simp [Op.operands, Call.operands])
   rw [hz] at hv
   obtain ⟨us, vs, h1, h2, h3⟩ := hv.fn_inv
   refine ⟨us ++ as.toList.map a.eval ++ vs, ?_, (h2.append ⟨by simp, fun j c u hc hu => ?_⟩).append h3⟩
   ·have e : (us.toArray ++ as.map a.eval ++ vs.toArray) = (us ++ as.toList.map a.eval ++ vs).toArray := by
     apply Array.toList_inj.1; simp
    simp only [execOp, ho, resolve, h1, Deferred.ofValue, Sem.run_bind, Sem.run_pure, Result.andThen_ok, invoke, e]
    exact he _ w
   ·rw [List.getElem?_map] at hc hu
    cases hq : as.toList[j]? with
    | none => rw [hq] at hc; cases hc
    | some q =>
     rw [hq] at hc hu; cases hc; cases hu
     exact hx q (by rw [ho]; simp only [Op.operands, Call.operands]; simpa using .inr (by simpa using List.mem_of_getElem? hq))
  ·cases hc
 ·cases hc
theorem Rel.back {E : Env} {σ σ' : Sig} {ι : Nat -> Value} {w w' : World} (hr : Rel E σ ι h w) (h1 : Rel ⟨w, σ, [], [], []⟩ σ' ι [] w') : Sig.le σ σ' ∧ Rel E σ' ι h w' := by
 have hle : Sig.le σ σ' := fun a v ha => by rw [h1.sigOld a (hr.sig_lt ha)]; exact ha
 have hkeep : ∀ g, g < w.heap.size -> w'.heap[g]? = w.heap[g]? := fun g hg => h1.old g hg (by simp)
 refine ⟨hle, ⟨h1.os.trans hr.os, h1.tape.trans hr.tape, h1.output.trans hr.output, Nat.le_trans hr.size h1.size, fun b hb hm => (hkeep b (Nat.lt_of_lt_of_le hb hr.size)).trans (hr.old b hb hm),
  fun a ha => (h1.sigOld a (Nat.lt_of_lt_of_le ha hr.size)).trans (hr.sigOld a ha), h1.sub, fun i c hc => (hr.ch i c hc).keep hle fun g hg => hkeep g (hr.foot_lt hc hg), fun i c hc g hg => ?_, hr.dj, hr.pin, hr.low, fun p hp => ⟨(hr.xo p hp).1, (hkeep p.1 (Array.getElem?_eq_some_iff.1 (hr.xo p hp).2.1).1).trans (hr.xo p hp).2.1, (hr.xo p hp).2.2⟩⟩⟩
 obtain ⟨h2, h3⟩ := hr.foot i c hc g hg
 exact ⟨h2, fun o => by rw [h1.sigOld _ (hr.foot_lt hc hg)]; exact h3 o⟩
theorem j4a {f : FuncId} {args : List AV} {r : AV} (hf : Fn P f args r) (hc : Q8 s o = some (f, args)) : OkO P o s h r := by
 intro E σ ι a w hr hx K Q hK
 obtain ⟨vs, h1, h2⟩ := xb (P := P) (w := w) hc hf.1 hx
 unfold Oper.wp
 rw [h1, Oper.upon_enter]
 refine (hf.2 σ ι w vs hr.sub h2).mono ?_
 rintro e w' ⟨u, σ', rfl, h3, h4⟩
 obtain ⟨h5, h6⟩ := hr.back h4
 exact hK σ' w' u h5 h6 (.base _ _ h3)
def vc : List AV -> Nat -> j6
 | [], _ => []
 | v :: r, k => (k, v) :: vc r (k + 1)
theorem Qn : ∀ (args : List AV) (k t : Nat), get (vc args k) t = if k <= t then (args[t - k]?).getD .undef else .undef
 | [], k, t => by simp [vc, get]
 | v :: r, k, t => by
  rw [vc, qO, Qn]
  by_cases h1 : k = t
  ·subst h1; simp
  ·by_cases h2 : k <= t
   ·obtain ⟨m, rfl⟩ : ∃ m, t = k + 1 + m := ⟨t - k - 1, by omega⟩
    rw [if_neg h1, if_pos (by omega), if_pos h2, show k + 1 + m - (k + 1) = m by omega, show k + 1 + m - k = m + 1 by omega, List.getElem?_cons_succ]
   ·rw [if_neg h1, if_neg (by omega), if_neg h2]
def j0E (P : Program) (t : TypeId) (cs : List AV) : Option AV :=
 match P.underlying t, P.info? t with
 | some d, some i => bif agQ d then (bif Nat.beq cs.length i.size then some (.agg cs) else none) else match cs with | v :: _ => VJ v fun v => some v | [] => none
 | _, _ => none
theorem V9 {t : TypeId} {cs : List AV} {v : AV} (hc : j0E P t cs = some v) : ∃ side : Prop, xX P t cs = some (side, v) ∧ side := by
 unfold j0E at hc
 split at hc
 ·rename_i d i hd hi
  unfold xX
  rw [hd, hi]
  cases ha : agQ d with
  | true =>
   rw [ha] at hc
   simp only [cond_true] at hc ⊢
   cases hb : Nat.beq cs.length i.size with
   | true => rw [hb] at hc; simp only [cond_true, Option.some.injEq] at hc ⊢; exact ⟨True, by simp only [ha, cond_true, hc], trivial⟩
   | false => rw [hb] at hc; cases hc
  | false =>
   rw [ha] at hc
   simp only [cond_false] at hc ⊢
   cases cs with
   | nil => cases hc
   | cons c cs => simp only [vz, Option.some.injEq] at hc; subst hc; exact ⟨_, by simp only [ha, cond_false, vz, nth]; rfl, by simp⟩
 ·cases hc
def Xl (P : Program) (s : j6) (h : j8) : ResultVar -> Option AV
 | .tmp t => VJ (get s t) fun v => some v
 | .cell a t => match get s a with
  | .ref cs => j0E P t cs
  | .ptr id off => match j9 h id with
   | some (.blk _ cs) => j0E P t (cs.drop off)
   | _ => none
  | _ => none
def zZ (P : Program) (s : j6) (h : j8) : List ResultVar -> Option AV
 | [] => some (.tup [])
 | [x] => Xl P s h x
 | [x, y] => match Xl P s h x, Xl P s h y with | some v, some v' => some (.tup [v, v']) | _, _ => none
 | [x, y, z] => match Xl P s h x, Xl P s h y, Xl P s h z with | some v, some v', some v'' => some (.tup [v, v', v'']) | _, _, _ => none
 | _ => none
def j2W (a : Act) : ResultVar -> Sem Value
 | .tmp t => pure (a.tmps.getD t undef)
 | .cell b t => do loadVar t (<- asAddr (a.tmps.getD b undef))
theorem zr (fn : Func) (a : Act) : results fn a.tmps = (do let vs <- fn.results.mapM (j2W a); pure (if h : vs.size = 1 then vs[0] else .tuple vs)) := rfl
theorem yE {E : Env} {σ : Sig} {ι : Nat -> Value} {a : Act} {w : World} {m : Md} (hr : Rel E σ ι h w) (ht : TR m σ ι s a) {x : ResultVar} {v : AV} (hv : Xl P s h x = some v) :
  ∃ u, (j2W a x).run P w = .ok u w ∧ VR σ ι v u := by
 cases x with
 | tmp t => simp only [Xl, vz, Option.some.injEq] at hv; subst hv; exact ⟨_, by simp [j2W], ht.at_ t⟩
 | cell b t =>
  have hb := ht.at_ b
  simp only [Xl] at hv
  split at hv
  ·rename_i cs hg
   rw [hg] at hb
   obtain ⟨g, off, e, hc⟩ := VR.ref_inv hr hb
   obtain ⟨side, h1, h2⟩ := V9 hv
   obtain ⟨u, h3, h4⟩ := wN (P := P) hc h1 h2
   exact ⟨u, by simp only [j2W, e, asAddr, Sem.run_bind, Sem.run_pure, Result.andThen_ok, h3], h4⟩
  ·rename_i id off hg
   rw [hg] at hb
   obtain ⟨g, hf, e⟩ := hb.ptr_inv
   split at hv
   ·rename_i ty cs hh
    have hc := (hr.cells hh hf).drop off
    rw [Nat.zero_add] at hc
    obtain ⟨side, h1, h2⟩ := V9 hv
    obtain ⟨u, h3, h4⟩ := wN (P := P) hc h1 h2
    exact ⟨u, by simp only [j2W, e, asAddr, Sem.run_bind, Sem.run_pure, Result.andThen_ok, h3], h4⟩
   ·cases hv
  ·cases hv
theorem J6 {E : Env} {fn : Func} {σ : Sig} {ι : Nat -> Value} {a : Act} {w : World} {m : Md} (hr : Rel E σ ι h w) (ht : TR m σ ι s a) {v : AV} (hv : zZ P s h fn.results.toList = some v) : ∃ u, (results fn a.tmps).run P w = .ok u w ∧ VR σ ι v u := by
 have e : ∀ l, fn.results.toList = l -> fn.results = l.toArray := fun l h => by rw [<- Array.toArray_toList (xs := fn.results), h]
 unfold zZ at hv
 split at hv
 ·rename_i h1; cases hv
  exact ⟨_, by simp [results, e _ h1], .tup [] [] rfl (fun j c v h => by simp at h)⟩
 ·rename_i x h1
  obtain ⟨u, h2, h3⟩ := yE hr ht hv
  refine ⟨u, ?_, h3⟩
  simp [zr, e _ h1, h2]
 ·rename_i x y h1
  split at hv
  ·rename_i v1 v2 hx hy; cases hv
   obtain ⟨u1, h2, h3⟩ := yE hr ht hx
   obtain ⟨u2, h4, h5⟩ := yE hr ht hy
   refine ⟨.tuple #[u1, u2], ?_, .tup _ [_, _] rfl ((((L2.nil _).cons h5).cons h3).2)⟩
   simp [zr, e _ h1, h2, h4]
  ·cases hv
 ·rename_i x y z h1
  split at hv
  ·rename_i v1 v2 v3 hx hy hz; cases hv
   obtain ⟨u1, h2, h3⟩ := yE hr ht hx
   obtain ⟨u2, h4, h5⟩ := yE hr ht hy
   obtain ⟨u3, h6, h7⟩ := yE hr ht hz
   refine ⟨.tuple #[u1, u2, u3], ?_, .tup _ [_, _, _] rfl (((((L2.nil _).cons h7).cons h5).cons h3).2)⟩
   simp [zr, e _ h1, h2, h4, h6]
  ·cases hv
 ·cases hv
def JC (P : Program) (rs : List ResultVar) (Q : AV -> j8 -> Prop) : Exit -> j6 -> j8 -> Prop
 | .ret, s, h => ∃ v s' h', (∀ n, Turns n s h s' h') ∧ zZ P s' h' rs = some v ∧ Q v h'
 | .normal, s, h => ∃ v s' h', (∀ n, Turns n s h s' h') ∧ zZ P s' h' rs = some v ∧ Q v h'
 | _, _, _ => False
theorem JT {fn : Func} {σ : Sig} {ι : Nat -> Value} {args : List AV} {vs : List Value} (hl : args.length <= fn.ntmps) (h : L2 (VR σ ι) args vs) :
  TR { n := fn.ntmps } σ ι (vc args 0) { tmps := vs.toArray ++ Array.replicate (fn.ntmps - vs.toArray.size) undef, defers := [] } := by
 have hv := h.1
 refine ⟨by simp; omega, ⟨rfl, fun p hp => by cases hp⟩, fun t => ?_⟩
 rw [Qn, if_pos (Nat.zero_le _), Nat.sub_zero]
 cases hx : args[t]? with
 | none => exact .base _ _ (.undef _)
 | some x =>
  obtain ⟨u, hu, hR⟩ := h.get hx
  have : (vs.toArray ++ Array.replicate (fn.ntmps - vs.toArray.size) undef).getD t undef = u := by
   have ht : t < vs.length := (List.getElem?_eq_some_iff.1 hu).1
   rw [Array.getD_eq_getD_getElem?, Array.getElem?_append_left (by simpa using ht)]
   simp [hu]
  rw [this]; exact hR
theorem j03 {fn : Func} {c : Code} {E : Env} {args : List AV} {vs : List Value} {σ : Sig} {ι : Nat -> Value} {w : World} {f : FuncId} {Qf : AV -> j8 -> Prop} (hf : P.funcs[f]? = some fn) (hb : fn.body = some c) (hl : args.length <= fn.ntmps)
  (hwp : AWp P { n := fn.ntmps } c (JC P fn.results.toList Qf) (vc args 0) h) (hr : Rel E σ ι h w) (hv : L2 (VR σ ι) args vs) :
  Calls P f vs.toArray w (fun e w' => ∃ u r h' σ' ι', e = .returned u ∧ Qf r h' ∧ VR σ' ι' r u ∧ Rel E σ' ι' h' w') := by
 have h0 := hwp E σ ι _ w hr (JT hl hv)
 change c.wpIn Fence.wide 0 P _ _ _ at h0
 refine calls_of_wp hf hb (Code.wp_mono ?_ (wpIn_wide.1 h0))
 rintro e a w' ⟨s', h', σ', ι', q, r, t⟩
 have fin : (∃ v s'' h'', (∀ n, Turns n s' h' s'' h'') ∧ zZ P s'' h'' fn.results.toList = some v ∧ Qf v h'') -> a.defers = [] ∧ ∃ v, (results fn a.tmps).run P w' = .ok v w' ∧ ∃ u r h' σ' ι', Ending.returned v = .returned u ∧ Qf r h' ∧ VR σ' ι' r u ∧ Rel E σ' ι' h' w' := fun ⟨v, s'', h'', hl, h1, h2⟩ => by
  obtain ⟨σ2, ι2, r2, t2⟩ := hl _ E σ' ι' a w' r t
  obtain ⟨u, h3, h4⟩ := J6 (P := P) r2 t2 h1
  exact ⟨t.defers.1, u, h3, u, v, h'', σ2, ι2, rfl, h2, h4, r2⟩
 cases e with
 | ret => exact fin q
 | normal => exact fin q
 | _ => exact q.elim
theorem Za {f : FuncId} {fn : Func} {c : Code} {args : List AV} {r : AV} (hf : P.funcs[f]? = some fn) (he : qw P f) (hb : fn.body = some c) (hl : Nat.ble args.length fn.ntmps = true) (hp : w9 r = true)
  (hwp : AWp P { n := fn.ntmps } c (JC P fn.results.toList (fun v _ => v = r)) (vc args 0) []) : Fn P f args r := by
 refine ⟨he, fun σ ι w vs hsub hv => (j03 hf hb (Nat.ble_eq ▸ hl) hwp (Rel.start σ ι w hsub) hv).mono ?_⟩
 rintro e w' ⟨u, r', h', σ', ι', rfl, rfl, h2, h3⟩
 refine ⟨u, σ', rfl, h2.pure hp, ?_⟩
 exact ⟨h3.os, h3.tape, h3.output, h3.size, h3.old, h3.sigOld, h3.sub, fun i c hc => (by cases hc), fun i c hc => (by cases hc), fun i j c d hc => (by cases hc), fun p hp => (by cases hp), fun p hp => (by cases hp), fun p hp => (by cases hp)⟩
end
section
variable {P : Program} {s : j6} {h : j8} {o : Oper}
def j4M : List AV -> Nat -> AV -> List AV
 | [], _, _ => []
 | _ :: r, 0, v => v :: r
 | c :: r, n + 1, v => c :: j4M r n v
theorem j0Y : ∀ (cs : List AV) (k : Nat) (v : AV), j4M cs k v = cs.set k v
 | [], _, _ => rfl
 | _ :: _, 0, _ => rfl
 | c :: r, k + 1, v => by rw [j4M, j0Y r k v]; rfl
def j0R (P : Program) (fs : List Field) (s : j6) : List (Nat × Operand) -> List AV -> Option (List AV)
 | [], cs => some cs
 | (i, x) :: r, cs => match fs[i]? with
  | some fd => VJ (evA s x) fun v => bif Ql v && q9 P fd.type 1 && Nat.blt fd.offset cs.length then j0R P fs s r (j4M cs fd.offset v) else none
  | none => none
def j3k (P : Program) (fs : List Field) : Bool := fs.all fun fd => (P.info? fd.type).isSome
def Zj (P : Program) (s : j6) (t : TypeId) (parts : List (Nat × Operand)) : Option (List AV) :=
 match P.underlying t with
 | some (.struct fs) => match wQ P t with
  | some z => bif j3k P fs.toList then j0R P fs.toList s parts z else none
  | none => none
 | _ => none
theorem V3 {σ : Sig} {ι : Nat -> Value} {a : Act} {fs : List Field} {places : Nat -> Option (Nat × Nat)} (hpl : ∀ (i : Nat) (fd : Field), fs[i]? = some fd -> ∀ k, q9 P fd.type k = true -> places i = some (fd.offset, k)) :
  ∀ (parts : List (Nat × Operand)) (cs : List AV) (us : Array Value) (r : List AV), j0R P fs s parts cs = some r -> L2 (VR σ ι) cs us.toList -> (∀ p ∈ parts, VR σ ι (evA s p.2) (a.eval p.2)) ->
   ∃ us' : Array Value, Instr.fill places us (parts.map fun p => (p.1, a.eval p.2)) = some us' ∧ L2 (VR σ ι) r us'.toList
 | [], cs, us, r, h, hL, _ => by cases h; exact ⟨us, rfl, hL⟩
 | (i, x) :: parts, cs, us, r, h, hL, hv => by
  unfold j0R at h
  split at h
  ·rename_i fd hfd
   rw [vz] at h
   cases hq : (Ql (evA s x) && q9 P fd.type 1 && Nat.blt fd.offset cs.length) with
   | false => rw [hq] at h; cases h
   | true =>
    rw [hq, cond_true, j0Y] at h
    simp only [Bool.and_eq_true, Nat.blt_eq] at hq
    have hx := hv (i, x) List.mem_cons_self
    have h1 := hx.one hq.1.1
    have hc := XM h1
    obtain ⟨us', h2, h3⟩ := V3 hpl parts _ (us.setIfInBounds fd.offset (a.eval x)) r h (by rw [Array.toList_setIfInBounds]; exact hL.set _ hx) fun p hp => hv p (List.mem_cons_of_mem _ hp)
    refine ⟨us', ?_, h3⟩
    have hsz : cs.length = us.size := by rw [<- Array.length_toList]; exact hL.1
    have hlt : ¬ us.size < fd.offset + 1 := by omega
    rw [List.map_cons]
    unfold Instr.fill
    simp only [hpl i fd hfd 1 hq.1.2, hc]
    simp [hlt]
    exact h2
  ·cases h
theorem j3K {t : TypeId} {parts : Array (Nat × Operand)} {cs : List AV} (ho : o.op = .build t parts) (hb : Zj P s t parts.toList = some cs) : OkO P o s h (.agg cs) := by
 refine ja fun E σ ι a w hr hx => ?_
 unfold Zj at hb
 split at hb
 ·rename_i fs hu
  split at hb
  ·rename_i z hz
   cases hq : j3k P fs.toList with
   | false => rw [hq] at hb; cases hb
   | true =>
    rw [hq, cond_true] at hb
    obtain ⟨zi, zv, hzi, hzz, hzL⟩ := vI hz
    have hall : ∀ fd ∈ fs.toList, ∃ i, P.info? fd.type = some i := fun fd hfd => Option.isSome_iff_exists.1 (List.all_eq_true.1 hq fd hfd)
    have hmap : ∀ (l : List Field), (∀ fd ∈ l, ∃ i, P.info? fd.type = some i) -> ∃ ps : List (Nat × Nat), (l.mapM fun f => (do pure (f.offset, <- sizeOf f.type) : Sem (Nat × Nat))).run P w = .ok ps w ∧ ∀ (i : Nat) (fd : Field), l[i]? = some fd -> ∀ k, q9 P fd.type k = true -> ps[i]? = some (fd.offset, k) := by
     intro l
     induction l with
     | nil => intro _; exact ⟨[], by simp, fun i fd h => by simp at h⟩
     | cons f l ih =>
      intro hl
      obtain ⟨i0, hi0⟩ := hl f List.mem_cons_self
      obtain ⟨ps, h1, h2⟩ := ih fun fd hfd => hl fd (List.mem_cons_of_mem _ hfd)
      refine ⟨(f.offset, i0.size) :: ps, ?_, fun i fd hi k hk => ?_⟩
      ·have hstep : (do pure (f.offset, <- sizeOf f.type) : Sem (Nat × Nat)).run P w = .ok (f.offset, i0.size) w := by simp [sizeOf, typeInfo, hi0]
       rw [List.mapM_cons, Sem.run_bind, hstep, Result.andThen_ok, Sem.run_bind, h1, Result.andThen_ok]
       simp
      ·cases i with
       | zero =>
        simp at hi; subst hi
        unfold q9 at hk; rw [hi0] at hk
        simp [Nat.eq_of_beq_eq_true hk]
       | succ i => simpa using h2 i fd (by simpa using hi) k hk
    obtain ⟨ps, h1, h2⟩ := hmap fs.toList hall
    obtain ⟨us', h3, h4⟩ := V3 (σ := σ) (ι := ι) (a := a) (places := (ps.toArray[·]?)) (fun i fd hi k hk => by simpa using h2 i fd hi k hk) parts.toList z zv.cells cs hb ((hzL σ).mono fun _ _ h => .base _ _ h) (fun p hp => hx p.2 (by rw [ho]; simp only [Op.operands]; simpa using ⟨p.1, by simpa using hp⟩))
    have hm : (fs.mapM fun f => (do pure (f.offset, <- sizeOf f.type) : Sem (Nat × Nat))).run P w = .ok ps.toArray w := by
     rw [Array.mapM_eq_mapM_toList]
     simp only [Sem.run_bind, Sem.run_map, h1]
     rfl
    refine ⟨.agg us', ?_, .agg _ us'.toList h4.1 h4.2⟩
    have hm' : (fs.mapM fun f => (Prod.mk f.offset <$> sizeOf f.type : Sem (Nat × Nat))).run P w = .ok ps.toArray w := by
     have e : (fun f : Field => (Prod.mk f.offset <$> sizeOf f.type : Sem (Nat × Nat))) = fun f => (do pure (f.offset, <- sizeOf f.type)) := by funext f; simp
     rw [e]; exact hm
    have h6 : (Instr.build t (parts.map fun (i, x) => (i, a.eval x))).run P w = .ok (.agg us') w := by
     simp only [Instr.build, Sem.run_bind, zeroValue, typeInfo, Sem.run_pure, Result.andThen_ok]
     have h3' : Instr.fill (fun x => ps[x]?) zv.cells (parts.toList.map fun p => (p.1, a.eval p.2)) = some us' := by simpa using h3
     simp [hzi, hzz, run_underlying hu, hm', h3']
    simp only [execOp, ho, Sem.run_bind, h6, Result.andThen_ok, Sem.run_pure]
  ·cases hb
 ·cases hb
def j3D (s : j6) (o : Oper) : Option AV := match o.op with
 | .binOp op _ x y _ => match evA s x, evA s y with
  | .int k a, .int k' b => bif kEq k k' then (match op with
   | .add => some (.int k (k.wrap (a + b)))
   | .sub => some (.int k (k.wrap (a - b)))
   | .mul => some (.int k (k.wrap (a * b)))
   | _ => none) else none
  | _, _ => none
 | .convert src dst x => none
 | _ => none
theorem j4t {v : AV} (hs : j3D s o = some v) : OkO P o s h v := by
 refine ja fun E σ ι act w hr hx => ?_
 unfold j3D at hs
 split at hs
 ·rename_i op t x y yt e
  have hX := hx x (by rw [e]; simp [Op.operands])
  have hY := hx y (by rw [e]; simp [Op.operands])
  split at hs
  ·rename_i k a k' b h1 h2
   rw [h1] at hX
   rw [h2] at hY
   cases hk : kEq k k' with
   | false => rw [hk] at hs; cases hs
   | true =>
    rw [hk, cond_true] at hs
    obtain rfl := Xr hk
    split at hs <;> first | (cases hs; done) | skip
    all_goals
     cases hs
     refine ⟨_, ?_, .base _ _ (.int _ _ (w6 k _))⟩
     simp [execOp, e, hX.int_inv.1, hY.int_inv.1, eqGuard, binOp, Op.intArith]
  ·cases hs
 ·cases hs
 ·cases hs
theorem Vb {α : Type} {sz id : Nat} {l : List α} {f : α -> List AV} {t e e' : TypeId} {x y : Operand} {ik : IntKind} {i : Int} (ho : o.op = .indexAddr t x y) (ht : qD P t = some e) (hz : q9 P e sz = true) (hx : evA s x = .own id) (hg : j9 h id = some (.row e' sz (l.map f)))
  (hy : evA s y = .int ik i) (h0 : 0 <= i) (hi : i < l.length) : OkO P o s h (.eptr id sz i.toNat 0) := by
 obtain ⟨k, rfl⟩ := Int.eq_ofNat_of_zero_le h0
 exact yO ho ht hz hx hg hy (by omega)
theorem LeV.agg {cs cs' : List AV} (h : L2 LeV cs cs') : LeV (.agg cs) (.agg cs') := fun σ ι v hv => by
 obtain ⟨vs, rfl, h2⟩ := hv.agg_inv
 refine .agg _ _ (by rw [<- h.1, h2.1]) fun j c v hc hv => ?_
 have hj : j < cs.length := by rw [h.1]; exact (List.getElem?_eq_some_iff.1 hc).1
 exact h.2 j _ c (List.getElem?_eq_getElem hj) hc σ ι v (h2.2 j _ v (List.getElem?_eq_getElem hj) hv)
theorem Fn.le {f : FuncId} {args args' : List AV} {r : AV} (hf : Fn P f args' r) (h : L2 LeV args args') : Fn P f args r :=
 ⟨hf.1, fun σ ι w vs hsub hv => hf.2 σ ι w vs hsub ⟨by rw [<- h.1, hv.1], fun j c v hc hv2 => by
  have hj : j < args.length := by rw [h.1]; exact (List.getElem?_eq_some_iff.1 hc).1
  exact h.2 j _ c (List.getElem?_eq_getElem hj) hc σ ι v (hv.2 j _ v (List.getElem?_eq_getElem hj) hv2)⟩⟩
end
end Go.Proofs.YtfjoaeghnfkdlaaGreatDoor
