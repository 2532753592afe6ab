/- Walks through regions that store, in whatever order, into a row of the call's own. No condition. -/
import Derived.Test.YtfjoaeghnfkdlaaAvDrS
namespace Go.Proofs.Ytfjoaeghnfkdlaa
set_option linter.unusedSimpArgs false
set_option linter.unusedVariables false
set_option maxRecDepth 100000
set_option linter.unusedVariables false
set_option linter.unusedSimpArgs false
open Go.RowKit
section
variable {P : Program} {n : Md} {Q : Exit → Slots → Heap → Prop} {s : Slots} {h h0 : Heap} {ops : Array Oper} {rest : List Oper} {o : Oper} {K : Slots → Prop}
theorem sto_E {α : Type} [Inhabited α] {t e' : TypeId} {x y : Operand} {id sz i j : Nat} {l : List α} {f : α → List AV} {v : AV} {x' : α} (ho : o.op = .store t x y) (hx : evA s x = .eptr id sz i j)
    (hv : evA s y = v) (hq : celQ v = true) (hp : pureL (celA v) = true) (hz : sizeQ P t (celA v).length = true) (hl : j + (celA v).length ≤ sz) (hx' : f x' = spl (f (l.getD i default)) j (celA v))
    (hi : i < l.length) : StO P o s ((id, .row e' sz (l.map f)) :: h0) ((id, .row e' sz ((l.set i x').map f)) :: h0) := fun E σ ι a w hr hVR => by
  subst hv
  have hg : hget ((id, .row e' sz (l.map f)) :: h0) id = some (.row e' sz (l.map f)) := by rw [hget_cons, if_pos rfl]
  have hX : VR σ ι (evA s x) (a.eval x) := hVR x (by rw [ho]; simp [Op.operands])
  have hY : VR σ ι (evA s y) (a.eval y) := hVR y (by rw [ho]; simp [Op.operands])
  rw [hx] at hX
  obtain ⟨g, h1, h2⟩ := hX.eptr_inv
  obtain ⟨hsz0, hsz, vs, hown, hL2⟩ := hr.ch id _ hg
  rcases hown.2 with ⟨h3, _⟩ | ⟨g', cap, cur, h3, _, h4, h5, h6, h7, h8⟩
  · rw [h3] at h1; cases h1
  rw [h3] at h1
  simp only [footOf, Option.some.injEq] at h1
  subst h1
  obtain ⟨hL, hone⟩ := hY.cel hq
  have hlen : (a.eval y).cells.size = (celA (evA s y)).length := by rw [← Array.length_toList]; exact hL.1.symm
  have hil : i < (l.map f).length := by simpa using hi
  have hbound : i * sz + j + (a.eval y).cells.size ≤ (l.map f).length * sz := by
    have : (i + 1) * sz ≤ (l.map f).length * sz := Nat.mul_le_mul_right _ hil
    rw [Nat.add_mul] at this; omega
  have hcap : (l.map f).length * sz ≤ cap * sz := Nat.mul_le_mul_right _ h5
  have hrun := run_store_at (P := P) (t := t) (off := i * sz + j) (v := a.eval y) h4 (by rw [hlen]; exact hz) (by omega) hone
  obtain ⟨cur', hcur'⟩ : ∃ cur', cur' = (cur.toList.take (i * sz + j) ++ (a.eval y).cells.toList ++ cur.toList.drop (i * sz + j + (a.eval y).cells.size)).toArray := ⟨_, rfl⟩
  rw [← hcur'] at hrun
  have hs' : cur'.size = cur.size := by
    rw [hcur']; simp only [List.size_toArray, List.length_append, List.length_take, List.length_drop, Array.length_toList]; omega
  have htk : cur'.toList.take ((l.map f).length * sz) = vs.take (i * sz + j) ++ (a.eval y).cells.toList ++ vs.drop (i * sz + j + (a.eval y).cells.toList.length) := by
    obtain ⟨N, hN⟩ : ∃ N, N = (l.map f).length * sz := ⟨_, rfl⟩
    obtain ⟨us, hus⟩ : ∃ us, us = (a.eval y).cells.toList := ⟨_, rfl⟩
    have hul : us.length = (a.eval y).cells.size := by rw [hus, Array.length_toList (xs := (a.eval y).cells)]
    rw [hcur', ← h8, ← hN, ← hus, ← hul]
    rw [← hN] at hbound hcap
    rw [← hul] at hbound
    have hcl : cur.toList.length = cur.size := Array.length_toList (xs := cur)
    generalize cur.toList = cl at *
    rw [List.toList_toArray, List.take_take, List.take_append, List.take_append, List.drop_take, show min (i * sz + j) N = i * sz + j by omega]
    have e2 : (List.take (i * sz + j) cl).length = i * sz + j := by rw [List.length_take]; omega
    rw [List.length_append, e2, List.take_of_length_le (l := us) (by omega), List.take_take, show min N (i * sz + j) = i * sz + j by omega]
  have hrun' : (execOp a.eval o).run P w = .ok .skip (w.setRow g' cur') := by
    simp only [execOp, ho, h2, Instr.storeAt, Instr.sureAddr, Sem.run_bind, Sem.run_pure, Result.andThen_ok, hrun]
  refine ⟨_, hrun', ?_⟩
  have hsame : upd ι id (ι id) = ι := by funext i; unfold upd; split <;> simp_all
  have hget' : l.getD i default = l[i] := by simp [hi]
  have hfi : (l.map f)[i]? = some (f (l.getD i default)) := by simp [hi]
  have hci : (f (l.getD i default)).length = sz := hsz _ (List.mem_of_getElem? hfi)
  have hxs : (l.set i x').map f = (l.map f).set i ((f (l.getD i default)).take j ++ celA (evA s y) ++ (f (l.getD i default)).drop (j + (celA (evA s y)).length)) := by
    rw [List.map_set, hx', spl_eq _ _ _ (by omega)]
  have hnew := hr.turn (id := id) (u := ι id) (h' := (id, .row e' sz ((l.set i x').map f)) :: h0) (c' := .row e' sz ((l.set i x').map f)) (w' := w.setRow g' cur')
    (fun i c hi hc => by rw [hget_cons, if_neg (fun e => hi e.symm)] at hc; exact ⟨by rw [hget_cons, if_neg (fun e => hi e.symm)]; exact hc, .inl rfl⟩) (by rw [hget_cons, if_pos rfl])
    ⟨hsz0, fun c hc => by
      rw [hxs] at hc
      rcases List.mem_or_eq_of_mem_set hc with hc | rfl
      · exact hsz c hc
      · simp only [List.length_append, List.length_take, List.length_drop]; omega,
      cur'.toList.take ((l.map f).length * sz), by
        rw [hsame, show ((l.set i x').map f).length = (l.map f).length by simp]
        refine ⟨by rw [List.length_take, Array.length_toList (xs := cur')]; omega, .inr ⟨g', cap, cur', h3, Nat.zero_le _, setRow_heap w g' cur cur' e' (0, 0) h4, h5, h6, by omega, rfl⟩⟩, by
      rw [htk, hxs, flatten_set hsz hfi hl]
      rw [show (a.eval y).cells.toList.length = (celA (evA s y)).length by rw [Array.length_toList, hlen]]
      exact ((hL2.take _).append (l2_pure hL hp)).append (hL2.drop _)⟩
    rfl rfl rfl (by simp) (fun k hk hne => setRow_other w g' k _ fun e => hne _ hg (by rw [e, h3]; rfl))
    (fun g2 hg2 => .inl ⟨_, hg, hg2⟩) (.inr rfl)
  rw [hsame] at hnew
  exact hnew
/-- A walk through such a region: the row, as it is at this point. -/
structure F {α : Type} (P : Program) (id : Nat) (e' : TypeId) (sz : Nat) (f : α → List AV) (h0 : Heap) (N : Nat) (K : Slots → List α → Prop) (rest : List Oper) (s : Slots) (y : List α) : Prop where
  out : ADs P (fun y : List α => (id, Chunk.row e' sz (y.map f)) :: h0) (fun y => y.length = N) K rest s y
variable {α : Type} {id sz N : Nat} {e' : TypeId} {f : α → List AV} {KF : Slots → List α → Prop} {y : List α}
theorem fnil (hk : KF s y) : F P id e' sz f h0 N KF [] s y := ⟨s, fun _ => rfl, hk⟩
theorem f_k {v : AV} (h1 : isSt o = false) (hv : ∀ y' : List α, y'.length = N → Y P o s ((id, .row e' sz (y'.map f)) :: h0) v) (hk : F P id e' sz f h0 N KF rest (putS s o.dst v) y) : F P id e' sz f h0 N KF (o :: rest) s y :=
  ⟨.inr ⟨h1, v, .inr fun y' hy' => (hv y' hy').out, hk.out⟩⟩
theorem f_ld {v : AV} (h1 : isSt o = false) (h2 : isLd o = true) (hv : Y P o s ((id, .row e' sz (y.map f)) :: h0) v) (hk : F P id e' sz f h0 N KF rest (putS s o.dst v) y) : F P id e' sz f h0 N KF (o :: rest) s y :=
  ⟨.inr ⟨h1, v, .inl ⟨h2, hv.out⟩, hk.out⟩⟩
theorem f_se [Inhabited α] {t : TypeId} {x z : Operand} {i j : Nat} {v : AV} {x' : α} (ho : o.op = .store t x z) (h1 : isSt o = true) (hx : evA s x = .eptr id sz i j) (hv : evA s z = v) (hq : celQ v = true) (hp : pureL (celA v) = true) (hz : sizeQ P t (celA v).length = true)
    (hl : Nat.ble (j + (celA v).length) sz = true) (hx' : f x' = spl (f (y.getD i default)) j (celA v)) (hi : i < y.length) (hN : y.length = N) (hk : F P id e' sz f h0 N KF rest s (y.set i x')) : F P id e' sz f h0 N KF (o :: rest) s y :=
  ⟨.inl ⟨h1, y.set i x', by simpa using hN, sto_E ho hx hv hq hp hz (Nat.ble_eq ▸ hl) hx' hi, hk.out⟩⟩
def hasSt (l : List Oper) : Bool := l.any isSt
theorem wdrawS {rid : Nat} {l : List Oper} {y0 : List α} (hs : hasSt l = true) (hm : P.follows .mixedOrders = true) (hok : drawOkS n l = true) (hst : stQ l = true)
    (hk : F P id e' sz f h0 y0.length (fun s' y => Q .normal s' ((id, .row e' sz (y.map f)) :: h0)) l s y0) : W P n (.region rid l.toArray true) Q s ((id, .row e' sz (y0.map f)) :: h0) :=
  ⟨awp_drawS (H := fun y : List α => (id, Chunk.row e' sz (y.map f)) :: h0) (ok := fun y => y.length = y0.length) hm hok hst rfl hk.out⟩
theorem q_ioE {t e : TypeId} {x y : Operand} {ik : IntKind} {z : Int} {l : List α} (i : Nat) (ho : o.op = .indexAddr t x y) (hx : evA s x = .own id) (hg : hget h id = some (.row e' sz (l.map f))) (hy : evA s y = .int ik z) (ht : sliceE P t = some e) (hz : sizeQ P e sz = true) (hzi : z = (i : Int)) (hi : i < l.length) : Y P o s h (.eptr id sz i 0) := by
  subst hzi
  exact ⟨ok_index_own ho ht hz hx hg hy hi⟩
theorem q_pE [Inhabited α] {i j : Nat} {l : List α} {t : TypeId} {x : Operand} {side : Prop} {v : AV} {z : α} (hzi : l.getD i default = z) (ho : o.op = .load t x) (hx : evA s x = .eptr id sz i j) (hg : hget h id = some (.row e' sz (l.map f))) (hc : cellsA P t ((f z).drop j) = some (side, v)) (hi : i < l.length) (hside : side) : Y P o s h v := by
  subst hzi
  exact q_p ho hx hg hc hi hside
/-- Half of a number that is not less than none: a shift. -/
theorem q_half {t yt : TypeId} {x y : Operand} {a : Int} (m : Nat) (ho : o.op = .binOp .shr t x y yt) (hx : evA s x = .int .u64 a) (hy : evA s y = .int .i64 1 ∨ evA s y = .int .u64 1) (hm : a = 2 * (m : Int) ∨ a = 2 * (m : Int) + 1) (hr : a ≤ 18446744073709551615) : Y P o s h (.int .u64 m) := by
  have e : a.fdiv (2 ^ min (1 : Int).toNat IntKind.u64.bits) = (m : Int) := by
    rw [show (2 : Int) ^ min (1 : Int).toNat IntKind.u64.bits = 2 from rfl, Int.fdiv_eq_ediv_of_nonneg _ (by omega)]
    omega
  have hb : binA .shr (.int .u64 a) (evA s y) = some ((0 : Int) ≤ 1 ∧ rangeP .u64 (m : Int), .int .u64 m) := by
    rcases hy with hy | hy <;> rw [hy] <;> simp only [binA] <;> rw [e]
  refine q_s (side := (0 : Int) ≤ 1 ∧ rangeP .u64 (m : Int)) ?_ ?_
  · unfold stepO
    simp only [ho, hx, hb]
  · refine ⟨by omega, ?_⟩
    simp only [rangeP]; omega
end
end Go.Proofs.Ytfjoaeghnfkdlaa
