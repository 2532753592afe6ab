/- Rows of the call's own: an element is stored, a row is cut short, its tail is cleared; functions that turn nothing may look at what is the call's own. No condition. -/
import Derived.Test.YtfjoaeghnfkdlaaAvFnH
namespace Go.Proofs.Ytfjoaeghnfkdlaa
set_option linter.unusedSimpArgs false
set_option linter.unusedVariables false
set_option maxRecDepth 100000
set_option linter.unusedVariables false
set_option linter.unusedSimpArgs false
open Go.RowKit
section
variable {P : Program} {n : Md} {Q : Exit → Slots → Heap → Prop} {s : Slots} {h : Heap} {ops : Array Oper} {rest : List Oper} {o : Oper} {K : Slots → Prop}
theorem flatten_set {β : Type} {sz : Nat} : ∀ {xs : List (List β)} {i j : Nat} {c ws : List β}, (∀ c ∈ xs, c.length = sz) → xs[i]? = some c → j + ws.length ≤ sz →
    (xs.set i (c.take j ++ ws ++ c.drop (j + ws.length))).flatten = xs.flatten.take (i * sz + j) ++ ws ++ xs.flatten.drop (i * sz + j + ws.length)
  | [], i, j, c, ws, _, hi, _ => by simp at hi
  | x :: xs, 0, j, c, ws, hsz, hi, hl => by
    simp at hi; subst hi
    have h1 : x.length = sz := hsz x (by simp)
    simp only [List.set_cons_zero, List.flatten_cons, Nat.zero_mul, Nat.zero_add]
    rw [List.take_append_of_le_length (by omega), List.drop_append_of_le_length (by omega)]
    simp
  | x :: xs, i + 1, j, c, ws, hsz, hi, hl => by
    have h1 : x.length = sz := hsz x (by simp)
    have ih := flatten_set (xs := xs) (i := i) (j := j) (c := c) (ws := ws) (fun c hc => hsz c (by simp [hc])) (by simpa using hi) hl
    simp only [List.set_cons_succ, List.flatten_cons, ih]
    have e1 : (i + 1) * sz + j = x.length + (i * sz + j) := by rw [h1, Nat.add_mul]; omega
    have e2 : (i + 1) * sz + j + ws.length = x.length + (i * sz + j + ws.length) := by rw [h1, Nat.add_mul]; omega
    have t1 : ∀ (k : Nat) (r : List β), (x ++ r).take (x.length + k) = x ++ r.take k := fun k r => by rw [List.take_append, List.take_of_length_le (by omega), Nat.add_sub_cancel_left]
    have t2 : ∀ (k : Nat) (r : List β), (x ++ r).drop (x.length + k) = r.drop k := fun k r => by rw [List.drop_append, List.drop_of_length_le (by omega), Nat.add_sub_cancel_left, List.nil_append]
    rw [e2, e1, t1, t2, List.append_assoc, List.append_assoc, List.append_assoc]
theorem a1_storeE {α : Type} [Inhabited α] {t e' : TypeId} {x y : Operand} {id sz i j : Nat} {l : List α} {f : α → List AV} {v : AV} (x' : α) (ho : o.op = .store t x y) (hx : evA s x = .eptr id sz i j)
    (hg : hget h id = some (.row e' sz (l.map f))) (hv : evA s y = v) (hq : celQ v = true) (hp : pureL (celA v) = true) (hz : sizeQ P t (celA v).length = true) (hl : j + (celA v).length ≤ sz) (hx' : f x' = spl (f (l.getD i default)) j (celA v))
    (hi : i < l.length) (hco : constsOk o = true) (hd : o.dst = none) (hk : AOps P n ops Q rest s ((id, .row e' sz ((l.set i x').map f)) :: h)) : A1 P n ops Q o rest s h := fun E σ ι a w hr ht => by
  subst hv
  have hX : VR σ ι (evA s x) (a.eval x) := evA_sound (List.all_eq_true.1 hco x (by rw [ho]; simp [Op.operands])) fun t _ => ht.at_ t
  have hY : VR σ ι (evA s y) (a.eval y) := evA_sound (List.all_eq_true.1 hco y (by rw [ho]; simp [Op.operands])) fun t _ => ht.at_ t
  rw [hx] at hX
  obtain ⟨g, h1, h2⟩ := hX.eptr_inv
  obtain ⟨hsz0, hsz, vs, hown, hL2⟩ := hr.ch id _ hg
  rcases hown.2 with ⟨h3, _⟩ | ⟨g', cap, cur, h3, _, h4, h5, h6, h7, h8⟩
  · rw [h3] at h1; cases h1
  rw [h3] at h1
  simp only [footOf, Option.some.injEq] at h1
  subst h1
  obtain ⟨hL, hone⟩ := hY.cel hq
  have hlen : (a.eval y).cells.size = (celA (evA s y)).length := by rw [← Array.length_toList]; exact hL.1.symm
  have hil : i < (l.map f).length := by simpa using hi
  have hbound : i * sz + j + (a.eval y).cells.size ≤ (l.map f).length * sz := by
    have : (i + 1) * sz ≤ (l.map f).length * sz := Nat.mul_le_mul_right _ hil
    rw [Nat.add_mul] at this; omega
  have hcap : (l.map f).length * sz ≤ cap * sz := Nat.mul_le_mul_right _ h5
  have hrun := run_store_at (P := P) (t := t) (off := i * sz + j) (v := a.eval y) h4 (by rw [hlen]; exact hz) (by omega) hone
  obtain ⟨cur', hcur'⟩ : ∃ cur', cur' = (cur.toList.take (i * sz + j) ++ (a.eval y).cells.toList ++ cur.toList.drop (i * sz + j + (a.eval y).cells.size)).toArray := ⟨_, rfl⟩
  rw [← hcur'] at hrun
  have hs' : cur'.size = cur.size := by
    rw [hcur']; simp only [List.size_toArray, List.length_append, List.length_take, List.length_drop, Array.length_toList]; omega
  have htk : cur'.toList.take ((l.map f).length * sz) = vs.take (i * sz + j) ++ (a.eval y).cells.toList ++ vs.drop (i * sz + j + (a.eval y).cells.toList.length) := by
    obtain ⟨N, hN⟩ : ∃ N, N = (l.map f).length * sz := ⟨_, rfl⟩
    obtain ⟨us, hus⟩ : ∃ us, us = (a.eval y).cells.toList := ⟨_, rfl⟩
    have hul : us.length = (a.eval y).cells.size := by rw [hus, Array.length_toList (xs := (a.eval y).cells)]
    rw [hcur', ← h8, ← hN, ← hus, ← hul]
    rw [← hN] at hbound hcap
    rw [← hul] at hbound
    have hcl : cur.toList.length = cur.size := Array.length_toList (xs := cur)
    generalize cur.toList = cl at *
    rw [List.toList_toArray, List.take_take, List.take_append, List.take_append, List.drop_take, show min (i * sz + j) N = i * sz + j by omega]
    have e2 : (List.take (i * sz + j) cl).length = i * sz + j := by rw [List.length_take]; omega
    rw [List.length_append, e2, List.take_of_length_le (l := us) (by omega), List.take_take, show min N (i * sz + j) = i * sz + j by omega]
  unfold Oper.wp
  have hrun' : (execOp a.eval o).run P w = .ok .skip (w.setRow g' cur') := by
    simp only [execOp, ho, h2, Instr.storeAt, Instr.sureAddr, Sem.run_bind, Sem.run_pure, Result.andThen_ok, hrun]
  rw [hrun', Oper.upon_skip, hd]
  have hsame : upd ι id (ι id) = ι := by funext i; unfold upd; split <;> simp_all
  have hget' : l.getD i default = l[i] := by simp [hi]
  have hfi : (l.map f)[i]? = some (f (l.getD i default)) := by simp [hi]
  have hci : (f (l.getD i default)).length = sz := hsz _ (List.mem_of_getElem? hfi)
  have hxs : (l.set i x').map f = (l.map f).set i ((f (l.getD i default)).take j ++ celA (evA s y) ++ (f (l.getD i default)).drop (j + (celA (evA s y)).length)) := by
    rw [List.map_set, hx', spl_eq _ _ _ (by omega)]
  have hnew := hr.turn (id := id) (u := ι id) (h' := (id, .row e' sz ((l.set i x').map f)) :: h) (c' := .row e' sz ((l.set i x').map f)) (w' := w.setRow g' cur')
    (fun i c hi hc => by rw [hget_cons, if_neg (fun e => hi e.symm)] at hc; exact ⟨hc, .inl rfl⟩) (by rw [hget_cons, if_pos rfl])
    ⟨hsz0, fun c hc => by
      rw [hxs] at hc
      rcases List.mem_or_eq_of_mem_set hc with hc | rfl
      · exact hsz c hc
      · simp only [List.length_append, List.length_take, List.length_drop]; omega,
      cur'.toList.take ((l.map f).length * sz), by
        rw [hsame, show ((l.set i x').map f).length = (l.map f).length by simp]
        refine ⟨by rw [List.length_take, Array.length_toList (xs := cur')]; omega, .inr ⟨g', cap, cur', h3, Nat.zero_le _, setRow_heap w g' cur cur' e' (0, 0) h4, h5, h6, by omega, rfl⟩⟩, by
      rw [htk, hxs, flatten_set hsz hfi hl]
      rw [show (a.eval y).cells.toList.length = (celA (evA s y)).length by rw [Array.length_toList, hlen]]
      exact ((hL2.take _).append (l2_pure hL hp)).append (hL2.drop _)⟩
    rfl rfl rfl (by simp) (fun k hk hne => setRow_other w g' k _ fun e => hne _ hg (by rw [e, h3]; rfl))
    (fun g2 hg2 => .inl ⟨_, hg, hg2⟩) (.inr rfl)
  rw [hsame] at hnew
  exact hk E σ ι _ _ hnew ht
theorem ao_se {α : Type} [Inhabited α] {t e' : TypeId} {x y : Operand} {id sz i j : Nat} {l : List α} {f : α → List AV} {v : AV} {x' : α} (ho : o.op = .store t x y) (hx : evA s x = .eptr id sz i j)
    (hg : hget h id = some (.row e' sz (l.map f))) (hv : evA s y = v) (hq : celQ v = true) (hp : pureL (celA v) = true) (hz : sizeQ P t (celA v).length = true) (hl : Nat.ble (j + (celA v).length) sz = true) (hx' : f x' = spl (f (l.getD i default)) j (celA v))
    (hi : i < l.length) (hgd : o.guard = none) (hco : constsOk o = true) (hd : o.dst = none) (hk : O P n ops Q rest s ((id, .row e' sz ((l.set i x').map f)) :: h)) : O P n ops Q (o :: rest) s h :=
  ⟨aops_one hgd (a1_storeE x' ho hx hg hv hq hp hz (Nat.ble_eq ▸ hl) hx' hi hco hd hk.out)⟩
/-! ## A row of the call's own is cut short -/
theorem a1_cut {α : Type} {t e : TypeId} {x y : Operand} {id sz b : Nat} {k : IntKind} {l : List α} {f : α → List AV} (ho : o.op = .slice t x none (some y) none) (ht : sliceE P t = some e) (hz : sizeQ P e sz = true) (hx : evA s x = .own id)
    (hg : hget h id = some (.row e sz (l.map f))) (hy : evA s y = .int k b) (hb : b ≤ l.length) (h5 : Nat.ble 5 id = true) (hlo : loneH id h = true) (hco : constsOk o = true) (hd : dstOk n o.dst = true)
    (hk : AOps P n ops Q rest (putS (killS id s) o.dst (.own id)) ((id, .row e sz ((l.take b).map f)) :: h)) : A1 P n ops Q o rest s h := fun E σ ι a w hr ht' => by
  have hX : VR σ ι (evA s x) (a.eval x) := evA_sound (List.all_eq_true.1 hco x (by rw [ho]; simp [Op.operands])) fun t _ => ht'.at_ t
  have hY : VR σ ι (evA s y) (a.eval y) := evA_sound (List.all_eq_true.1 hco y (by rw [ho]; simp [Op.operands])) fun t _ => ht'.at_ t
  rw [hx] at hX
  rw [hy] at hY
  obtain ⟨hsz0, hsz, vs, hown, hL⟩ := hr.ch id _ hg
  have e1 := hX.own_inv
  obtain ⟨A, cap, e2, e3, e4⟩ := hr.rowForm hg
  have hle : b ≤ cap := by rw [List.length_map] at e3; omega
  have rb : ∀ c, (Instr.sliceBound (a.eval y) cap c).run P w = .ok b w := fun c => by
    have h4 : (0 : Int) ≤ (b : Int) ∧ (b : Int) ≤ (cap : Int) := by omega
    simp only [Instr.sliceBound, hY.int_inv.1, asIntOf, Sem.run_bind, Sem.run_pure, Result.andThen_ok, h4, and_self, if_true, Int.toNat_natCast]
  have hrun : (execOp a.eval o).run P w = .ok (.value (.slice A b cap)) w := by
    have hadd : A.map (fun x => x.add 0) = A := by
      cases A with
      | none => rfl
      | some ad => simp [Addr.add]
    simp [execOp, ho, Instr.sliceAt, run_underlying (sliceE_spec ht), Instr.slice, e1, e2, Instr.sliceBounds, rb, sizeQ_run hz, hadd]
  have hnew := hr.turn (id := id) (u := .slice A b cap) (h' := (id, .row e sz ((l.take b).map f)) :: h) (c' := .row e sz ((l.take b).map f)) (w' := w)
    (fun i c hi hc => by
      rw [hget_cons, if_neg (fun e => hi e.symm)] at hc
      exact ⟨hc, .inr (loneH_get hlo i c hc)⟩)
    (by rw [hget_cons, if_pos rfl])
    ⟨hsz0, fun c hc => by
      obtain ⟨q, hq, rfl⟩ := List.mem_map.1 hc
      exact hsz _ (List.mem_map_of_mem (List.mem_of_mem_take hq)), vs.take (b * sz), by
        rw [upd_eq]
        have hlen : ((l.take b).map f).length = b := by simp; omega
        have hbb : b * sz ≤ l.length * sz := Nat.mul_le_mul_right _ hb
        have hvl := hown.1
        rw [List.length_map] at hvl
        rw [hlen]
        refine ⟨by rw [List.length_take]; omega, ?_⟩
        rcases hown.2 with ⟨h1, h2⟩ | ⟨g, cap', cur, h1, _, h3, h4, h5', h6, h7⟩
        · rw [h1] at e2
          injection e2 with q1 q2 q3
          rw [List.length_map] at h2
          exact .inl ⟨by rw [← q1, ← q3, show b = 0 by omega], by omega⟩
        · rw [h1] at e2
          injection e2 with q1 q2 q3
          subst q1; subst q3
          refine .inr ⟨g, cap', cur, rfl, Nat.zero_le _, h3, hle, h5', h6, ?_⟩
          rw [← h7, List.take_take]
          rw [List.length_map]
          congr 1; omega, by
        have := hL.take (b * sz)
        rw [show (l.take b).map f = (l.map f).take b by rw [List.map_take]]
        rwa [show ((l.map f).take b).flatten = (l.map f).flatten.take (b * sz) from ?_]
        have : ∀ (xs : List (List AV)) (b : Nat), (∀ c ∈ xs, c.length = sz) → (xs.take b).flatten = xs.flatten.take (b * sz) := by
          intro xs
          induction xs with
          | nil => intro b _; simp
          | cons x xs ih =>
            intro b hs
            cases b with
            | zero => simp
            | succ b =>
              have hx1 := hs x List.mem_cons_self
              rw [List.take_succ_cons, List.flatten_cons, List.flatten_cons, ih b (fun c hc => hs c (List.mem_cons_of_mem _ hc)), List.take_append, List.take_of_length_le (l := x) (by rw [hx1, Nat.add_mul]; omega), hx1, show (b + 1) * sz - sz = b * sz by rw [Nat.add_mul]; omega]
        exact this _ _ hsz⟩
    rfl rfl rfl (Nat.le_refl _) (fun _ _ _ => rfl)
    (fun g hv => .inl ⟨_, hg, by rw [e2]; cases A <;> exact hv⟩) (.inl (Nat.ble_eq ▸ h5))
  unfold Oper.wp
  rw [hrun]
  refine hk E σ _ _ _ hnew ((ht'.kill id (Nat.ble_eq ▸ h5) _).putS hd ?_)
  have h2 := VR.own (σ := σ) (ι := upd ι id (.slice A b cap)) id (by rw [upd_eq]; cases A <;> rfl)
  rwa [upd_eq] at h2
theorem ao_cut {α : Type} {t e : TypeId} {x y : Operand} {id sz b : Nat} {k : IntKind} {l : List α} {f : α → List AV} (ho : o.op = .slice t x none (some y) none) (hx : evA s x = .own id)
    (hg : hget h id = some (.row e sz (l.map f))) (ht : sliceE P t = some e) (hz : sizeQ P e sz = true) (hy : evA s y = .int k b) (hb : b ≤ l.length) (h5 : Nat.ble 5 id = true) (hlo : loneH id h = true) (hgd : o.guard = none) (hco : constsOk o = true) (hd : dstOk n o.dst = true)
    (hk : O P n ops Q rest (putS (killS id s) o.dst (.own id)) ((id, .row e sz ((l.take b).map f)) :: h)) : O P n ops Q (o :: rest) s h := ⟨aops_one hgd (a1_cut ho ht hz hx hg hy hb h5 hlo hco hd hk.out)⟩
end
end Go.Proofs.Ytfjoaeghnfkdlaa
namespace Go.Proofs.Ytfjoaeghnfkdlaa
set_option linter.unusedSimpArgs false
set_option linter.unusedVariables false
set_option maxRecDepth 100000
set_option linter.unusedVariables false
set_option linter.unusedSimpArgs false
open Go.RowKit
section
variable {P : Program} {n : Md} {Q : Exit → Slots → Heap → Prop} {s : Slots} {h : Heap} {ops : Array Oper} {rest : List Oper} {o : Oper} {K : Slots → Prop}
/-- The same, as one sees it who turns nothing. -/
def lendA (h : Heap) : Nat → AV → AV
  | 0, x => x
  | k + 1, x => bif pureA x then x else match x with
    | .own id => match hget h id with
      | some (.row _ sz xs) => .lst sz xs
      | _ => .own id
    | .ptr id off => match hget h id with
      | some (.blk _ cs) => bif pureL (cs.map (lendA h k)) then .ref ((cs.map (lendA h k)).drop off) else .ptr id off
      | _ => .ptr id off
    | .agg cs => .agg (cs.map (lendA h k))
    | .tup cs => .tup (cs.map (lendA h k))
    | .fn f xs ys => .fn f (xs.map (lendA h k)) (ys.map (lendA h k))
    | x => x
theorem el_map {R R' : AV → Value → Prop} {g : AV → AV} {cs : List AV} {vs : List Value} (H : ∀ x v, R x v → R' (g x) v) (h2 : ∀ (j : Nat) (c : AV) (v : Value), cs[j]? = some c → vs[j]? = some v → R c v) :
    ∀ (j : Nat) (c : AV) (v : Value), (cs.map g)[j]? = some c → vs[j]? = some v → R' c v := fun j c v hc hv => by
  rw [List.getElem?_map] at hc
  cases hq : cs[j]? with
  | none => rw [hq] at hc; cases hc
  | some q => rw [hq] at hc; cases hc; exact H _ _ (h2 j q v hq hv)
theorem lendA_sound {E : Env} {σ : Sig} {ι : Nat → Value} {w : World} (hr : Rel E σ ι h w) : ∀ (k : Nat) (x : AV) (v : Value), VR σ ι x v → VR (fun a => w.cell? a) ι (lendA h k x) v
  | 0, x, v, hv => hv.mono hr.sub
  | k + 1, x, v, hv => by
    have ih := lendA_sound hr k
    unfold lendA
    cases hp : pureA x with
    | true => exact hv.mono hr.sub
    | false =>
      rw [cond_false]
      cases x with
      | own id =>
        simp only
        split
        · rename_i e sz xs hg
          have e1 := hv.own_inv
          obtain ⟨hsz0, hsz, vs, hown, hL⟩ := hr.ch id _ hg
          rcases hown.2 with ⟨h1, h2⟩ | ⟨g, cap, cur, h1, _, h2, h3, h4, h5, h6⟩
          · have hnil : xs = [] := List.eq_nil_of_length_eq_zero h2
            subst hnil
            rw [e1, h1]; exact .base _ _ (.empty _ _ _ (by simp))
          · rw [e1, h1]
            have hfl := flatten_length hsz
            refine .base _ _ (.lst _ _ _ 0 _ (fun j => (vs[j]?).getD undef) h3 h4 hsz (fun j c hc => ?_) fun j c hc => ?_)
            · obtain ⟨u, hu, _⟩ := hL.get hc
              have hj : j < xs.length * sz := by rw [← hfl]; exact (List.getElem?_eq_some_iff.1 hc).1
              rw [hu]
              rw [← h6, List.getElem?_take] at hu
              rw [if_pos hj] at hu
              simp only [World.cell?, h2, Option.isSome_none, Bool.false_eq_true, if_false, Nat.zero_add, Option.getD_some]
              rw [← Array.getElem?_toList]; exact hu
            · obtain ⟨u, hu, hR⟩ := hL.get hc
              rw [hu]; exact hR.mono hr.sub
        · exact hv.mono hr.sub
      | ptr id off =>
        simp only
        split
        · rename_i ty cs hg
          cases hq : pureL (cs.map (lendA h k)) with
          | false => exact hv.mono hr.sub
          | true =>
            obtain ⟨g, hf, e1⟩ := hv.ptr_inv
            obtain ⟨g', cur, h1, h2, h3⟩ := hr.ch id _ hg
            rw [h1] at hf
            simp only [footOf, Option.some.injEq] at hf
            subst hf
            rw [e1, cond_true]
            have key : ∀ (j : Nat) (c : AV), ((cs.map (lendA h k)).drop off)[j]? = some c → ∃ u, cur.toList[off + j]? = some u ∧ VR0 (fun a => w.cell? a) c u := fun j c hc => by
              rw [List.getElem?_drop] at hc
              have hc' := hc
              rw [List.getElem?_map] at hc
              cases hq2 : cs[off + j]? with
              | none => rw [hq2] at hc; cases hc
              | some q =>
                rw [hq2] at hc; cases hc
                obtain ⟨u, hu, hR⟩ := h3.get hq2
                exact ⟨u, hu, (ih _ _ hR).pure (pureL_get hq _ _ hc')⟩
            refine .base _ _ (.ref _ _ _ (fun j => (cur.toList[off + j]?).getD undef) (fun j c hc => ?_) fun j c hc => ?_)
            · obtain ⟨u, hu, hR⟩ := key j c hc
              rw [hu]
              simp only [World.cell?, h2, Option.isSome_none, Bool.false_eq_true, if_false, Option.getD_some]
              rw [← Array.getElem?_toList]; exact hu
            · obtain ⟨u, hu, hR⟩ := key j c hc
              rw [hu]; exact hR
        · exact hv.mono hr.sub
      | agg cs =>
        obtain ⟨vs, rfl, h1, h2⟩ := hv.agg_inv
        exact .agg _ vs (by rw [List.length_map]; exact h1) (el_map ih h2)
      | tup cs =>
        obtain ⟨vs, rfl, h1, h2⟩ := hv.tup_inv
        exact .tup _ vs (by rw [List.length_map]; exact h1) (el_map ih h2)
      | fn f xs ys =>
        obtain ⟨us, vs, rfl, h1, h2⟩ := hv.fn_inv
        exact .fn f _ _ us vs (by rw [List.length_map]; exact h1.1) (el_map ih h1.2) (by rw [List.length_map]; exact h2.1) (el_map ih h2.2)
      | _ => exact hv.mono hr.sub
mutual
/-- Leads nowhere. -/
def flatA : AV → Bool
  | .lst _ _ | .ref _ | .own _ | .ptr _ _ | .eptr _ _ _ _ | .part _ _ | .pptr _ _ _ => false
  | .agg cs | .tup cs => flatL cs
  | .fn _ xs ys => flatL xs && flatL ys
  | _ => true
def flatL : List AV → Bool
  | [] => true
  | x :: xs => flatA x && flatL xs
end
theorem flatL_get : ∀ {cs : List AV}, flatL cs = true → ∀ (j : Nat) (c : AV), cs[j]? = some c → flatA c = true
  | [], _, j, c, h => by simp at h
  | x :: xs, hp, 0, c, h => by simp at h; subst h; simp only [flatL, Bool.and_eq_true] at hp; exact hp.1
  | x :: xs, hp, j + 1, c, h => by simp only [flatL, Bool.and_eq_true] at hp; exact flatL_get hp.2 j c (by simpa using h)
theorem VR0.flat {σ σ' : Sig} {x : AV} {v : Value} (hv : VR0 σ x v) : flatA x = true → VR0 σ' x v := by
  induction hv with
  | undef v => exact fun _ => .undef v
  | int k n h => exact fun _ => .int k n h
  | bool b => exact fun _ => .bool b
  | str s => exact fun _ => .str s
  | nils => exact fun _ => .nils
  | empty sz A cap h => exact fun _ => .empty sz A cap h
  | lst sz xs b off cap g h1 h2 h3 h4 h5 ih => intro h; cases h
  | ref cs b off g h4 h5 ih => intro h; cases h
  | agg cs vs h1 h2 ih => intro h; exact .agg cs vs h1 fun j c v hc hv => ih j c v hc hv (flatL_get (by simpa [flatA] using h) j c hc)
  | tup cs vs h1 h2 ih => intro h; exact .tup cs vs h1 fun j c v hc hv => ih j c v hc hv (flatL_get (by simpa [flatA] using h) j c hc)
  | nilp => exact fun _ => .nilp
  | fn f xs ys us vs h1 h2 h3 h4 ih1 ih2 =>
    intro h
    simp only [flatA, Bool.and_eq_true] at h
    exact .fn f xs ys us vs h1 (fun j c v hc hv => ih1 j c v hc hv (flatL_get h.1 j c hc)) h3 fun j c v hc hv => ih2 j c v hc hv (flatL_get h.2 j c hc)
  | nilf => exact fun _ => .nilf
theorem Rel.backL {E : Env} {σ τ σ' : Sig} {ι : Nat → Value} {w w' : World} (hr : Rel E σ ι h w) (h1 : Rel ⟨w, τ, [], [], []⟩ σ' ι [] w') : Rel E σ ι h w' := by
  have hkeep : ∀ g, g < w.heap.size → w'.heap[g]? = w.heap[g]? := fun g hg => h1.old g hg (by simp)
  exact ⟨h1.os.trans hr.os, h1.tape.trans hr.tape, h1.output.trans hr.output, Nat.le_trans hr.size h1.size, fun b hb hm => (hkeep b (Nat.lt_of_lt_of_le hb hr.size)).trans (hr.old b hb hm),
    hr.sigOld, fun a v ha => by rw [World.cell?_of_block (hkeep _ (hr.sig_lt ha))]; exact hr.sub a v ha, fun i c hc => (hr.ch i c hc).keep (Sig.le.refl σ) fun g hg => hkeep g (hr.foot_lt hc hg), hr.foot, hr.dj, hr.pin, hr.low, fun p hp => ⟨(hr.xo p hp).1, (hkeep p.1 (Array.getElem?_eq_some_iff.1 (hr.xo p hp).2.1).1).trans (hr.xo p hp).2.1, (hr.xo p hp).2.2⟩⟩
/-- A call of a function that turns nothing, with what is the call's own. -/
theorem ok_lend {f : FuncId} {args args' : List AV} {r : AV} (hf : Fn P f args' r) (hc : callA s o = some (f, args)) (hl : args.map (lendA h 6) = args') (hfl : flatA r = true) : OkO P o s h r := by
  intro E σ ι a w hr hx K Q hK
  obtain ⟨vs, h1, h2⟩ := callA_spec (P := P) (w := w) hc hf.1 hx
  have h2' : L2 (VR (fun a => w.cell? a) ι) args' vs := by
    rw [← hl]
    exact ⟨by rw [List.length_map]; exact h2.1, el_map (lendA_sound hr 6) h2.2⟩
  unfold Oper.wp
  rw [h1, Oper.upon_enter]
  refine (hf.2 _ ι w vs (fun a v h => h) h2').mono ?_
  rintro e w' ⟨u, σ', rfl, h3, h4⟩
  exact hK σ w' u (Sig.le.refl σ) (hr.backL h4) (.base _ _ (h3.flat hfl))
/-! ## The tail of a row of the call's own is cleared -/
theorem l2_drop_rep {σ : Sig} {z : List AV} {zs : List Value} (hz : L2 (VR0 σ) z zs) (hpos : 0 < zs.length) (m : Nat) : L2 (VR0 σ) (List.replicate m z).flatten ((List.range (m * zs.length)).map fun j => (zs[j % zs.length]?).getD undef) := by
  have hsz : ∀ c ∈ List.replicate m z, c.length = zs.length := fun c hc => by rw [List.eq_of_mem_replicate hc]; exact hz.1
  refine ⟨by rw [flatten_length hsz]; simp, fun j c u hc hu => ?_⟩
  have hj : j < m * zs.length := by
    have := (List.getElem?_eq_some_iff.1 hc).1
    rwa [flatten_length hsz, List.length_replicate] at this
  have hjs : j % zs.length < zs.length := Nat.mod_lt _ hpos
  have hjm : j / zs.length < m := Nat.div_lt_of_lt_mul (by rw [Nat.mul_comm]; exact hj)
  have h1 := flatten_get (sz := zs.length) (xs := List.replicate m z) (i := j / zs.length) (j := j % zs.length) (c := z) (x := z[j % zs.length]'(by rw [hz.1]; exact hjs)) hsz (by simp [hjm]) (List.getElem?_eq_getElem _)
  rw [Nat.mul_comm, Nat.div_add_mod, hc] at h1
  cases h1
  simp only [List.getElem?_map, List.getElem?_range hj, Option.map_some, Option.some.injEq, List.getElem?_eq_getElem hjs, Option.getD_some] at hu
  subst hu
  exact hz.2 _ _ _ (List.getElem?_eq_getElem _) (List.getElem?_eq_getElem hjs)
theorem o_clr {α : Type} {t e : TypeId} {x y : Operand} {d id sz a : Nat} {k : IntKind} {l : List α} {f : α → List AV} {d0 : α} {o1 o2 : Oper} {z0 : List AV} (hg1 : o1.guard = none) (hg2 : o2.guard = none) (ho1 : o1.op = .slice t x (some y) none none) (hd1 : o1.dst = some d)
    (ho2 : o2.op = .call { callee := .builtin .clear, args := #[.tmp d], argTypes := #[t] }) (hd2 : o2.dst = none) (hdn : Nat.blt d n.n = true) (hco : constsOk o1 = true) (ht : sliceE P t = some e) (hz : sizeQ P e sz = true) (hx : evA s x = .own id)
    (hg : hget h id = some (.row e sz (l.map f))) (hy : evA s y = .int k a) (h0 : zeroA P e = some z0) (hz0 : z0 = f d0) (hz0b : Nat.beq z0.length sz = true) (hq1 : z0.all oneQ = true) (ha : a < l.length)
    (hk : O P n ops Q rest ((d, .undef) :: s) ((id, .row e sz ((l.take a ++ List.replicate (l.length - a) d0).map f)) :: h)) : O P n ops Q (o1 :: o2 :: rest) s h := ⟨aops_one hg1 fun E σ ι act w hr ht' => by
  have hX : VR σ ι (evA s x) (act.eval x) := evA_sound (List.all_eq_true.1 hco x (by rw [ho1]; simp [Op.operands])) fun t _ => ht'.at_ t
  have hY : VR σ ι (evA s y) (act.eval y) := evA_sound (List.all_eq_true.1 hco y (by rw [ho1]; simp [Op.operands])) fun t _ => ht'.at_ t
  rw [hx] at hX
  rw [hy] at hY
  obtain ⟨hsz0, hsz, vs, hown, hL⟩ := hr.ch id _ hg
  have e1 := hX.own_inv
  obtain ⟨zi, z, hzi, hzz, hzL⟩ := zeroA_spec h0
  have hisz : zi.size = sz := by unfold sizeQ at hz; rw [hzi] at hz; exact Nat.eq_of_beq_eq_true hz
  have hz0l : z0.length = sz := Nat.eq_of_beq_eq_true hz0b
  have hzl : ∀ v ∈ z.cells.toList, v.oneCell' = true := fun v hv => by
    obtain ⟨j, hj⟩ := List.getElem?_of_mem hv
    have hjl : j < z0.length := by rw [(hzL σ).1]; exact (List.getElem?_eq_some_iff.1 hj).1
    exact (VR.base (ι := ι) _ _ ((hzL σ).2 j _ v (List.getElem?_eq_getElem hjl) hj)).one (List.all_eq_true.1 hq1 _ (List.getElem_mem hjl))
  have hzs : z.cells.size = sz := by rw [← Array.length_toList (xs := z.cells), ← (hzL σ).1, hz0l]
  rcases hown.2 with ⟨h3, h4⟩ | ⟨g, cap, cur, h3, _, h4, h5, h6, h7, h8⟩
  · rw [List.length_map] at h4; omega
  rw [List.length_map] at h5
  have rb : ∀ c, (Instr.sliceBound (act.eval y) l.length c).run P w = .ok a w := fun c => by
    have h9 : (0 : Int) ≤ (a : Int) ∧ (a : Int) ≤ (l.length : Int) := by omega
    simp only [Instr.sliceBound, hY.int_inv.1, asIntOf, Sem.run_bind, Sem.run_pure, Result.andThen_ok, h9, and_self, if_true, Int.toNat_natCast]
  have hcap : ¬ cap = a := by omega
  have hrun : (execOp act.eval o1).run P w = .ok (.value (.slice (some ⟨g, a * sz, none⟩) (l.length - a) (cap - a))) w := by
    simp [execOp, ho1, Instr.sliceAt, run_underlying (sliceE_spec ht), Instr.slice, e1, h3, Instr.sliceBounds, rb, sizeQ_run hz, hcap, Go.WideShapes.add_plain]
  unfold Oper.wp
  rw [hrun]
  show wpL n P ops _ (o2 :: rest) (act.put o1.dst (.slice (some ⟨g, a * sz, none⟩) (l.length - a) (cap - a))) w
  rw [hd1]
  obtain ⟨act2, hact⟩ : ∃ a2, a2 = act.put (some d) (.slice (some ⟨g, a * sz, none⟩) (l.length - a) (cap - a)) := ⟨_, rfl⟩
  rw [← hact]
  have hev : act2.eval (.tmp d) = .slice (some ⟨g, a * sz, none⟩) (l.length - a) (cap - a) := by
    have hdn' : d < n.n := by simpa [Nat.blt_eq] using hdn
    rw [hact]; simp [Act.eval, Act.put, Array.getD, ht'.size, hdn']
  obtain ⟨zs, hzs'⟩ : ∃ zs, zs = (Builtin.zeroCells z.cells (l.length - a)).toList := ⟨_, rfl⟩
  have hzsl : zs.length = (l.length - a) * sz := by rw [hzs']; simp [Builtin.zeroCells, hzs]
  have hcapsz : l.length * sz ≤ cap * sz := Nat.mul_le_mul_right _ h5
  have hsplit : l.length * sz = a * sz + (l.length - a) * sz := by rw [← Nat.add_mul]; congr 1; omega
  have hone : ∀ v ∈ zs, v.oneCell' = true := fun v hv => by
    rw [hzs'] at hv
    obtain ⟨j, hj⟩ := List.getElem?_of_mem hv
    have hjl := (List.getElem?_eq_some_iff.1 hj).1
    have hjs : j % z.cells.size < z.cells.size := Nat.mod_lt _ (by omega)
    simp only [Builtin.zeroCells, Array.toList_map, List.getElem?_map] at hj
    simp only [Array.toList_range, List.getElem?_range (show j < (l.length - a) * z.cells.size by simpa [Builtin.zeroCells] using hjl), Option.map_some, Option.some.injEq] at hj
    subst hj
    rw [getElem!_pos z.cells _ hjs]
    exact hzl _ (by simp)
  have hst := run_storeCells_at P g (a * sz) e zs 0 cur w h4 (by omega) hone
  obtain ⟨cur', hcur'⟩ : ∃ cur', cur' = (cur.toList.take (a * sz + 0) ++ zs ++ cur.toList.drop (a * sz + 0 + zs.length)).toArray := ⟨_, rfl⟩
  rw [← hcur'] at hst
  have hs' : cur'.size = cur.size := by
    rw [hcur']; simp only [List.size_toArray, List.length_append, List.length_take, List.length_drop, Array.length_toList]; omega
  have hrun2 : (execOp act2.eval o2).run P w = .ok (.value (.tuple #[])) (w.setRow g cur') := by
    have hpos : l.length - a ≠ 0 := by omega
    obtain ⟨m, hm⟩ : ∃ m, l.length - a = m + 1 := ⟨l.length - a - 1, by omega⟩
    rw [hm] at hev hzs'
    have hzv : (zeroValue e).run P w = .ok z w := by simp [zeroValue, typeInfo, hzi, hzz]
    simp only [execOp, ho2, resolve, invoke, builtin, Sem.run_bind, Sem.run_pure, Result.andThen_ok, List.map_toArray, List.map_cons, List.map_nil, hev]
    simp [Builtin.clear_, run_underlying (sliceE_spec ht), hzv, ← hzs', hst]
  refine wpL_one hg2 ?_
  unfold Oper.wp
  rw [hrun2]
  show wpL n P ops _ rest (act2.put o2.dst (.tuple #[])) (w.setRow g cur')
  rw [hd2]
  have hsame : upd ι id (ι id) = ι := by funext i; unfold upd; split <;> simp_all
  have htr : TR n σ ι ((d, .undef) :: s) act2 := by rw [hact]; exact ht'.put (by simpa [Nat.blt_eq] using hdn) (.base _ _ (.undef _))
  have hlen : ((l.take a ++ List.replicate (l.length - a) d0).map f).length = l.length := by simp; omega
  have hfl : ((l.take a ++ List.replicate (l.length - a) d0).map f).flatten = ((l.map f).flatten).take (a * sz) ++ (List.replicate (l.length - a) (f d0)).flatten := by
    have : ∀ (xs : List (List AV)) (b : Nat), (∀ c ∈ xs, c.length = sz) → (xs.take b).flatten = xs.flatten.take (b * sz) := by
      intro xs
      induction xs with
      | nil => intro b _; simp
      | cons x xs ih =>
        intro b hs
        cases b with
        | zero => simp
        | succ b =>
          have hx1 := hs x List.mem_cons_self
          rw [List.take_succ_cons, List.flatten_cons, List.flatten_cons, ih b (fun c hc => hs c (List.mem_cons_of_mem _ hc)), List.take_append, List.take_of_length_le (l := x) (by rw [hx1, Nat.add_mul]; omega), hx1, show (b + 1) * sz - sz = b * sz by rw [Nat.add_mul]; omega]
    rw [List.map_append, List.flatten_append, List.map_take, this _ _ hsz, List.map_replicate]
  have hnew := hr.turn (id := id) (u := ι id) (h' := (id, .row e sz ((l.take a ++ List.replicate (l.length - a) d0).map f)) :: h) (c' := .row e sz ((l.take a ++ List.replicate (l.length - a) d0).map f)) (w' := w.setRow g cur')
    (fun i c hi hc => by rw [hget_cons, if_neg (fun e => hi e.symm)] at hc; exact ⟨hc, .inl rfl⟩) (by rw [hget_cons, if_pos rfl])
    ⟨hsz0, fun c hc => by
      obtain ⟨q, hq, rfl⟩ := List.mem_map.1 hc
      rcases List.mem_append.1 hq with hq | hq
      · exact hsz _ (List.mem_map_of_mem (List.mem_of_mem_take hq))
      · rw [List.eq_of_mem_replicate hq, ← hz0]; exact hz0l,
      cur'.toList.take (l.length * sz), by
        rw [hsame, hlen, h3, List.length_map]
        exact ⟨by rw [List.length_take, Array.length_toList (xs := cur')]; omega, .inr ⟨g, cap, cur', rfl, Nat.zero_le _, setRow_heap w g cur cur' e (0, 0) h4, h5, h6, by omega, rfl⟩⟩, by
      have hcl : cur.toList.length = cur.size := Array.length_toList (xs := cur)
      have e3 : cur'.toList.take (l.length * sz) = vs.take (a * sz) ++ zs := by
        rw [hcur', ← h8, List.toList_toArray, List.length_map, Nat.add_zero, List.take_take, show min (a * sz) (l.length * sz) = a * sz by omega]
        generalize cur.toList = cl at *
        have e4 : (cl.take (a * sz)).length = a * sz := by rw [List.length_take]; omega
        rw [List.take_append_of_le_length (by rw [List.length_append, e4]; omega), List.take_of_length_le (by rw [List.length_append, e4]; omega)]
      rw [e3, hfl]
      refine (hL.take _).append ?_
      have h9 := l2_drop_rep (z := f d0) (zs := z.cells.toList) (σ := σ) (hz0 ▸ hzL σ) (by rw [Array.length_toList (xs := z.cells)]; omega) (l.length - a)
      have e5 : zs = (List.range ((l.length - a) * z.cells.toList.length)).map fun j => ((z.cells.toList)[j % z.cells.toList.length]?).getD undef := by
        rw [hzs']
        simp only [Builtin.zeroCells, Array.toList_map, Array.toList_range, Array.length_toList (xs := z.cells)]
        apply List.map_congr_left
        intro j hj
        have hjs : j % z.cells.size < z.cells.size := Nat.mod_lt _ (by omega)
        rw [getElem!_pos z.cells _ hjs, Array.getElem?_toList, Array.getElem?_eq_getElem hjs, Option.getD_some]
      rw [e5]; exact h9⟩
    rfl rfl rfl (by simp) (fun k hk hne => setRow_other w g k _ fun e => hne _ hg (by rw [e, h3]; rfl))
    (fun g2 hg2 => .inl ⟨_, hg, hg2⟩) (.inr rfl)
  rw [hsame] at hnew
  exact hk.out E σ ι _ _ hnew htr⟩
/-- A row without elements that nobody names: room for what a call makes. -/
theorem turn_dummy {α : Type} (f : α → List AV) (id : Nat) (e : TypeId) (sz : Nat) (hsz : 0 < sz) (hf : freshAll id s h = true) : Turns n s h s ((id, .row e sz (([] : List α).map f)) :: h) := by
  intro E σ ι a w hr ht
  simp only [freshAll, Bool.and_eq_true, Nat.ble_eq] at hf
  refine ⟨σ, upd ι id (.slice none 0 0), ?_, ht.upd hf.1.1 hf.1.2 (.slice none 0 0)⟩
  refine hr.turn (c' := .row e sz []) ?_ (by rw [hget_cons, if_pos rfl]; rfl) ⟨hsz, by simp, [], by rw [upd_eq]; exact World.ownsRow_nil w 0 e sz, L2.nil _⟩ rfl rfl rfl (Nat.le_refl _) (fun _ _ _ => rfl) (fun g hg => by cases hg) (.inl hf.1.1)
  intro i c hi hc
  rw [hget_cons, if_neg (fun e => hi e.symm)] at hc
  exact ⟨hc, .inr (freshH_get hf.2 i c hc).2⟩
theorem turn_heap {h' : Heap} (hh : LeH h h') : Turns n s h s h' := Turns.le (LeS.refl s) hh
/-- nil is a list without elements. -/
theorem turn_nil (sz : Nat) {t : Nat} (hs : get s t = .nils) : Turns n s h ((t, .lst sz []) :: s) h := fun E σ ι a w hr ht => by
  refine ⟨σ, ι, hr, ht.size, ht.defers, fun u => ?_⟩
  rw [get_cons]
  split
  · rename_i e; subst e
    have h2 := ht.at_ t
    rw [hs] at h2
    generalize a.tmps.getD t undef = q at h2 ⊢
    cases h2 with
    | base _ _ h0 => cases h0 with | nils => exact .base _ _ (.empty _ _ _ (by simp))
  · exact ht.at_ u
theorem ok_indexE {α : Type} [Inhabited α] {l : List α} {f : α → List AV} {t e : TypeId} {x y : Operand} {sz : Nat} {ik : IntKind} {i : Nat} {z : α} (hz0 : l.getD i default = z) (ho : o.op = .indexAddr t x y) (hx : evA s x = .lst sz (l.map f))
    (hy : evA s y = .int ik i) (ht : sliceE P t = some e) (hz : sizeQ P e sz = true) (hi : i < l.length) : OkO P o s h (.ref (f z)) := hz0 ▸ ok_index ho ht hz hx hy hi
end
end Go.Proofs.Ytfjoaeghnfkdlaa
