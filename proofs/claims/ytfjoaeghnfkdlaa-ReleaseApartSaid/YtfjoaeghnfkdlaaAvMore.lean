/- Rows of the call's own: an element is stored, a row is cut short, its tail is cleared; functions that turn nothing may look at what is the call's own. No condition. -/
import Derived.Test.YtfjoaeghnfkdlaaAvFnH
namespace Go.Proofs.Ytfjoaeghnfkdlaa
set_option linter.unusedSimpArgs false
set_option linter.unusedVariables false
set_option maxRecDepth 100000
set_option linter.unusedVariables false
set_option linter.unusedSimpArgs false
open Go.RowKit
section
variable {P : Program} {n : Md} {Q : Exit → Slots → Heap → Prop} {s : Slots} {h : Heap} {ops : Array Oper} {rest : List Oper} {o : Oper} {K : Slots → Prop}
theorem flatten_set {β : Type} {sz : Nat} : ∀ {xs : List (List β)} {i j : Nat} {c ws : List β}, (∀ c ∈ xs, c.length = sz) → xs[i]? = some c → j + ws.length ≤ sz →
    (xs.set i (c.take j ++ ws ++ c.drop (j + ws.length))).flatten = xs.flatten.take (i * sz + j) ++ ws ++ xs.flatten.drop (i * sz + j + ws.length)
  | [], i, j, c, ws, _, hi, _ => by simp at hi
  | x :: xs, 0, j, c, ws, hsz, hi, hl => by
    simp at hi; subst hi
    have h1 : x.length = sz := hsz x (by simp)
    simp only [List.set_cons_zero, List.flatten_cons, Nat.zero_mul, Nat.zero_add]
    rw [List.take_append_of_le_length (by omega), List.drop_append_of_le_length (by omega)]
    simp
  | x :: xs, i + 1, j, c, ws, hsz, hi, hl => by
    have h1 : x.length = sz := hsz x (by simp)
    have ih := flatten_set (xs := xs) (i := i) (j := j) (c := c) (ws := ws) (fun c hc => hsz c (by simp [hc])) (by simpa using hi) hl
    simp only [List.set_cons_succ, List.flatten_cons, ih]
    have e1 : (i + 1) * sz + j = x.length + (i * sz + j) := by rw [h1, Nat.add_mul]; omega
    have e2 : (i + 1) * sz + j + ws.length = x.length + (i * sz + j + ws.length) := by rw [h1, Nat.add_mul]; omega
    have t1 : ∀ (k : Nat) (r : List β), (x ++ r).take (x.length + k) = x ++ r.take k := fun k r => by rw [List.take_append, List.take_of_length_le (by omega), Nat.add_sub_cancel_left]
    have t2 : ∀ (k : Nat) (r : List β), (x ++ r).drop (x.length + k) = r.drop k := fun k r => by rw [List.drop_append, List.drop_of_length_le (by omega), Nat.add_sub_cancel_left, List.nil_append]
    rw [e2, e1, t1, t2, List.append_assoc, List.append_assoc, List.append_assoc]
theorem a1_storeE {α : Type} [Inhabited α] {t e' : TypeId} {x y : Operand} {id sz i j : Nat} {l : List α} {f : α → List AV} {v : AV} (x' : α) (ho : o.op = .store t x y) (hx : evA s x = .eptr id sz i j)
    (hg : hget h id = some (.row e' sz (l.map f))) (hv : evA s y = v) (hq : celQ v = true) (hp : pureL (celA v) = true) (hz : sizeQ P t (celA v).length = true) (hl : j + (celA v).length ≤ sz) (hx' : f x' = spl (f (l.getD i default)) j (celA v))
    (hi : i < l.length) (hco : constsOk o = true) (hd : o.dst = none) (hk : AOps P n ops Q rest s ((id, .row e' sz ((l.set i x').map f)) :: h)) : A1 P n ops Q o rest s h := fun E σ ι a w hr ht => by
  subst hv
  have hX : VR σ ι (evA s x) (a.eval x) := evA_sound (List.all_eq_true.1 hco x (by rw [ho]; simp [Op.operands])) fun t _ => ht.at_ t
  have hY : VR σ ι (evA s y) (a.eval y) := evA_sound (List.all_eq_true.1 hco y (by rw [ho]; simp [Op.operands])) fun t _ => ht.at_ t
  rw [hx] at hX
  obtain ⟨g, h1, h2⟩ := hX.eptr_inv
  obtain ⟨hsz0, hsz, vs, hown, hL2⟩ := hr.ch id _ hg
  rcases hown.2 with ⟨h3, _⟩ | ⟨g', cap, cur, h3, _, h4, h5, h6, h7, h8⟩
  · rw [h3] at h1; cases h1
  rw [h3] at h1
  simp only [footOf, Option.some.injEq] at h1
  subst h1
  obtain ⟨hL, hone⟩ := hY.cel hq
  have hlen : (a.eval y).cells.size = (celA (evA s y)).length := by rw [← Array.length_toList]; exact hL.1.symm
  have hil : i < (l.map f).length := by simpa using hi
  have hbound : i * sz + j + (a.eval y).cells.size ≤ (l.map f).length * sz := by
    have : (i + 1) * sz ≤ (l.map f).length * sz := Nat.mul_le_mul_right _ hil
    rw [Nat.add_mul] at this; omega
  have hcap : (l.map f).length * sz ≤ cap * sz := Nat.mul_le_mul_right _ h5
  have hrun := run_store_at (P := P) (t := t) (off := i * sz + j) (v := a.eval y) h4 (by rw [hlen]; exact hz) (by omega) hone
  obtain ⟨cur', hcur'⟩ : ∃ cur', cur' = (cur.toList.take (i * sz + j) ++ (a.eval y).cells.toList ++ cur.toList.drop (i * sz + j + (a.eval y).cells.size)).toArray := ⟨_, rfl⟩
  rw [← hcur'] at hrun
  have hs' : cur'.size = cur.size := by
    rw [hcur']; simp only [List.size_toArray, List.length_append, List.length_take, List.length_drop, Array.length_toList]; omega
  have htk : cur'.toList.take ((l.map f).length * sz) = vs.take (i * sz + j) ++ (a.eval y).cells.toList ++ vs.drop (i * sz + j + (a.eval y).cells.toList.length) := by
    obtain ⟨N, hN⟩ : ∃ N, N = (l.map f).length * sz := ⟨_, rfl⟩
    obtain ⟨us, hus⟩ : ∃ us, us = (a.eval y).cells.toList := ⟨_, rfl⟩
    have hul : us.length = (a.eval y).cells.size := by rw [hus, Array.length_toList (xs := (a.eval y).cells)]
    rw [hcur', ← h8, ← hN, ← hus, ← hul]
    rw [← hN] at hbound hcap
    rw [← hul] at hbound
    have hcl : cur.toList.length = cur.size := Array.length_toList (xs := cur)
    generalize cur.toList = cl at *
    rw [List.toList_toArray, List.take_take, List.take_append, List.take_append, List.drop_take, show min (i * sz + j) N = i * sz + j by omega]
    have e2 : (List.take (i * sz + j) cl).length = i * sz + j := by rw [List.length_take]; omega
    rw [List.length_append, e2, List.take_of_length_le (l := us) (by omega), List.take_take, show min N (i * sz + j) = i * sz + j by omega]
  unfold Oper.wp
  have hrun' : (execOp a.eval o).run P w = .ok .skip (w.setRow g' cur') := by
    simp only [execOp, ho, h2, Instr.storeAt, Instr.sureAddr, Sem.run_bind, Sem.run_pure, Result.andThen_ok, hrun]
  rw [hrun', Oper.upon_skip, hd]
  have hsame : upd ι id (ι id) = ι := by funext i; unfold upd; split <;> simp_all
  have hget' : l.getD i default = l[i] := by simp [hi]
  have hfi : (l.map f)[i]? = some (f (l.getD i default)) := by simp [hi]
  have hci : (f (l.getD i default)).length = sz := hsz _ (List.mem_of_getElem? hfi)
  have hxs : (l.set i x').map f = (l.map f).set i ((f (l.getD i default)).take j ++ celA (evA s y) ++ (f (l.getD i default)).drop (j + (celA (evA s y)).length)) := by
    rw [List.map_set, hx', spl_eq _ _ _ (by omega)]
  have hnew := hr.turn (id := id) (u := ι id) (h' := (id, .row e' sz ((l.set i x').map f)) :: h) (c' := .row e' sz ((l.set i x').map f)) (w' := w.setRow g' cur')
    (fun i c hi hc => by rw [hget_cons, if_neg (fun e => hi e.symm)] at hc; exact ⟨hc, .inl rfl⟩) (by rw [hget_cons, if_pos rfl])
    ⟨hsz0, fun c hc => by
      rw [hxs] at hc
      rcases List.mem_or_eq_of_mem_set hc with hc | rfl
      · exact hsz c hc
      · simp only [List.length_append, List.length_take, List.length_drop]; omega,
      cur'.toList.take ((l.map f).length * sz), by
        rw [hsame, show ((l.set i x').map f).length = (l.map f).length by simp]
        refine ⟨by rw [List.length_take, Array.length_toList (xs := cur')]; omega, .inr ⟨g', cap, cur', h3, Nat.zero_le _, setRow_heap w g' cur cur' e' (0, 0) h4, h5, h6, by omega, rfl⟩⟩, by
      rw [htk, hxs, flatten_set hsz hfi hl]
      rw [show (a.eval y).cells.toList.length = (celA (evA s y)).length by rw [Array.length_toList, hlen]]
      exact ((hL2.take _).append (l2_pure hL hp)).append (hL2.drop _)⟩
    rfl rfl rfl (by simp) (fun k hk hne => setRow_other w g' k _ fun e => hne _ hg (by rw [e, h3]; rfl))
    (fun g2 hg2 => .inl ⟨_, hg, hg2⟩) (.inr rfl)
  rw [hsame] at hnew
  exact hk E σ ι _ _ hnew ht
theorem ao_se {α : Type} [Inhabited α] {t e' : TypeId} {x y : Operand} {id sz i j : Nat} {l : List α} {f : α → List AV} {v : AV} {x' : α} (ho : o.op = .store t x y) (hx : evA s x = .eptr id sz i j)
    (hg : hget h id = some (.row e' sz (l.map f))) (hv : evA s y = v) (hq : celQ v = true) (hp : pureL (celA v) = true) (hz : sizeQ P t (celA v).length = true) (hl : Nat.ble (j + (celA v).length) sz = true) (hx' : f x' = spl (f (l.getD i default)) j (celA v))
    (hi : i < l.length) (hgd : o.guard = none) (hco : constsOk o = true) (hd : o.dst = none) (hk : O P n ops Q rest s ((id, .row e' sz ((l.set i x').map f)) :: h)) : O P n ops Q (o :: rest) s h :=
  ⟨aops_one hgd (a1_storeE x' ho hx hg hv hq hp hz (Nat.ble_eq ▸ hl) hx' hi hco hd hk.out)⟩
/-! ## A row of the call's own is cut short -/
theorem a1_cut {α : Type} {t e : TypeId} {x y : Operand} {id sz b : Nat} {k : IntKind} {l : List α} {f : α → List AV} (ho : o.op = .slice t x none (some y) none) (ht : sliceE P t = some e) (hz : sizeQ P e sz = true) (hx : evA s x = .own id)
    (hg : hget h id = some (.row e sz (l.map f))) (hy : evA s y = .int k b) (hb : b ≤ l.length) (h5 : Nat.ble 5 id = true) (hlo : loneH id h = true) (hco : constsOk o = true) (hd : dstOk n o.dst = true)
    (hk : AOps P n ops Q rest (putS (killS id s) o.dst (.own id)) ((id, .row e sz ((l.take b).map f)) :: h)) : A1 P n ops Q o rest s h := fun E σ ι a w hr ht' => by
  have hX : VR σ ι (evA s x) (a.eval x) := evA_sound (List.all_eq_true.1 hco x (by rw [ho]; simp [Op.operands])) fun t _ => ht'.at_ t
  have hY : VR σ ι (evA s y) (a.eval y) := evA_sound (List.all_eq_true.1 hco y (by rw [ho]; simp [Op.operands])) fun t _ => ht'.at_ t
  rw [hx] at hX
  rw [hy] at hY
  obtain ⟨hsz0, hsz, vs, hown, hL⟩ := hr.ch id _ hg
  have e1 := hX.own_inv
  obtain ⟨A, cap, e2, e3, e4⟩ := hr.rowForm hg
  have hle : b ≤ cap := by rw [List.length_map] at e3; omega
  have rb : ∀ c, (Instr.sliceBound (a.eval y) cap c).run P w = .ok b w := fun c => by
    have h4 : (0 : Int) ≤ (b : Int) ∧ (b : Int) ≤ (cap : Int) := by omega
    simp only [Instr.sliceBound, hY.int_inv.1, asIntOf, Sem.run_bind, Sem.run_pure, Result.andThen_ok, h4, and_self, if_true, Int.toNat_natCast]
  have hrun : (execOp a.eval o).run P w = .ok (.value (.slice A b cap)) w := by
    have hadd : A.map (fun x => x.add 0) = A := by
      cases A with
      | none => rfl
      | some ad => simp [Addr.add]
    simp [execOp, ho, Instr.sliceAt, run_underlying (sliceE_spec ht), Instr.slice, e1, e2, Instr.sliceBounds, rb, sizeQ_run hz, hadd]
  have hnew := hr.turn (id := id) (u := .slice A b cap) (h' := (id, .row e sz ((l.take b).map f)) :: h) (c' := .row e sz ((l.take b).map f)) (w' := w)
    (fun i c hi hc => by
      rw [hget_cons, if_neg (fun e => hi e.symm)] at hc
      exact ⟨hc, .inr (loneH_get hlo i c hc)⟩)
    (by rw [hget_cons, if_pos rfl])
    ⟨hsz0, fun c hc => by
      obtain ⟨q, hq, rfl⟩ := List.mem_map.1 hc
      exact hsz _ (List.mem_map_of_mem (List.mem_of_mem_take hq)), vs.take (b * sz), by
        rw [upd_eq]
        have hlen : ((l.take b).map f).length = b := by simp; omega
        have hbb : b * sz ≤ l.length * sz := Nat.mul_le_mul_right _ hb
        have hvl := hown.1
        rw [List.length_map] at hvl
        rw [hlen]
        refine ⟨by rw [List.length_take]; omega, ?_⟩
        rcases hown.2 with ⟨h1, h2⟩ | ⟨g, cap', cur, h1, _, h3, h4, h5', h6, h7⟩
        · rw [h1] at e2
          injection e2 with q1 q2 q3
          rw [List.length_map] at h2
          exact .inl ⟨by rw [← q1, ← q3, show b = 0 by omega], by omega⟩
        · rw [h1] at e2
          injection e2 with q1 q2 q3
          subst q1; subst q3
          refine .inr ⟨g, cap', cur, rfl, Nat.zero_le _, h3, hle, h5', h6, ?_⟩
          rw [← h7, List.take_take]
          rw [List.length_map]
          congr 1; omega, by
        have := hL.take (b * sz)
        rw [show (l.take b).map f = (l.map f).take b by rw [List.map_take]]
        rwa [show ((l.map f).take b).flatten = (l.map f).flatten.take (b * sz) from ?_]
        have : ∀ (xs : List (List AV)) (b : Nat), (∀ c ∈ xs, c.length = sz) → (xs.take b).flatten = xs.flatten.take (b * sz) := by
          intro xs
          induction xs with
          | nil => intro b _; simp
          | cons x xs ih =>
            intro b hs
            cases b with
            | zero => simp
            | succ b =>
              have hx1 := hs x List.mem_cons_self
              rw [List.take_succ_cons, List.flatten_cons, List.flatten_cons, ih b (fun c hc => hs c (List.mem_cons_of_mem _ hc)), List.take_append, List.take_of_length_le (l := x) (by rw [hx1, Nat.add_mul]; omega), hx1, show (b + 1) * sz - sz = b * sz by rw [Nat.add_mul]; omega]
        exact this _ _ hsz⟩
    rfl rfl rfl (Nat.le_refl _) (fun _ _ _ => rfl)
    (fun g hv => .inl ⟨_, hg, by rw [e2]; cases A <;> exact hv⟩) (.inl (Nat.ble_eq ▸ h5))
  unfold Oper.wp
  rw [hrun]
  refine hk E σ _ _ _ hnew ((ht'.kill id (Nat.ble_eq ▸ h5) _).putS hd ?_)
  have h2 := VR.own (σ := σ) (ι := upd ι id (.slice A b cap)) id (by rw [upd_eq]; cases A <;> rfl)
  rwa [upd_eq] at h2
theorem ao_cut {α : Type} {t e : TypeId} {x y : Operand} {id sz b : Nat} {k : IntKind} {l : List α} {f : α → List AV} (ho : o.op = .slice t x none (some y) none) (hx : evA s x = .own id)
    (hg : hget h id = some (.row e sz (l.map f))) (ht : sliceE P t = some e) (hz : sizeQ P e sz = true) (hy : evA s y = .int k b) (hb : b ≤ l.length) (h5 : Nat.ble 5 id = true) (hlo : loneH id h = true) (hgd : o.guard = none) (hco : constsOk o = true) (hd : dstOk n o.dst = true)
    (hk : O P n ops Q rest (putS (killS id s) o.dst (.own id)) ((id, .row e sz ((l.take b).map f)) :: h)) : O P n ops Q (o :: rest) s h := ⟨aops_one hgd (a1_cut ho ht hz hx hg hy hb h5 hlo hco hd hk.out)⟩
end
end Go.Proofs.Ytfjoaeghnfkdlaa
