/- All of a row of the call's own as a slice; a list copied over a row. No condition. -/
import Derived.Test.YtffciebjpiljgaaAvLend
import Derived.Laws.IdiomCopy
import Derived.Laws.CopyRow
namespace Go.Proofs.Ytffciebjpiljgaa
set_option linter.unusedSimpArgs false
set_option linter.unusedVariables false
set_option maxRecDepth 100000
set_option linter.unusedSimpArgs false
set_option linter.unusedVariables false
set_option maxRecDepth 100000
open Go.RowKit
section
variable {P : Program} {n : Md} {Q : Exit → Slots → Heap → Prop} {s : Slots} {h : Heap} {ops : Array Oper} {rest : List Oper} {o : Oper}
theorem ok_slice_all {α : Type} {t e e' : TypeId} {x : Operand} {lo hi : Option Operand} {id sz : Nat} {l : List α} {f : α → List AV} (ho : o.op = .slice t x lo hi none) (ht : sliceE P t = some e) (hz : sizeQ P e sz = true) (hx : evA s x = .own id) (hg : hget h id = some (.row e' sz (l.map f)))
    (hlo : boundQ s lo 0 0) (hhi : boundQ s hi l.length l.length) : OkO P o s h (.own id) := by
  refine ok_of_run fun E σ ι act w hr hv => ?_
  have hX := hv x (by rw [ho]; simp [Op.operands])
  rw [hx] at hX
  have e1 := hX.own_inv
  obtain ⟨A, cap, e2, e3, e4⟩ := hr.rowForm hg
  rw [List.length_map] at e2 e3
  have rb : ∀ (v : Value) (k : IntKind) (m y : Nat) (c : BoundsCode), v = .int k m → m ≤ y → (Instr.sliceBound v y c).run P w = .ok m w := fun v k m y c hv hm => by
    have h4 : (0 : Int) ≤ (m : Int) ∧ (m : Int) ≤ (y : Int) := by omega
    simp only [Instr.sliceBound, hv, asIntOf, Sem.run_bind, Sem.run_pure, Result.andThen_ok, h4, and_self, if_true, Int.toNat_natCast]
  have rs : (Instr.sliceBounds true l.length cap (lo.map act.eval) (hi.map act.eval) none).run P w = .ok (0, l.length, cap) w := by
    have hlo' : ∀ y, lo = some y → ∃ k, act.eval y = .int k (0 : Nat) := fun y e => by
      subst e
      obtain ⟨k, hk⟩ := hlo
      have hY := hv y (by rw [ho]; simp [Op.operands])
      rw [hk] at hY
      exact ⟨k, hY.int_inv.1⟩
    have hhi' : ∀ y, hi = some y → ∃ k, act.eval y = .int k l.length := fun y e => by
      subst e
      obtain ⟨k, hk⟩ := hhi
      have hY := hv y (by rw [ho]; cases lo <;> simp [Op.operands])
      rw [hk] at hY
      exact ⟨k, hY.int_inv.1⟩
    unfold Instr.sliceBounds
    cases lo with
    | none =>
      cases hi with
      | none => simp
      | some z =>
        obtain ⟨k, hk⟩ := hhi' z rfl
        have r2 := fun c => rb (act.eval z) k l.length cap c hk (by omega)
        simp [r2]
    | some y =>
      obtain ⟨k, hk⟩ := hlo' y rfl
      have r1 := fun c => rb (act.eval y) k 0 l.length c hk (Nat.zero_le _)
      cases hi with
      | none => simp [r1]
      | some z =>
        obtain ⟨k', hk'⟩ := hhi' z rfl
        have r2 := fun c => rb (act.eval z) k' l.length cap c hk' (by omega)
        simp [r1, r2]
  have hadd : A.map (fun x => x.add 0) = A := by
    cases A with
    | none => rfl
    | some ad => simp [Addr.add]
  refine ⟨ι id, ?_, e1 ▸ hX⟩
  simp [execOp, ho, Instr.sliceAt, run_underlying (sliceE_spec ht), Instr.slice, e1, e2, rs, sizeQ_run hz, hadd]
theorem ao_cpy {α : Type} {t e : TypeId} {x y : Operand} {id : Nat} {l ys : List α} {f : α → List AV} (ho : o.op = .call { callee := .builtin .copy, args := #[x, y], argTypes := #[t, t] }) (hx : evA s x = .own id) (hy : evA s y = .lst 1 (ys.map f)) (hg : hget h id = some (.row e 1 (l.map f)))
    (ht : sliceE P t = some e) (hz : sizeQ P e 1 = true) (hlen : ys.length = l.length) (hf1 : ∀ z, (f z).length = 1) (hone : ∀ z, (f z).all oneQ = true) (hgd : o.guard = none) (hco : constsOk o = true) (hdo : dstOk n o.dst = true) (hmx : ys.length ≤ 1000000)
    (hk : O P n ops Q rest (putS s o.dst (.int .i64 ys.length)) ((id, .row e 1 (ys.map f)) :: h)) : O P n ops Q (o :: rest) s h := ⟨aops_one hgd fun E σ ι act w hr ht' => by
  have hX : VR σ ι (evA s x) (act.eval x) := evA_sound (List.all_eq_true.1 hco x (by rw [ho]; simp [Op.operands, Call.operands])) fun t _ => ht'.at_ t
  have hY : VR σ ι (evA s y) (act.eval y) := evA_sound (List.all_eq_true.1 hco y (by rw [ho]; simp [Op.operands, Call.operands])) fun t _ => ht'.at_ t
  rw [hx] at hX
  rw [hy] at hY
  obtain ⟨hsz0, hsz, vs, hown, hL⟩ := hr.ch id _ hg
  have e1 := hX.own_inv
  obtain ⟨A, capY, e2, e3, e4, e5⟩ := hY.lst_inv
  rw [List.length_map] at e2
  have hsame : upd ι id (ι id) = ι := by funext i; unfold upd; split <;> simp_all
  have hs1 : (P.info? e).map (·.size) = some 1 := by
    unfold sizeQ at hz
    cases hq : P.info? e with
    | none => rw [hq] at hz; cases hz
    | some i => rw [hq] at hz; exact congrArg some (Nat.eq_of_beq_eq_true hz)
  have hR : VR σ ι (.int .i64 ys.length) (goInt ys.length) := .base _ _ (.int _ _ (by simp only [rangeP]; omega))
  by_cases hnil : ys = []
  · have hl0 : l = [] := List.eq_nil_of_length_eq_zero (by rw [← hlen, hnil]; rfl)
    subst hnil; subst hl0
    obtain ⟨A0, cap0, e6, _, _⟩ := hr.rowForm hg
    have hrun : (execOp act.eval o).run P w = .ok (.value (goInt 0)) w := by
      have hc := run_copy_none (P := P) w t t o.type e A0 A 0 cap0 0 capY (sliceE_spec ht) hs1 rfl
      unfold execOp
      simp only [ho, resolve, invoke, builtin, Sem.run_bind, Sem.run_pure, Result.andThen_ok, List.map_toArray, List.map_cons, List.map_nil, e1, e2, e6, List.length_nil]
      simp [hc]
    unfold Oper.wp
    rw [hrun]
    have hnew := hr.turn (id := id) (u := ι id) (h' := (id, .row e 1 (([] : List α).map f)) :: h) (c' := .row e 1 (([] : List α).map f)) (w' := w)
      (fun i c hi hc => by rw [hget_cons, if_neg (fun e => hi e.symm)] at hc; exact ⟨hc, .inl rfl⟩) (by rw [hget_cons, if_pos rfl])
      (by rw [hsame]; exact hr.ch id _ hg) rfl rfl rfl (Nat.le_refl _) (fun k hk hne => rfl) (fun g2 hg2 => .inl ⟨_, hg, hg2⟩) (.inr rfl)
    rw [hsame] at hnew
    exact hk.out E σ ι _ _ hnew (ht'.putS hdo hR)
  rcases e5 with e5 | ⟨b, off, gY, rfl, h3', h4', h5'⟩
  · exact absurd (by simpa using e5) hnil
  have hfl : ((ys.map f).flatten).length = ys.length := by rw [flatten_length h3', List.length_map, Nat.mul_one]
  obtain ⟨ws, hws⟩ : ∃ ws : List Value, ws = (List.range ys.length).map gY := ⟨_, rfl⟩
  have hwl : ws.length = ys.length := by rw [hws]; simp
  have hwg : ∀ j u, ws[j]? = some u → j < ys.length ∧ u = gY j := fun j u hj => by
    have hjl : j < ys.length := by rw [← hwl]; exact (List.getElem?_eq_some_iff.1 hj).1
    refine ⟨hjl, ?_⟩
    rw [hws] at hj
    simpa [hjl] using hj.symm
  have hone' : ∀ u ∈ ws, u.oneCell' = true := fun u hu => by
    obtain ⟨j, hj⟩ := List.getElem?_of_mem hu
    obtain ⟨hjl, rfl⟩ := hwg j u hj
    have h6 : (ys.map f).flatten[j]? = some ((ys.map f).flatten[j]'(by omega)) := List.getElem?_eq_getElem (by omega)
    have h7 : (ys.map f).flatten[j]'(by omega) ∈ (ys.map f).flatten := List.getElem_mem _
    obtain ⟨c, hc, hc2⟩ := List.mem_flatten.1 h7
    obtain ⟨y0, hy0, rfl⟩ := List.mem_map.1 hc
    exact (VR.base (ι := ι) _ _ (h5' j _ h6)).one (List.all_eq_true.1 (hone y0) _ hc2)
  have hnews : ∀ j u, ws[j]? = some u → w.cell? ((⟨b, off, none⟩ : Addr).add j) = some u := fun j u hj => by
    obtain ⟨hjl, rfl⟩ := hwg j u hj
    rw [Go.WideShapes.add_plain]
    exact hr.sub _ _ (h4' j _ (List.getElem?_eq_getElem (by omega)))
  have hypos : 0 < ys.length := List.length_pos_iff.2 hnil
  rcases hown.2 with ⟨h3, h4⟩ | ⟨g, cap, cur, h3, _, h4, h5, h6, h7, h8⟩
  · rw [List.length_map] at h4; omega
  rw [List.length_map] at h3 h5
  have hc := run_copy_row (P := P) w t t o.type e g 0 l.length cap ⟨b, off, none⟩ ys.length capY cur e ws (sliceE_spec ht) hs1 h4 (by rw [hwl, hlen]; simp) hnews (by rw [hwl]; omega) hone'
  obtain ⟨cur', hcur'⟩ : ∃ cur', cur' = (cur.toList.take 0 ++ ws ++ cur.toList.drop (0 + ws.length)).toArray := ⟨_, rfl⟩
  rw [← hcur'] at hc
  have hs' : cur'.size = cur.size := by
    have hcl : cur.toList.length = cur.size := Array.length_toList (xs := cur)
    rw [hcur']; simp only [List.size_toArray, List.length_append, List.length_take, List.length_drop, hcl]; omega
  have hrun : (execOp act.eval o).run P w = .ok (.value (goInt ys.length)) (w.setRow g cur') := by
    unfold execOp
    simp only [ho, resolve, invoke, builtin, Sem.run_bind, Sem.run_pure, Result.andThen_ok, List.map_toArray, List.map_cons, List.map_nil, e1, e2, h3]
    rw [hwl] at hc
    simp [hc]
  unfold Oper.wp
  rw [hrun]
  have htk : cur'.toList.take (ys.length * 1) = ws := by
    rw [hcur', List.toList_toArray, List.take_zero, List.nil_append, Nat.mul_one, ← hwl, List.take_append_of_le_length (Nat.le_refl _), List.take_length]
  have hnew := hr.turn (id := id) (u := ι id) (h' := (id, .row e 1 (ys.map f)) :: h) (c' := .row e 1 (ys.map f)) (w' := w.setRow g cur')
    (fun i c hi hc => by rw [hget_cons, if_neg (fun e => hi e.symm)] at hc; exact ⟨hc, .inl rfl⟩) (by rw [hget_cons, if_pos rfl])
    ⟨Nat.succ_pos _, fun c hc => by
      obtain ⟨q, hq, rfl⟩ := List.mem_map.1 hc
      exact hf1 q, ws, by
        rw [hsame, h3, List.length_map, hlen]
        exact ⟨by rw [hwl, hlen, Nat.mul_one], .inr ⟨g, cap, cur', rfl, Nat.zero_le _, setRow_heap w g cur cur' e (0, 0) h4, h5, h6, by rw [hs', h7], by rw [← hlen]; exact htk⟩⟩, ⟨by rw [hfl, hwl], fun j x u hx hu => by
      obtain ⟨hjl, rfl⟩ := hwg j u hu
      exact h5' j x hx⟩⟩
    rfl rfl rfl (by simp) (fun k hk hne => setRow_other w g k _ fun e => hne _ hg (by rw [e, h3]; rfl))
    (fun g2 hg2 => .inl ⟨_, hg, hg2⟩) (.inr rfl)
  rw [hsame] at hnew
  exact hk.out E σ ι _ _ hnew (ht'.putS hdo hR)⟩
end
end Go.Proofs.Ytffciebjpiljgaa
