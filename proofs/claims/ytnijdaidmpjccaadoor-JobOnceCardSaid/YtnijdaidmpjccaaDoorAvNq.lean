/- A slice held against nil. No condition. -/
import Derived.Test.YtnijdaidmpjccaaDoorAvTl
import Derived.Test.YtnijdaidmpjccaaDoorAvDrC
import Derived.Lib.SliceRun
namespace Go.Proofs.YtnijdaidmpjccaaDoor
set_option linter.unusedSimpArgs false
set_option linter.unusedVariables false
set_option maxRecDepth 100000
set_option linter.unusedVariables false
set_option linter.unusedSimpArgs false
open Go.RowKit
section
variable {P : Program} {n : Md} {Q : Exit → Slots → Heap → Prop} {s : Slots} {h : Heap} {ops : Array Oper} {rest : List Oper} {o : Oper}
/-- Whether a list is nil is told by nothing; if it is, it has no elements. -/
theorem ao_nilq {sz : Nat} {xs : List (List AV)} {t e t' : TypeId} {x y : Operand} (ho : o.op = .binOp .eql t x y t') (ht : sliceE P t = some e) (hx : evA s x = .lst sz xs) (hy : evA s y = .nils) (hgd : o.guard = none) (hco : constsOk o = true) (hdo : dstOk n o.dst = true)
    (hk : ∀ b : Bool, (b = true → xs = []) → O P n ops Q rest (putS s o.dst (.bool b)) h) : O P n ops Q (o :: rest) s h := ⟨aops_one hgd fun E σ ι a w hr htr => by
  have hv : ∀ z ∈ o.op.operands.toList, VR σ ι (evA s z) (a.eval z) := fun z hz => evA_sound (List.all_eq_true.1 hco z hz) fun t _ => htr.at_ t
  have hX := hv x (by rw [ho]; simp [Op.operands])
  have hY := hv y (by rw [ho]; simp [Op.operands])
  rw [hx] at hX
  rw [hy] at hY
  have e2 : a.eval y = .slice none 0 0 := by
    generalize a.eval y = q at hY
    cases hY with
    | base _ _ h0 => cases h0; rfl
  obtain ⟨A, cap, e1, _, _, h4⟩ := hX.lst_inv
  have hrun : (execOp a.eval o).run P w = .ok (.value (.bool A.isNone)) w := by
    have h5 := Lib.run_eql_slice_nil (P := P) w t e A xs.length cap 0 0 (sliceE_spec ht)
    simp only [execOp, ho, e1, e2]
    simp [eqGuard, h5]
  unfold Oper.wp
  rw [hrun]
  have hb : A.isNone = true → xs = [] := fun hA => by
    rcases h4 with h4 | ⟨b, off, g, rfl, _⟩
    · exact h4
    · cases hA
  exact (hk _ hb).out E σ ι _ w hr (htr.putS hdo (.base _ _ (.bool _)))⟩
def arrE (P : Program) (t : TypeId) : Option (Nat × TypeId) := match P.underlying t with | some (.array n e) => some (n, e) | _ => none
theorem arrE_spec {t e : TypeId} {m : Nat} (h : arrE P t = some (m, e)) : P.underlying t = some (.array m e) := by
  unfold arrE at h
  split at h
  · cases h; assumption
  · cases h
/-- A place in an array that nothing turns. -/
theorem ok_index_arr {t e : TypeId} {x y : Operand} {len sz : Nat} {ik : IntKind} {z : Int} {cs : List AV} (i : Nat) (ho : o.op = .indexAddr t x y) (ht : arrE P t = some (len, e)) (hz : sizeQ P e sz = true) (hx : evA s x = .ref cs) (hy : evA s y = .int ik z) (hzi : z = (i : Int)) (hi : Nat.blt i len = true) : OkO P o s h (.ref (cs.drop (i * sz))) := by
  subst hzi
  refine ok_of_run fun E σ ι a w hr hv => ?_
  have hX := hv x (by rw [ho]; simp [Op.operands])
  have hY := hv y (by rw [ho]; simp [Op.operands])
  rw [hx] at hX
  rw [hy] at hY
  have hi' : i < len := by simpa [Nat.blt_eq] using hi
  have h9 : (0 : Int) ≤ (i : Int) ∧ (i : Int) < (len : Int) := by omega
  cases hX with
  | base _ _ h0 =>
    generalize hq : a.eval x = q at h0
    cases h0 with
    | ref _ b off g h4 h5 =>
      refine ⟨.pointer (some ⟨b, off + i * sz, none⟩), ?_, .base _ _ (.ref _ b _ (fun j => g (i * sz + j)) (fun j c hc => ?_) fun j c hc => h5 _ c (by simpa using hc))⟩
      · simp only [execOp, ho, hq, hY.int_inv.1, Instr.indexAt, Instr.sureAddr, asIntOf, Sem.run_bind, Sem.run_pure, Result.andThen_ok, run_underlying (arrE_spec ht), h9, and_self, if_true, sizeQ_run hz, Int.toNat_natCast, Go.WideShapes.add_plain]
      · rw [Nat.add_assoc]; exact h4 _ c (by simpa using hc)
/-- A nil slice in a variable's block is a row of the call's own without elements. -/
theorem turn_ownB {α : Type} (f : α → List AV) {b : Nat} {ty : TypeId} (hg : hget h b = some (.blk ty [.nils])) (id : Nat) (e : TypeId) (sz : Nat) (hsz : 0 < sz) (hf : freshAll id s h = true) : Turns n s h s ((b, .blk ty [.own id]) :: (id, .row e sz (([] : List α).map f)) :: h) := by
  intro E σ ι a w hr ht
  simp only [freshAll, Bool.and_eq_true, Nat.ble_eq] at hf
  have hbi : b ≠ id := (freshH_get hf.2 b _ hg).1
  have r1 : Rel E σ (upd ι id (.slice none 0 0)) ((id, .row e sz (([] : List α).map f)) :: h) w := by
    refine hr.turn (c' := .row e sz []) ?_ (by rw [hget_cons, if_pos rfl]; rfl) ⟨hsz, by simp, [], by rw [upd_eq]; exact World.ownsRow_nil w 0 e sz, L2.nil _⟩ rfl rfl rfl (Nat.le_refl _) (fun _ _ _ => rfl) (fun g hg => by cases hg) (.inl hf.1.1)
    intro i c hi hc
    rw [hget_cons, if_neg (fun e => hi e.symm)] at hc
    exact ⟨hc, .inr (freshH_get hf.2 i c hc).2⟩
  have t1 := ht.upd hf.1.1 hf.1.2 (.slice none 0 0)
  have hown : VR σ (upd ι id (.slice none 0 0)) (.own id) (.slice none 0 0) := by
    have h4 := VR.own (σ := σ) (ι := upd ι id (.slice none 0 0)) id (by rw [upd_eq]; rfl)
    rwa [upd_eq] at h4
  generalize upd ι id (.slice none 0 0) = ι1 at *
  have hgb : hget ((id, .row e sz (([] : List α).map f)) :: h) b = some (.blk ty [.nils]) := by rw [hget_cons, if_neg (fun e => hbi e.symm)]; exact hg
  obtain ⟨g, cur, e1, e2, e3⟩ := r1.ch b _ hgb
  have hsame : upd ι1 b (ι1 b) = ι1 := by funext i; unfold upd; split <;> simp_all
  have hnew := r1.turn (id := b) (u := ι1 b) (h' := (b, .blk ty [.own id]) :: (id, .row e sz (([] : List α).map f)) :: h) (c' := .blk ty [.own id]) (w' := w)
    (fun i c hi hc => by rw [hget_cons, if_neg (fun e => hi e.symm)] at hc; exact ⟨hc, .inl rfl⟩) (by rw [hget_cons, if_pos rfl])
    (by rw [hsame]; exact ⟨g, cur, e1, e2, by simpa using e3.1, fun j x y hx hy => by
      cases j with
      | zero =>
        have h5 := e3.2 0 .nils y rfl hy
        cases hx
        have h6 : y = .slice none 0 0 := by
          cases h5 with
          | base _ _ h0 => cases h0; rfl
        rw [h6]; exact hown
      | succ j => simp at hx⟩)
    rfl rfl rfl (Nat.le_refl _) (fun _ _ _ => rfl) (fun g hv => .inl ⟨_, hgb, hv⟩) (.inr rfl)
  rw [hsame] at hnew
  exact ⟨σ, ι1, hnew, t1⟩
end
end Go.Proofs.YtnijdaidmpjccaaDoor
