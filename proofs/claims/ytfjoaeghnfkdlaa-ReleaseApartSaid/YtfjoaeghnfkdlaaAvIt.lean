/- Loops over functions: what comes up with each. No condition. -/
import Derived.Test.YtfjoaeghnfkdlaaAvVm
namespace Go.Proofs.Ytfjoaeghnfkdlaa
set_option linter.unusedSimpArgs false
set_option linter.unusedVariables false
set_option maxRecDepth 100000
set_option linter.unusedSimpArgs false
set_option linter.unusedVariables false
open Go.RowKit
def rfOf' : Code → Option (Array Tmp × Code × Code)
  | .rangeFunc _ ps a b => some (ps, a, b)
  | .seq x y => match rfOf' x with | some r => some r | none => rfOf' y
  | .block _ c | .loop c | .scope c => rfOf' c
  | .cond _ x y => match rfOf' x with | some r => some r | none => rfOf' y
  | _ => none
/-- The loop over a function in a text. -/
def rfOf (c : Option Code) : Option (Array Tmp × Code × Code) := c.elim none rfOf'
theorem rdy {r : Loop} (h1 : r.state = .ready) (h2 : r.pending = none) : { r with state := .ready, pending := none } = r := by cases r; simp_all
theorem wcode {P : Program} {n : Md} {Q : Exit → Slots → Heap → Prop} {s : Slots} {h : Heap} {c c' : Code} (e : c = c') (hw : W P n c Q s h) : W P n c' Q s h := e ▸ hw
section
variable {P : Program} {k : Nat} {Q : List Deferred → Exit → Slots → Heap → Prop} {ds : List Deferred} {s : Slots} {h : Heap} {next : List Deferred → Slots → Heap → Prop}
theorem vThenN (hq : next ds s h) : VThen next Q ds .normal s h := ⟨hq⟩
theorem vThenR (hq : Q ds .ret s h) : VThen next Q ds .ret s h := ⟨hq⟩
theorem vThenE {id : Nat} (hq : Q ds (.exit id) s h) : VThen next Q ds (.exit id) s h := ⟨hq⟩
theorem vInN {id : Nat} (hq : Q ds .normal s h) : VIn id Q ds .normal s h := ⟨hq⟩
theorem vInR {id : Nat} (hq : Q ds .ret s h) : VIn id Q ds .ret s h := ⟨hq⟩
theorem vInE {id : Nat} (hq : Q ds .normal s h) : VIn id Q ds (.exit id) s h := ⟨by simpa using hq⟩
theorem vInNe {id i : Nat} (hne : Nat.beq i id = false) (hq : Q ds (.exit i) s h) : VIn id Q ds (.exit i) s h := ⟨by show (bif Nat.beq i id then _ else _); rw [hne]; exact hq⟩
end
theorem v_mid {P : Program} {k : Nat} {Q : List Deferred → Exit → Slots → Heap → Prop} {ds : List Deferred} {s : Slots} {h : Heap} {α : Type} {x y : Code} (st : α → List Deferred × Slots × Heap) (hx : VW P k x (VThen (fun ds s h => ∃ a, ds = (st a).1 ∧ LeS s (st a).2.1 ∧ LeH h (st a).2.2) Q) ds s h)
    (hy : ∀ a, VW P k y Q (st a).1 (st a).2.1 (st a).2.2) : VW P k (.seq x y) Q ds s h :=
  v_seq ⟨fun E σ ι a w hr ht => Go.wpIn_mono (hx.out E σ ι a w hr ht) (by
    rintro e a' w' ⟨ds', s', h', σ', ι', q, r, t⟩
    refine ⟨ds', s', h', σ', ι', ⟨?_⟩, r, t⟩
    have q := q.out
    cases e with
    | normal => obtain ⟨a, rfl, h2, h3⟩ := q; exact v_le h2 h3 (hy a)
    | _ => exact q)⟩
theorem retv1 {P : Program} {rs : List ResultVar} {R : AV → Heap → Prop} {s : Slots} {h h0 : Heap} {id D : Nat} {v : AV} (hr : resA P s h0 rs = some v) (hid : hget h id = some (.sem (objC D (.deferred (some []))))) (hl : LeH h h0) (hn : hget h0 id = none) (hR : R v h0) : RetV P rs R [mark D] .ret s h :=
  ⟨v, s, h, h0, [(id, D)], fun _ => Turns.refl s h, rfl, by simp, fun p hp => by simp at hp; subst hp; exact hid, hl, fun p hp => by simp at hp; subst hp; exact hn, hr, hR⟩
theorem fnhp_mono {P : Program} {pins : List (Nat × Value)} {f : FuncId} {args : List AV} {hin : Heap} {R R' : AV → Heap → Prop} (hf : FnHp P pins f args hin R) (hR : ∀ v h, R v h → R' v h) : FnHp P pins f args hin R' :=
  ⟨hf.1, fun may pin σ ι w vs h1 h2 h3 => (hf.2 may pin σ ι w vs h1 h2 h3).mono (by
    rintro e w' ⟨u, r, h', σ', ι', rfl, q, g1, g2⟩
    exact ⟨u, r, h', σ', ι', rfl, hR r h' q, g1, g2⟩)⟩
theorem yf_le {P : Program} {l : Nat} {pins : List (Nat × Value)} {args : List AV} {hin : Heap} {R R' : Bool → Heap → Prop} (hy : YF P l pins args hin R') (hR : ∀ b h', R' b h' → ∃ h2, LeH h' h2 ∧ R b h2) : YF P l pins args hin R := by
  intro may pin σ ι w vs h1 h2 h3
  obtain ⟨fn, tmps, as_, body, e1, e2⟩ := hy may pin σ ι w vs h1 h2 h3
  refine ⟨fn, tmps, as_, body, e1, e2.mono ?_⟩
  rintro e w' ⟨b, h', σ', ι', rfl, q1, q2⟩
  obtain ⟨h2, q3, q4⟩ := hR b h' q1
  exact ⟨b, h2, σ', ι', rfl, q4, q2.le q3⟩
theorem retvT {P : Program} {rs : List ResultVar} {R : AV → Heap → Prop} {ds : List Deferred} {s s' : Slots} {h h' : Heap} (ht : ∀ n, Turns n s h s' h') (hk : RetV P rs R ds .ret s' h') : RetV P rs R ds .ret s h :=
  let ⟨v, s2, h2, h0, l, q1, q2, q3, q4, q5, q6, q7, q8⟩ := hk
  ⟨v, s2, h2, h0, l, fun n => (ht n).trans (q1 n), q2, q3, q4, q5, q6, q7, q8⟩
/-- What lies in a block is known no more. -/
theorem turn_undef {n : Md} {s : Slots} {h : Heap} {id : Nat} {ty : TypeId} {cs : List AV} (hg : hget h id = some (.blk ty cs)) : Turns n s h s ((id, .blk ty (cs.map fun _ => AV.undef)) :: h) := fun E σ ι a w hr ht => by
  obtain ⟨g, cur, e1, e2, e3⟩ := hr.ch id _ hg
  have hsame : upd ι id (ι id) = ι := by funext i; unfold upd; split <;> simp_all
  have hnew := hr.turn (id := id) (u := ι id) (h' := (id, .blk ty (cs.map fun _ => AV.undef)) :: h) (c' := .blk ty (cs.map fun _ => AV.undef)) (w' := w)
    (fun i c hi hc => by rw [hget_cons, if_neg (fun e => hi e.symm)] at hc; exact ⟨hc, .inl rfl⟩) (by rw [hget_cons, if_pos rfl])
    (by rw [hsame]; exact ⟨g, cur, e1, e2, by simpa using e3.1, fun j x y hx hy => by
      rw [List.getElem?_map] at hx
      cases hq : cs[j]? with
      | none => rw [hq] at hx; cases hx
      | some q => rw [hq] at hx; cases hx; exact .base _ _ (.undef _)⟩)
    rfl rfl rfl (Nat.le_refl _) (fun _ _ _ => rfl) (fun g hv => .inl ⟨_, hg, hv⟩) (.inr rfl)
  rw [hsame] at hnew
  exact ⟨σ, ι, hnew, ht⟩
end Go.Proofs.Ytfjoaeghnfkdlaa
