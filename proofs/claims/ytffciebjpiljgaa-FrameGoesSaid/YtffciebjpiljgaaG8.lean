/- The struct Span: its cells, and how they are read; no condition. -/
import Derived.Test.YtffciebjpiljgaaG7
import Derived.WalkKit
import Derived.Test.YtffciebjpiljgaaG6
namespace Go.Proofs.Ytffciebjpiljgaa
set_option linter.unusedSimpArgs false
set_option linter.unusedVariables false
set_option maxRecDepth 100000
open Go.RowKit Go.ChangeShapes Go.WideShapes

structure Span where
  frm : Int
  to : Int
instance : Inhabited Span := ⟨⟨0, 0⟩⟩
theorem Span.ext_ {x y : Span} (h : x.frm = y.frm ∧ x.to = y.to) : x = y := by cases x; cases y; simp_all
instance : DecidableEq Span := fun x y => decidable_of_iff (x.frm = y.frm ∧ x.to = y.to) ⟨Span.ext_, fun h => by subst h; simp⟩
def Span.cells (x : Span) : List Value := [.int .i64 x.frm, .int .i64 x.to]
def Span.ok (x : Span) : Prop := (Lit.int .i64 x.frm).wf = true ∧ (Lit.int .i64 x.to).wf = true
def Span.cod : Cod Span := fun _ cs x => cs = x.cells ∧ x.ok
theorem Span.mono : Mono Span.cod := fun _ _ _ _ _ h => h
theorem Span.size {w : World} {cs : List Value} {x : Span} (h : Span.cod w cs x) : cs.length = 2 := by rw [h.1]; rfl
/-- The cells of an element. -/
theorem Span.at {w : World} {b off : Nat} {xs : List Span} (h : Row' Span.cod 2 w b off xs) (i : Nat) (hi : i < xs.length) :
    w.cell? ⟨b, off + i * 2, none⟩ = some (.int .i64 xs[i].frm) ∧ w.cell? ⟨b, off + i * 2 + 1, none⟩ = some (.int .i64 xs[i].to) ∧ xs[i].ok := by
  obtain ⟨cs, hx, _, hc⟩ := h i xs[i] (List.getElem?_eq_getElem hi)
  obtain ⟨rfl, hk⟩ := hx
  exact ⟨hc 0 _ rfl, hc 1 _ rfl, hk⟩
/-- From the row's reading. -/
theorem Span.opens : Opens Try.prog 84 Span.cod := by
  intro H enc w base spare held fuel cs x h
  obtain ⟨xs, n, _, _, hlen, hxl, hf⟩ := DataW.trod_struct Try.underlying84 h
  have hxl' : xs.length = 2 := hxl
  have hl' : cs.length = 2 := hlen.trans (by kernel_rfl)
  have f0 := (hf 0 _ rfl).trans (List.getElem?_eq_getElem (show 0 < xs.length by omega))
  obtain ⟨v0, e0, _, w0⟩ := DataW.trod_int Try.underlying3 f0
  have g0 := takeHead e0
  have f1 := (hf 1 _ rfl).trans (List.getElem?_eq_getElem (show 1 < xs.length by omega))
  obtain ⟨v1, e1, _, w1⟩ := DataW.trod_int Try.underlying3 f1
  have g1 := takeHead e1
  refine ⟨⟨v0, v1⟩, ?_, ⟨w0, w1⟩⟩
  refine list_of_cells [.int .i64 v0, .int .i64 v1] hl' fun i hi => ?_
  have hi' : i < 2 := hi
  match i, hi' with
  | 0, _ => exact g0
  | 1, _ => exact g1
/-- Two of them, held against each other. -/
theorem Span.run_eqIn (x y : Span) (w : World) : (Op.equalIn 10000 84 (.agg #[.int .i64 x.frm, .int .i64 x.to]) (.agg #[.int .i64 y.frm, .int .i64 y.to])).run Try.prog w = .ok (decide (x = y)) w := by
  have hs : Try.prog.stoodInHeld 84 = false := by kernel_rfl
  rw [run_equalIn_agg w 9999 84 _ _ (by simp only [Program.fieldsOf, Try.underlying84]) hs]
  simp only [Program.fieldsOf, Try.underlying84]
  simp [go_sem]
  by_cases h : x = y
  · subst h; simp
  · rw [show decide (x = y) = false from by simp [h]]
    repeat' split
    all_goals first | rfl | exact absurd (Span.ext_ ⟨by assumption, by assumption⟩) h
theorem Span.run_guard (op : BinOp) (xo yo : Operand) (xs ys : Array Value) (w : World) : (eqGuard op 84 xo yo (.agg xs) (.agg ys)).run Try.prog w = .ok () w := run_eqGuard_agg w op 84 xo yo xs ys (by kernel_rfl)
end Go.Proofs.Ytffciebjpiljgaa
namespace Go.Proofs.Ytffciebjpiljgaa
set_option linter.unusedSimpArgs false
set_option linter.unusedVariables false
set_option maxRecDepth 100000
open Go.RowKit
def eSpan (x : Span) : List AV := [.int .i64 x.frm, .int .i64 x.to]
theorem ex_Span : ∀ σ ι x vs, L2 (VR σ ι) (eSpan x) vs → vs = Span.cells x := fun σ ι x vs h => by
  obtain ⟨u0, r0, rfl, h0, h⟩ := L2.cons_inv h
  obtain ⟨u1, r1, rfl, h1, h⟩ := L2.cons_inv h
  rw [L2.nil_iff] at h
  subst h
  rw [h0.int_inv.1, h1.int_inv.1]
  rfl
theorem eq_Span {s : Slots} {h : Heap} {o : Oper} {yt : TypeId} {X Y : Operand} {op : BinOp} {x y : Span} (ho : o.op = .binOp op 84 X Y yt) (hop : op = .eql ∨ op = .neq) (hx : evA s X = .agg (eSpan x)) (hy : evA s Y = .agg (eSpan y)) : OkO Try.prog o s h (.bool (if op = .eql then decide (x = y) else !decide (x = y))) :=
  ok_eqS Span.cells eSpan hop ex_Span (fun w => Span.run_eqIn x y w) (fun xs ys w => Span.run_guard op X Y xs ys w) ho hx hy
theorem neq_Span {s : Slots} {h : Heap} {o : Oper} {yt : TypeId} {X Y : Operand} {x y : Span} (ho : o.op = .binOp .neq 84 X Y yt) (hx : evA s X = .agg (eSpan x)) (hy : evA s Y = .agg (eSpan y)) : OkO Try.prog o s h (.bool (!decide (x = y))) := eq_Span ho (.inr rfl) hx hy
end Go.Proofs.Ytffciebjpiljgaa
namespace Go.Proofs.Ytffciebjpiljgaa
set_option linter.unusedSimpArgs false
set_option linter.unusedVariables false
set_option maxRecDepth 100000
open Go.RowKit
end Go.Proofs.Ytffciebjpiljgaa
namespace Go.Proofs.Ytffciebjpiljgaa
set_option linter.unusedSimpArgs false
set_option linter.unusedVariables false
set_option maxRecDepth 100000
set_option linter.unusedVariables false
set_option linter.unusedSimpArgs false
open Go.RowKit
section
variable {P : Program} {n : Md} {Q : Exit → Slots → Heap → Prop} {s : Slots} {h : Heap} {ops : Array Oper} {rest : List Oper} {o : Oper} {K : Slots → Prop}
theorem flatten_set {β : Type} {sz : Nat} : ∀ {xs : List (List β)} {i j : Nat} {c ws : List β}, (∀ c ∈ xs, c.length = sz) → xs[i]? = some c → j + ws.length ≤ sz →
    (xs.set i (c.take j ++ ws ++ c.drop (j + ws.length))).flatten = xs.flatten.take (i * sz + j) ++ ws ++ xs.flatten.drop (i * sz + j + ws.length)
  | [], i, j, c, ws, _, hi, _ => by simp at hi
  | x :: xs, 0, j, c, ws, hsz, hi, hl => by
    simp at hi; subst hi
    have h1 : x.length = sz := hsz x (by simp)
    simp only [List.set_cons_zero, List.flatten_cons, Nat.zero_mul, Nat.zero_add]
    rw [List.take_append_of_le_length (by omega), List.drop_append_of_le_length (by omega)]
    simp
  | x :: xs, i + 1, j, c, ws, hsz, hi, hl => by
    have h1 : x.length = sz := hsz x (by simp)
    have ih := flatten_set (xs := xs) (i := i) (j := j) (c := c) (ws := ws) (fun c hc => hsz c (by simp [hc])) (by simpa using hi) hl
    simp only [List.set_cons_succ, List.flatten_cons, ih]
    have e1 : (i + 1) * sz + j = x.length + (i * sz + j) := by rw [h1, Nat.add_mul]; omega
    have e2 : (i + 1) * sz + j + ws.length = x.length + (i * sz + j + ws.length) := by rw [h1, Nat.add_mul]; omega
    have t1 : ∀ (k : Nat) (r : List β), (x ++ r).take (x.length + k) = x ++ r.take k := fun k r => by rw [List.take_append, List.take_of_length_le (by omega), Nat.add_sub_cancel_left]
    have t2 : ∀ (k : Nat) (r : List β), (x ++ r).drop (x.length + k) = r.drop k := fun k r => by rw [List.drop_append, List.drop_of_length_le (by omega), Nat.add_sub_cancel_left, List.nil_append]
    rw [e2, e1, t1, t2, List.append_assoc, List.append_assoc, List.append_assoc]
theorem a1_storeE {α : Type} [Inhabited α] {t e' : TypeId} {x y : Operand} {id sz i j : Nat} {l : List α} {f : α → List AV} {v : AV} (x' : α) (ho : o.op = .store t x y) (hx : evA s x = .eptr id sz i j)
    (hg : hget h id = some (.row e' sz (l.map f))) (hv : evA s y = v) (hq : celQ v = true) (hp : pureL (celA v) = true) (hz : sizeQ P t (celA v).length = true) (hl : j + (celA v).length ≤ sz) (hx' : f x' = spl (f (l.getD i default)) j (celA v))
    (hi : i < l.length) (hco : constsOk o = true) (hd : o.dst = none) (hk : AOps P n ops Q rest s ((id, .row e' sz ((l.set i x').map f)) :: h)) : A1 P n ops Q o rest s h := fun E σ ι a w hr ht => by
  subst hv
  have hX : VR σ ι (evA s x) (a.eval x) := evA_sound (List.all_eq_true.1 hco x (by rw [ho]; simp [Op.operands])) fun t _ => ht.at_ t
  have hY : VR σ ι (evA s y) (a.eval y) := evA_sound (List.all_eq_true.1 hco y (by rw [ho]; simp [Op.operands])) fun t _ => ht.at_ t
  rw [hx] at hX
  obtain ⟨g, h1, h2⟩ := hX.eptr_inv
  obtain ⟨hsz0, hsz, vs, hown, hL2⟩ := hr.ch id _ hg
  rcases hown.2 with ⟨h3, _⟩ | ⟨g', cap, cur, h3, _, h4, h5, h6, h7, h8⟩
  · rw [h3] at h1; cases h1
  rw [h3] at h1
  simp only [footOf, Option.some.injEq] at h1
  subst h1
  obtain ⟨hL, hone⟩ := hY.cel hq
  have hlen : (a.eval y).cells.size = (celA (evA s y)).length := by rw [← Array.length_toList]; exact hL.1.symm
  have hil : i < (l.map f).length := by simpa using hi
  have hbound : i * sz + j + (a.eval y).cells.size ≤ (l.map f).length * sz := by
    have : (i + 1) * sz ≤ (l.map f).length * sz := Nat.mul_le_mul_right _ hil
    rw [Nat.add_mul] at this; omega
  have hcap : (l.map f).length * sz ≤ cap * sz := Nat.mul_le_mul_right _ h5
  have hrun := run_store_at (P := P) (t := t) (off := i * sz + j) (v := a.eval y) h4 (by rw [hlen]; exact hz) (by omega) hone
  obtain ⟨cur', hcur'⟩ : ∃ cur', cur' = (cur.toList.take (i * sz + j) ++ (a.eval y).cells.toList ++ cur.toList.drop (i * sz + j + (a.eval y).cells.size)).toArray := ⟨_, rfl⟩
  rw [← hcur'] at hrun
  have hs' : cur'.size = cur.size := by
    rw [hcur']; simp only [List.size_toArray, List.length_append, List.length_take, List.length_drop, Array.length_toList]; omega
  have htk : cur'.toList.take ((l.map f).length * sz) = vs.take (i * sz + j) ++ (a.eval y).cells.toList ++ vs.drop (i * sz + j + (a.eval y).cells.toList.length) := by
    obtain ⟨N, hN⟩ : ∃ N, N = (l.map f).length * sz := ⟨_, rfl⟩
    obtain ⟨us, hus⟩ : ∃ us, us = (a.eval y).cells.toList := ⟨_, rfl⟩
    have hul : us.length = (a.eval y).cells.size := by rw [hus, Array.length_toList (xs := (a.eval y).cells)]
    rw [hcur', ← h8, ← hN, ← hus, ← hul]
    rw [← hN] at hbound hcap
    rw [← hul] at hbound
    have hcl : cur.toList.length = cur.size := Array.length_toList (xs := cur)
    generalize cur.toList = cl at *
    rw [List.toList_toArray, List.take_take, List.take_append, List.take_append, List.drop_take, show min (i * sz + j) N = i * sz + j by omega]
    have e2 : (List.take (i * sz + j) cl).length = i * sz + j := by rw [List.length_take]; omega
    rw [List.length_append, e2, List.take_of_length_le (l := us) (by omega), List.take_take, show min N (i * sz + j) = i * sz + j by omega]
  unfold Oper.wp
  have hrun' : (execOp a.eval o).run P w = .ok .skip (w.setRow g' cur') := by
    simp only [execOp, ho, h2, Instr.storeAt, Instr.sureAddr, Sem.run_bind, Sem.run_pure, Result.andThen_ok, hrun]
  rw [hrun', Oper.upon_skip, hd]
  have hsame : upd ι id (ι id) = ι := by funext i; unfold upd; split <;> simp_all
  have hget' : l.getD i default = l[i] := by simp [hi]
  have hfi : (l.map f)[i]? = some (f (l.getD i default)) := by simp [hi]
  have hci : (f (l.getD i default)).length = sz := hsz _ (List.mem_of_getElem? hfi)
  have hxs : (l.set i x').map f = (l.map f).set i ((f (l.getD i default)).take j ++ celA (evA s y) ++ (f (l.getD i default)).drop (j + (celA (evA s y)).length)) := by
    rw [List.map_set, hx', spl_eq _ _ _ (by omega)]
  have hnew := hr.turn (id := id) (u := ι id) (h' := (id, .row e' sz ((l.set i x').map f)) :: h) (c' := .row e' sz ((l.set i x').map f)) (w' := w.setRow g' cur')
    (fun i c hi hc => by rw [hget_cons, if_neg (fun e => hi e.symm)] at hc; exact ⟨hc, .inl rfl⟩) (by rw [hget_cons, if_pos rfl])
    ⟨hsz0, fun c hc => by
      rw [hxs] at hc
      rcases List.mem_or_eq_of_mem_set hc with hc | rfl
      · exact hsz c hc
      · simp only [List.length_append, List.length_take, List.length_drop]; omega,
      cur'.toList.take ((l.map f).length * sz), by
        rw [hsame, show ((l.set i x').map f).length = (l.map f).length by simp]
        refine ⟨by rw [List.length_take, Array.length_toList (xs := cur')]; omega, .inr ⟨g', cap, cur', h3, Nat.zero_le _, setRow_heap w g' cur cur' e' (0, 0) h4, h5, h6, by omega, rfl⟩⟩, by
      rw [htk, hxs, flatten_set hsz hfi hl]
      rw [show (a.eval y).cells.toList.length = (celA (evA s y)).length by rw [Array.length_toList, hlen]]
      exact ((hL2.take _).append (l2_pure hL hp)).append (hL2.drop _)⟩
    rfl rfl rfl (by simp) (fun k hk hne => setRow_other w g' k _ fun e => hne _ hg (by rw [e, h3]; rfl))
    (fun g2 hg2 => .inl ⟨_, hg, hg2⟩) (.inr rfl)
  rw [hsame] at hnew
  exact hk E σ ι _ _ hnew ht
theorem ao_se {α : Type} [Inhabited α] {t e' : TypeId} {x y : Operand} {id sz i j : Nat} {l : List α} {f : α → List AV} {v : AV} {x' : α} (ho : o.op = .store t x y) (hx : evA s x = .eptr id sz i j)
    (hg : hget h id = some (.row e' sz (l.map f))) (hv : evA s y = v) (hq : celQ v = true) (hp : pureL (celA v) = true) (hz : sizeQ P t (celA v).length = true) (hl : Nat.ble (j + (celA v).length) sz = true) (hx' : f x' = spl (f (l.getD i default)) j (celA v))
    (hi : i < l.length) (hgd : o.guard = none) (hco : constsOk o = true) (hd : o.dst = none) (hk : O P n ops Q rest s ((id, .row e' sz ((l.set i x').map f)) :: h)) : O P n ops Q (o :: rest) s h :=
  ⟨aops_one hgd (a1_storeE x' ho hx hg hv hq hp hz (Nat.ble_eq ▸ hl) hx' hi hco hd hk.out)⟩
/-! ## A row of the call's own is cut short -/
end
end Go.Proofs.Ytffciebjpiljgaa
namespace Go.Proofs.Ytffciebjpiljgaa
set_option linter.unusedSimpArgs false
set_option linter.unusedVariables false
set_option maxRecDepth 100000
set_option linter.unusedVariables false
set_option linter.unusedSimpArgs false
open Go.RowKit
section
variable {P : Program} {n : Md} {Q : Exit → Slots → Heap → Prop} {s : Slots} {h : Heap} {ops : Array Oper} {rest : List Oper} {o : Oper} {K : Slots → Prop}
/-- The same, as one sees it who turns nothing. -/
def lendA (h : Heap) : Nat → AV → AV
  | 0, x => x
  | k + 1, x => bif pureA x then x else match x with
    | .own id => match hget h id with
      | some (.row _ sz xs) => .lst sz xs
      | _ => .own id
    | .ptr id off => match hget h id with
      | some (.blk _ cs) => bif pureL (cs.map (lendA h k)) then .ref ((cs.map (lendA h k)).drop off) else .ptr id off
      | _ => .ptr id off
    | .agg cs => .agg (cs.map (lendA h k))
    | .tup cs => .tup (cs.map (lendA h k))
    | .fn f xs ys => .fn f (xs.map (lendA h k)) (ys.map (lendA h k))
    | x => x
mutual
/-- Leads nowhere. -/
def flatA : AV → Bool
  | .lst _ _ | .ref _ | .own _ | .ptr _ _ | .eptr _ _ _ _ => false
  | .agg cs | .tup cs => flatL cs
  | .fn _ xs ys => flatL xs && flatL ys
  | _ => true
def flatL : List AV → Bool
  | [] => true
  | x :: xs => flatA x && flatL xs
end
theorem flatL_get : ∀ {cs : List AV}, flatL cs = true → ∀ (j : Nat) (c : AV), cs[j]? = some c → flatA c = true
  | [], _, j, c, h => by simp at h
  | x :: xs, hp, 0, c, h => by simp at h; subst h; simp only [flatL, Bool.and_eq_true] at hp; exact hp.1
  | x :: xs, hp, j + 1, c, h => by simp only [flatL, Bool.and_eq_true] at hp; exact flatL_get hp.2 j c (by simpa using h)
theorem VR0.flat {σ σ' : Sig} {x : AV} {v : Value} (hv : VR0 σ x v) : flatA x = true → VR0 σ' x v := by
  induction hv with
  | undef v => exact fun _ => .undef v
  | int k n h => exact fun _ => .int k n h
  | bool b => exact fun _ => .bool b
  | str s => exact fun _ => .str s
  | nils => exact fun _ => .nils
  | empty sz A cap h => exact fun _ => .empty sz A cap h
  | lst sz xs b off cap g h1 h2 h3 h4 h5 ih => intro h; cases h
  | ref cs b off g h4 h5 ih => intro h; cases h
  | agg cs vs h1 h2 ih => intro h; exact .agg cs vs h1 fun j c v hc hv => ih j c v hc hv (flatL_get (by simpa [flatA] using h) j c hc)
  | tup cs vs h1 h2 ih => intro h; exact .tup cs vs h1 fun j c v hc hv => ih j c v hc hv (flatL_get (by simpa [flatA] using h) j c hc)
  | nilp => exact fun _ => .nilp
  | fn f xs ys us vs h1 h2 h3 h4 ih1 ih2 =>
    intro h
    simp only [flatA, Bool.and_eq_true] at h
    exact .fn f xs ys us vs h1 (fun j c v hc hv => ih1 j c v hc hv (flatL_get h.1 j c hc)) h3 fun j c v hc hv => ih2 j c v hc hv (flatL_get h.2 j c hc)
  | nilf => exact fun _ => .nilf
/-! ## The tail of a row of the call's own is cleared -/
/-- A row without elements that nobody names: room for what a call makes. -/
theorem turn_dummy {α : Type} (f : α → List AV) (id : Nat) (e : TypeId) (sz : Nat) (hsz : 0 < sz) (hf : freshAll id s h = true) : Turns n s h s ((id, .row e sz (([] : List α).map f)) :: h) := by
  intro E σ ι a w hr ht
  simp only [freshAll, Bool.and_eq_true, Nat.ble_eq] at hf
  refine ⟨σ, upd ι id (.slice none 0 0), ?_, ht.upd hf.1.1 hf.1.2 (.slice none 0 0)⟩
  refine hr.turn (c' := .row e sz []) ?_ (by rw [hget_cons, if_pos rfl]; rfl) ⟨hsz, by simp, [], by rw [upd_eq]; exact World.ownsRow_nil w 0 e sz, L2.nil _⟩ rfl rfl rfl (Nat.le_refl _) (fun _ _ _ => rfl) (fun g hg => by cases hg) (.inl hf.1.1)
  intro i c hi hc
  rw [hget_cons, if_neg (fun e => hi e.symm)] at hc
  exact ⟨hc, .inr (freshH_get hf.2 i c hc).2⟩
/-- nil is a list without elements. -/
theorem turn_nil (sz : Nat) {t : Nat} (hs : get s t = .nils) : Turns n s h ((t, .lst sz []) :: s) h := fun E σ ι a w hr ht => by
  refine ⟨σ, ι, hr, ht.size, ht.defers, fun u => ?_⟩
  rw [get_cons]
  split
  · rename_i e; subst e
    have h2 := ht.at_ t
    rw [hs] at h2
    generalize a.tmps.getD t undef = q at h2 ⊢
    cases h2 with
    | base _ _ h0 => cases h0 with | nils => exact .base _ _ (.empty _ _ _ (by simp))
  · exact ht.at_ u
theorem ok_indexE {α : Type} [Inhabited α] {l : List α} {f : α → List AV} {t e : TypeId} {x y : Operand} {sz : Nat} {ik : IntKind} {i : Nat} {z : α} (hz0 : l.getD i default = z) (ho : o.op = .indexAddr t x y) (hx : evA s x = .lst sz (l.map f))
    (hy : evA s y = .int ik i) (ht : sliceE P t = some e) (hz : sizeQ P e sz = true) (hi : i < l.length) : OkO P o s h (.ref (f z)) := hz0 ▸ ok_index ho ht hz hx hy hi
end
end Go.Proofs.Ytffciebjpiljgaa
