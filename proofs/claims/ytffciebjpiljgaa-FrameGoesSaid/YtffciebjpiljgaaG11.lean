/- Stable sorting, as steps that turn two neighbours that stand the wrong way round. No condition. -/
import Derived.Test.YtffciebjpiljgaaG10
import Derived.Test.YtffciebjpiljgaaG8
namespace Go.Proofs.Ytffciebjpiljgaa
set_option linter.unusedSimpArgs false
set_option linter.unusedVariables false
set_option maxRecDepth 100000
section
variable {α : Type} {lt : α → α → Bool}
structure SWO (lt : α → α → Bool) : Prop where
  irr : ∀ x, lt x x = false
  tr : ∀ x y z, lt x y = true → lt y z = true → lt x z = true
  nt : ∀ x y z, lt x y = false → lt y z = false → lt x z = false
/-- Neighbours that stand the wrong way round are turned, one after the other. -/
inductive Rch (lt : α → α → Bool) (l : List α) : List α → Prop
  | refl : Rch lt l l
  | step (p q : List α) (u v : α) (h : Rch lt l (p ++ v :: u :: q)) (hl : lt u v = true) : Rch lt l (p ++ u :: v :: q)
theorem Rch.trans {l r t : List α} (h1 : Rch lt l r) (h2 : Rch lt r t) : Rch lt l t := by
  induction h2 with
  | refl => exact h1
  | step p q u v _ hl ih => exact .step p q u v ih hl
theorem Rch.ctx {l r : List α} (h : Rch lt l r) (p q : List α) : Rch lt (p ++ l ++ q) (p ++ r ++ q) := by
  induction h with
  | refl => exact .refl
  | step p' q' u v _ hl ih =>
    have := Rch.step (lt := lt) (p ++ p') (q' ++ q) u v (by simpa using ih) hl
    simpa using this
theorem Rch.perm {l r : List α} (h : Rch lt l r) : r.Perm l := by
  induction h with
  | refl => exact List.Perm.refl _
  | step p q u v _ hl ih => exact (List.Perm.append_left p (List.Perm.swap v u q)).trans ih
theorem Rch.len {l r : List α} (h : Rch lt l r) : r.length = l.length := h.perm.length_eq
theorem Rch.mem {l r : List α} (h : Rch lt l r) {x : α} : x ∈ r ↔ x ∈ l := h.perm.mem_iff
theorem Rch.app {l r l' r' : List α} (h1 : Rch lt l r) (h2 : Rch lt l' r') : Rch lt (l ++ l') (r ++ r') :=
  (by simpa using h1.ctx [] l' : Rch lt (l ++ l') (r ++ l')).trans (by simpa using h2.ctx r [])
/-- One moves to the left past those that it goes ahead of. -/
theorem Rch.left (x : α) : ∀ (ys : List α), (∀ y ∈ ys, lt x y = true) → Rch lt (ys ++ [x]) (x :: ys)
  | [], _ => .refl
  | y :: ys, h => by
    have h1 := Rch.left x ys fun z hz => h z (List.mem_cons_of_mem _ hz)
    have h2 : Rch lt (y :: ys ++ [x]) (y :: x :: ys) := by simpa using h1.ctx [y] []
    exact Rch.step [] ys x y h2 (h y List.mem_cons_self)
/-- One moves to the right past those that go ahead of it. -/
theorem Rch.right (x : α) : ∀ (ys : List α), (∀ y ∈ ys, lt y x = true) → Rch lt (x :: ys) (ys ++ [x])
  | [], _ => .refl
  | y :: ys, h => by
    have h1 : Rch lt (x :: y :: ys) (y :: x :: ys) := Rch.step [] ys y x .refl (h y List.mem_cons_self)
    have h2 := (Rch.right x ys fun z hz => h z (List.mem_cons_of_mem _ hz)).ctx [y] []
    exact h1.trans (by simpa using h2)
theorem Rch.block : ∀ (xs ys : List α), (∀ v ∈ xs, ∀ u ∈ ys, lt u v = true) → Rch lt (xs ++ ys) (ys ++ xs)
  | xs, [], _ => by simpa using Rch.refl
  | xs, y :: ys, h => by
    have h1 : Rch lt (xs ++ [y] ++ ys) (y :: xs ++ ys) := by simpa using (Rch.left y xs fun v hv => h v hv y List.mem_cons_self).ctx [] ys
    have h2 := (Rch.block xs ys fun v hv u hu => h v hv u (List.mem_cons_of_mem _ hu)).ctx [y] []
    have h3 : Rch lt (xs ++ y :: ys) (y :: (xs ++ ys)) := by simpa using h1
    exact h3.trans (by simpa using h2)
def Srt (lt : α → α → Bool) (l : List α) : Prop := l.Pairwise fun a b => lt b a = false
theorem Srt.nil : Srt lt [] := List.Pairwise.nil
theorem Srt.one (x : α) : Srt lt [x] := List.pairwise_singleton _ _
theorem Srt.app {l r : List α} : Srt lt (l ++ r) ↔ Srt lt l ∧ Srt lt r ∧ ∀ a ∈ l, ∀ b ∈ r, lt b a = false := List.pairwise_append
/-- What is asked of a sort. -/
def StS (lt : α → α → Bool) (l r : List α) : Prop := Rch lt l r ∧ Srt lt r
/-- Two parts of which each of the first does not go behind any of the second. -/
theorem StS.parts (xs1 xs2 ys1 ys2 L R : List α) (h1 : StS lt (xs1 ++ ys1) L) (h2 : StS lt (xs2 ++ ys2) R) (hb : ∀ v ∈ xs2, ∀ u ∈ ys1, lt u v = true) (ha : ∀ u ∈ xs1 ++ ys1, ∀ v ∈ xs2 ++ ys2, lt v u = false) :
    StS lt ((xs1 ++ xs2) ++ (ys1 ++ ys2)) (L ++ R) := by
  refine ⟨?_, Srt.app.2 ⟨h1.2, h2.2, fun a hA b hB => ha a (h1.1.mem.1 hA) b (h2.1.mem.1 hB)⟩⟩
  have h3 : Rch lt ((xs1 ++ xs2) ++ (ys1 ++ ys2)) ((xs1 ++ ys1) ++ (xs2 ++ ys2)) := by
    have := (Rch.block xs2 ys1 hb).ctx xs1 ys2
    simpa using this
  exact h3.trans (h1.1.app h2.1)
/-! ## Chunks -/
structure BS (lt : α → α → Bool) (k : Nat) (D : List α) (cs : List (List α)) (c : List α) : Prop where
  eq : D = cs.flatten ++ c
  full : ∀ x ∈ cs, x.length = k ∧ Srt lt x
  len : c.length ≤ k
  srt : Srt lt c
/-- Two chunks from the front. -/
theorem BS.two {k : Nat} {B c : List α} {cs : List (List α)} (hk : 0 < k) (h : BS lt k B cs c) (hl : 2 * k ≤ B.length) :
    ∃ c1 c2 B' cs' c', B = c1 ++ c2 ++ B' ∧ c1.length = k ∧ c2.length = k ∧ Srt lt c1 ∧ Srt lt c2 ∧ BS lt k B' cs' c' := by
  obtain ⟨h1, h2, h3, h4⟩ := h
  match cs, h1, h2 with
  | [], h1, h2 => simp only [List.flatten_nil, List.nil_append] at h1; subst h1; omega
  | [c1], h1, h2 =>
    have e1 := h2 c1 (by simp)
    have : B.length = k + c.length := by rw [h1]; simp [e1.1]
    exact ⟨c1, c, [], [], [], by rw [h1]; simp, e1.1, by omega, e1.2, h4, ⟨by simp, by simp, by simp, .nil⟩⟩
  | c1 :: c2 :: cs, h1, h2 =>
    have e1 := h2 c1 (by simp)
    have e2 := h2 c2 (by simp)
    exact ⟨c1, c2, cs.flatten ++ c, cs, c, by rw [h1]; simp, e1.1, e2.1, e1.2, e2.2, ⟨rfl, fun x hx => h2 x (by simp [hx]), h3, h4⟩⟩
/-- What is left, at the end. -/
theorem BS.last {k : Nat} {B c : List α} {cs : List (List α)} (hk : 0 < k) (h : BS lt k B cs c) (hl : B.length < 2 * k) : (B.length ≤ k ∧ Srt lt B) ∨ (k < B.length ∧ ∃ c1 c2, B = c1 ++ c2 ∧ c1.length = k ∧ Srt lt c1 ∧ Srt lt c2) := by
  obtain ⟨h1, h2, h3, h4⟩ := h
  match cs, h1, h2 with
  | [], h1, h2 => simp only [List.flatten_nil, List.nil_append] at h1; subst h1; exact .inl ⟨h3, h4⟩
  | [c1], h1, h2 =>
    have e1 := h2 c1 (by simp)
    have : B.length = k + c.length := by rw [h1]; simp [e1.1]
    by_cases hc : c.length = 0
    · rw [List.eq_nil_of_length_eq_zero hc] at h1
      refine .inl ⟨by omega, ?_⟩
      rw [h1]; simpa using e1.2
    · exact .inr ⟨by omega, c1, c, by rw [h1]; simp, e1.1, e1.2, h4⟩
  | c1 :: c2 :: cs, h1, h2 =>
    have e1 := h2 c1 (by simp)
    have e2 := h2 c2 (by simp)
    have : k + k ≤ B.length := by rw [h1]; simp [e1.1, e2.1]
    omega
theorem BS.whole {k : Nat} {B c : List α} {cs : List (List α)} (hk : 0 < k) (h : BS lt k B cs c) (hl : B.length ≤ k) : Srt lt B := by
  rcases h.last hk (by omega) with h | h
  · exact h.2
  · omega
/-! ## Places in lists that are put together -/
/-- Two stretches of one length are turned, one pair after the other. -/
def swM (P X Z Y S : List α) (k : Nat) : List α := P ++ (Y.take k ++ X.drop k) ++ Z ++ (X.take k ++ Y.drop k) ++ S
end
end Go.Proofs.Ytffciebjpiljgaa
namespace Go.Proofs.Ytffciebjpiljgaa
set_option linter.unusedSimpArgs false
set_option linter.unusedVariables false
set_option maxRecDepth 100000
set_option linter.unusedSectionVars false
set_option linter.unnecessarySimpa false
section
variable {α : Type} [Inhabited α] {lt : α → α → Bool}
theorem getD_mem {l : List α} {k : Nat} (h : k < l.length) : l.getD k default ∈ l := by simp [h]
theorem Srt.at {l : List α} (h : Srt lt l) {i j : Nat} (hij : i < j) (hj : j < l.length) : lt (l.getD j default) (l.getD i default) = false := by
  have := List.pairwise_iff_getElem.1 h i j (by omega) hj hij
  simpa [hj, show i < l.length by omega] using this
theorem Srt.take {l : List α} (h : Srt lt l) (q : Nat) : Srt lt (l.take q) := List.Pairwise.sublist (List.take_sublist q l) h
theorem Srt.drop {l : List α} (h : Srt lt l) (q : Nat) : Srt lt (l.drop q) := List.Pairwise.sublist (List.drop_sublist q l) h
end
end Go.Proofs.Ytffciebjpiljgaa
namespace Go.Proofs.Ytffciebjpiljgaa
set_option linter.unusedSimpArgs false
set_option linter.unusedVariables false
set_option maxRecDepth 100000
set_option linter.unusedVariables false
set_option linter.unusedSimpArgs false
open Go.RowKit
section
variable {P : Program} {n : Md} {Q : Exit → Slots → Heap → Prop} {s : Slots} {h : Heap} {ops : Array Oper} {rest : List Oper} {o : Oper} {K : Slots → Prop}
def tlR (e : TypeId) (xs : List AV) (σ : Sig) (H : Array Obj) (v : Value) : Prop :=
  ∃ g off cap cur, v = .slice (some ⟨g, off, none⟩) xs.length cap ∧ H[g]? = some (.cells cur e (0, 0)) ∧ xs.length ≤ cap ∧ cap ≤ maxLen ∧ off + cap ≤ cur.size ∧ L2 (VR0 σ) xs ((cur.toList.drop off).take xs.length)
def tlC (e : TypeId) (xs : List AV) : SemC where
  rel := tlR e xs
  keep := fun σ σ' H H' v ⟨g, off, cap, cur, h1, h2, h3, h4, h5, h6⟩ hs hw => ⟨g, off, cap, cur, h1, by rw [hw g (by rw [h1]; rfl)]; exact h2, h3, h4, h5, h6.mono fun _ _ h => h.mono hs⟩
  lt := fun σ H v g ⟨g', off, cap, cur, h1, h2, _⟩ hg => by
    rw [h1] at hg; simp only [footOf, Option.some.injEq] at hg; subst hg
    exact (Array.getElem?_eq_some_iff.1 h2).1
/-- A slice that is written out, as a row of the call's own. -/
theorem o_blit {α : Type} {f : α → List AV} {l : List α} {t e : TypeId} {sz len : Nat} {parts : Array (Nat × Operand)} {xs : List (List AV)} {id : Nat} (ho : o.op = .buildSlice t len parts) (hgd : o.guard = none) (hco : constsOk o = true) (hd : dstOk n o.dst = true) (ht : sliceE P t = some e) (hz : sizeQ P e sz = true) {z0 : List AV} (h0 : zeroA P e = some z0) (hsz : Nat.blt 0 sz = true) (hb : Nat.ble (len * sz) 16777216 = true)
    (hp : partsA s parts.toList 0 = some xs) (hl : Nat.beq parts.toList.length len = true) (hs : szOk sz xs = true) (hxs : xs = l.map f) (hfr : freshAll id s h = true)
    (hk : O P n ops Q rest (putS s o.dst (.own id)) ((id, .row e sz (l.map f)) :: h)) : O P n ops Q (o :: rest) s h := ⟨aops_one hgd fun E σ ι a w hr ht' => by
  have hsz := (by simpa [Nat.blt_eq] using hsz : 0 < sz)
  have hb := Nat.ble_eq ▸ hb
  have hl := Nat.eq_of_beq_eq_true hl
  simp only [freshAll, Bool.and_eq_true, Nat.ble_eq] at hfr
  have hx : ∀ x ∈ o.op.operands.toList, VR σ ι (evA s x) (a.eval x) := fun x hx => evA_sound (List.all_eq_true.1 hco x hx) fun t _ => ht'.at_ t
  have hmem : ∀ p ∈ parts.toList, VR σ ι (evA s p.2) (a.eval p.2) := fun p hp => hx p.2 (by rw [ho]; simp only [Op.operands]; simpa using ⟨p.1, by simpa using hp⟩)
  obtain ⟨h1, h2⟩ := partsA_spec (a := a) parts.toList 0 xs hp hmem
  obtain ⟨zi, z, hzi, hzz, _⟩ := zeroA_spec h0
  have hvs : ∀ v ∈ parts.toList.map (fun p => a.eval p.2), v.cells.size = sz := fun v hv => by
    obtain ⟨j, hj⟩ := List.getElem?_of_mem hv
    have hjl : j < xs.length := by rw [h2.1]; exact (List.getElem?_eq_some_iff.1 hj).1
    have h3 := h2.2 j xs[j] v (List.getElem?_eq_getElem hjl) hj
    rw [← Array.length_toList, ← h3.1]
    exact szOk_spec hs _ (List.getElem_mem hjl)
  have hxl : xs.length = len := by rw [h2.1, List.length_map, hl]
  have hml : (parts.toList.map (fun p => a.eval p.2)).length = len := by rw [List.length_map, hl]
  obtain ⟨r, hr1, hr2, hr3⟩ := Go.Great.fill_dense hsz (parts.toList.map (fun p => a.eval p.2)) 0 ((Array.range (len * sz)).map (z.cells[· % z.cells.size]!)) hvs (by rw [hml]; simp)
  have hparts : (parts.map fun (i, x) => (i, a.eval x)).toList = (((parts.toList.map (fun p => a.eval p.2)).zipIdx 0).map fun x => (x.2, x.1)) := by
    rw [Array.toList_map, list_of_pairs (parts.toList.map fun (i, x) => (i, a.eval x)) 0 (by simpa [Function.comp_def] using h1)]
    simp [Function.comp_def]
  have hrl : r.toList = ((parts.toList.map (fun p => a.eval p.2)).map fun v => v.cells.toList).flatten := by
    refine flat_cells hsz _ r hvs (by rw [hr2, hml]; simp) fun k => ?_
    rw [hr3 k]
    simp only [Nat.zero_mul, Nat.zero_le, true_and, Nat.zero_add, Nat.sub_zero]
    split
    · rfl
    · rename_i hk
      rw [hml] at hk
      apply Array.getElem?_eq_none; simp; omega
  have hrun : (execOp a.eval o).run P w = .ok (.value (.slice (some ⟨w.heap.size, 0, none⟩) len len)) (w.alloc (.cells r e)) := by
    have hr1' : Instr.fill (fun i => some (i * sz, sz)) ((Array.range (len * sz)).map (z.cells[· % z.cells.size]!)) (parts.map fun (i, x) => (i, a.eval x)).toList = some r := by rw [hparts]; exact hr1
    have h5 := run_buildSlice (P := P) w (sliceE_spec ht) hz hzi hzz (by omega) hr1'
    simp only [execOp, ho, Sem.run_bind, Sem.run_pure, h5, Result.andThen_ok]
  have hL : L2 (VR0 σ) xs.flatten r.toList := by rw [hrl]; exact l2_flatten h2
  have hrs : r.size = len * sz := by
    have h9 := hL.1
    rw [flatten_length (szOk_spec hs), hxl] at h9
    rw [← Array.length_toList (xs := r), ← h9]
  have hnew := hr.turn (id := id) (u := .slice (some ⟨w.heap.size, 0, none⟩) len len) (h' := (id, .row e sz (l.map f)) :: h) (c' := .row e sz (l.map f)) (w' := w.alloc (.cells r e))
    (fun i c hi hc => by
      rw [hget_cons, if_neg (fun e => hi e.symm)] at hc
      exact ⟨hc, .inr (freshH_get hfr.2 i c hc).2⟩)
    (by rw [hget_cons, if_pos rfl])
    ⟨hsz, by rw [← hxs]; exact szOk_spec hs, r.toList, by
      rw [upd_eq, ← hxs, hxl]
      have hll : len ≤ len * sz := Nat.le_mul_of_pos_right _ hsz
      exact ⟨by rw [Array.length_toList (xs := r)]; exact hrs, .inr ⟨w.heap.size, len, r, rfl, Nat.zero_le _, heap_alloc_new w _, Nat.le_refl _, by simp only [maxLen]; omega, hrs, by rw [← hrs, ← Array.length_toList (xs := r)]; exact List.take_length⟩⟩, by rw [← hxs]; exact hL⟩
    rfl rfl rfl (by simp) (fun k hk _ => Below.heap_alloc _ _ _ hk) (fun g hv => by cases hv; exact .inr (Nat.le_refl _)) (.inl hfr.1.1)
  unfold Oper.wp
  rw [hrun]
  refine hk.out E σ _ _ _ hnew ((ht'.upd hfr.1.1 hfr.1.2 _).putS hd ?_)
  have h5 := VR.own (σ := σ) (ι := upd ι id (.slice (some ⟨w.heap.size, 0, none⟩) len len)) id (by rw [upd_eq]; rfl)
  rwa [upd_eq] at h5⟩
end
end Go.Proofs.Ytffciebjpiljgaa
namespace Go.Proofs.Ytffciebjpiljgaa
set_option linter.unusedSimpArgs false
set_option linter.unusedVariables false
set_option maxRecDepth 100000
set_option linter.unusedSimpArgs false
set_option linter.unusedVariables false
structure FineP (p : List Instr) : Prop where
  pos : 0 < p.length
  most : p.length ≤ 64
  right : ∀ i, i < p.length → rightI (p.getD i default) = true
  leads : ∀ i, i < p.length → leadsB p i = true
  loop : ∀ k, k < (loopsL p).length → loopQ (loopsL p) k = false
  jump : ∀ i, i < p.length → jumpB p (loopsL p) i = false
  last : (p.getD (p.length - 1) default).op = 21
theorem fine_inv {p : List Instr} (h : fineB p = true) : FineP p := by
  rw [fineB, decide_eq_true_eq] at h
  by_cases h0 : p.length = 0 ∨ 64 < p.length
  · rw [check_arg h0] at h; simp at h
  cases h1 : fstN (formQ p) p.length with
  | some k => rw [check_form h0 h1] at h; simp at h
  | none =>
  cases h2 : fstN (flowQ p) p.length with
  | some k => rw [check_flow h0 h1 h2] at h; simp at h
  | none =>
  cases h3 : fstN (loopQ (loopsL p)) (loopsL p).length with
  | some k => rw [check_loop h0 h1 h2 h3] at h; simp at h
  | none =>
  cases h4 : fstN (jumpB p (loopsL p)) p.length with
  | some k => rw [check_jump h0 h1 h2 h3 h4] at h; simp at h
  | none =>
  rw [check_end h0 h1 h2 h3 h4] at h
  refine ⟨by omega, by omega, fun i hi => by simpa [formQ] using fst_none h1 i hi, fun i hi => by simpa [flowQ] using fst_none h2 i hi, fst_none h3, fst_none h4, ?_⟩
  split at h
  · assumption
  · simp at h
/-- May one come from i to j? -/
def mayB (p : List Instr) (i j : Nat) : Bool := decide ((p.getD i default).op ≠ 21 ∧ ((14 ≤ (p.getD i default).op ∧ (p.getD i default).op ≤ 16 ∧ (j : Int) = (p.getD i default).n) ∨ ((p.getD i default).op ≠ 14 ∧ j = i + 1)))
section
variable {p : List Instr}
theorem leads_iff (h : FineP p) {i : Nat} (hi : i < p.length) : leadsI (p.getD i default) = decide (14 ≤ (p.getD i default).op ∧ (p.getD i default).op ≤ 16) := by
  rw [leadsI, h.right i hi, Bool.true_and]
theorem leads_to (h : FineP p) (hn : ∀ i, 0 ≤ (p.getD i default).n) {i : Nat} (hi : i < p.length) (h1 : 14 ≤ (p.getD i default).op) (h2 : (p.getD i default).op ≤ 16) :
    (p.getD i default).n < p.length ∧ (p.getD i default).n ≠ i ∧ ((p.getD i default).op = 16 ∧ (p.getD i default).n < i ∨ (p.getD i default).op ≠ 16 ∧ i < (p.getD i default).n) := by
  have h3 := h.leads i hi
  rw [leadsB, leadsX, leads_iff h hi, decide_eq_true ⟨h1, h2⟩, if_pos rfl] at h3
  split at h3
  · have := of_decide_eq_true h3; omega
  · have := of_decide_eq_true h3; omega
theorem inner_lt (h : FineP p) {i : Nat} (hi : i < p.length) (h1 : (p.getD i default).op ≠ 21) : i + 1 < p.length := by
  rcases Nat.lt_or_ge (i + 1) p.length with h2 | h2
  · exact h2
  · exfalso
    have h3 := h.last
    rw [show p.length - 1 = i by omega] at h3
    exact h1 h3
/-- What next tells is where one may come. -/
theorem next_iff (h : FineP p) (hn : ∀ i, 0 ≤ (p.getD i default).n) {i : Nat} (hi : i < p.length) {x : Int} : x ∈ nextL p i ↔ ∃ j : Nat, x = j ∧ j < p.length ∧ mayB p i j = true := by
  have hl := leads_iff h hi
  have hnn := hn i
  rw [nextL]
  by_cases h1 : (p.getD i default).op = 21
  · rw [if_pos h1]; simp only [mayB, h1]; simp
  have hlt := inner_lt h hi h1
  rw [if_neg h1]
  by_cases h2 : (p.getD i default).op = 14
  · have h3 := leads_to h hn hi (by omega) (by omega)
    rw [if_pos h2, tgt_yes (by rw [hl]; exact decide_eq_true (by omega)), List.mem_singleton]
    simp only [mayB, decide_eq_true_eq]
    constructor
    · rintro rfl
      exact ⟨(p.getD i default).n.toNat, by omega, by omega, by omega⟩
    · rintro ⟨j, rfl, hj, _, h4 | h4⟩
      · exact h4.2.2
      · exact absurd h2 h4.1
  rw [if_neg h2]
  by_cases h3 : 14 ≤ (p.getD i default).op ∧ (p.getD i default).op ≤ 16
  · have h4 := leads_to h hn hi h3.1 h3.2
    rw [tgt_yes (by rw [hl]; exact decide_eq_true h3), hl, decide_eq_true h3]
    simp only [mayB, decide_eq_true_eq]
    split
    · rename_i h5
      rw [List.mem_singleton]
      constructor
      · rintro rfl
        exact ⟨i + 1, by omega, hlt, h1, .inr ⟨h2, rfl⟩⟩
      · rintro ⟨j, rfl, hj, _, h6 | h6⟩
        · rcases h5 with h5 | h5
          · cases h5
          · omega
        · omega
    · rw [List.mem_cons, List.mem_singleton]
      constructor
      · intro hx
        by_cases hx2 : x = (i : Int) + 1
        · exact ⟨i + 1, by omega, hlt, h1, .inr ⟨h2, rfl⟩⟩
        · exact ⟨(p.getD i default).n.toNat, by omega, by omega, h1, .inl ⟨h3.1, h3.2, by omega⟩⟩
      · rintro ⟨j, rfl, hj, _, h6 | h6⟩ <;> omega
  · rw [hl, decide_eq_false h3, if_pos (.inl rfl), List.mem_singleton]
    simp only [mayB, decide_eq_true_eq]
    constructor
    · rintro rfl
      exact ⟨i + 1, by omega, hlt, h1, .inr ⟨h2, rfl⟩⟩
    · rintro ⟨j, rfl, hj, _, h6 | h6⟩
      · exact absurd ⟨h6.1, h6.2.1⟩ h3
      · omega
theorem next_len (p : List Instr) (i : Nat) : (nextL p i).length ≤ 2 := by
  rw [nextL]; split
  · simp
  · split
    · simp
    · split <;> simp
/-- What is reached. -/
inductive ReachP (p : List Instr) : Nat → Prop
  | zero : ReachP p 0
  | step (i j : Nat) (h : ReachP p i) (hj : j < p.length) (hm : mayB p i j = true) : ReachP p j
theorem reach_lt (hp : 0 < p.length) {j : Nat} (h : ReachP p j) : j < p.length := by
  cases h with
  | zero => exact hp
  | step i j h hj hm => exact hj
open Classical in
noncomputable def reachL (p : List Instr) : List Bool := (List.range p.length).map fun j => decide (ReachP p j)
theorem reachL_len (p : List Instr) : (reachL p).length = p.length := by simp [reachL]
open Classical in
theorem reachL_at {j : Nat} (hj : j < p.length) : (reachL p).getD j default = decide (ReachP p j) := by simp [reachL, hj]
open Classical in
/-- What has the first place, and is closed, and is reached, is all that is reached. -/
theorem reach_eq {out : List Bool} (hl : out.length = p.length) (h0 : out.getD 0 default = true) (hs : ∀ j, j < p.length → out.getD j default = true → ReachP p j) (hc : ∀ i j, i < p.length → j < p.length → out.getD i default = true → mayB p i j = true → out.getD j default = true) : out = reachL p := by
  refine List.ext_getElem (by rw [hl, reachL_len]) fun j h1 h2 => ?_
  have hj : j < p.length := by rw [← hl]; exact h1
  have e1 : out.getD j default = out[j] := by simp [h1]
  have e2 : (reachL p).getD j default = (reachL p)[j] := by simp [h2]
  rw [← e1, ← e2, reachL_at hj, Bool.eq_iff_iff, decide_eq_true_eq]
  refine ⟨hs j hj, fun hr => ?_⟩
  have hp : 0 < p.length := by omega
  clear e1 e2 h1 h2 hj
  induction hr with
  | zero => exact h0
  | step i j h hj hm ih => exact hc i j (reach_lt hp h) hj ih hm
end
/-! ## The queue -/
structure BfsI (p : List Instr) (out : List Bool) (todo : List Int) : Prop where
  len : out.length = p.length
  snd : ∀ j, j < p.length → out.getD j default = true → ReachP p j
  que : ∀ x ∈ todo, ∃ j : Nat, x = j ∧ j < p.length ∧ ReachP p j
  zero : out.getD 0 default = true ∨ (0 : Int) ∈ todo
  cl : ∀ i j, i < p.length → j < p.length → out.getD i default = true → mayB p i j = true → out.getD j default = true ∨ (j : Int) ∈ todo
theorem getD_set {α : Type} [Inhabited α] {l : List α} {k j : Nat} {v : α} (hk : k < l.length) : (l.set k v).getD j default = if k = j then v else l.getD j default := by
  simp only [List.getD_eq_getElem?_getD, List.getElem?_set]
  split
  · rename_i e; subst e; simp [hk]
  · rfl
/-- How many are not marked. -/
def openN (out : List Bool) : Nat := out.countP (fun b => !b)
end Go.Proofs.Ytffciebjpiljgaa
namespace Go.Proofs.Ytffciebjpiljgaa
set_option linter.unusedSimpArgs false
set_option linter.unusedVariables false
set_option maxRecDepth 100000
set_option linter.unusedSimpArgs false
set_option linter.unusedVariables false
set_option maxRecDepth 100000
open Go.RowKit
def eBo (b : Bool) : List AV := [.bool b]
def gI (x : Int) : AV := .int .i64 x
noncomputable def reachF (p : List Instr) : List Bool := if fineB p = true then reachL p else []
/-- The document's next places of the first n. -/
def mayTo (p : List Instr) (i n : Nat) : List Int := ((List.range n).filter fun j => mayB p i j).map fun j : Nat => (j : Int)
end Go.Proofs.Ytffciebjpiljgaa
namespace Go.Proofs.Ytffciebjpiljgaa
set_option linter.unusedSimpArgs false
set_option linter.unusedVariables false
set_option maxRecDepth 100000
set_option linter.unusedSimpArgs false
set_option linter.unusedVariables false
set_option maxRecDepth 100000
open Go.RowKit
def cntT (l : List Bool) : Nat := l.countP fun b => b
theorem cnt_lt : ∀ {a b : List Bool}, a.length = b.length → (∀ t, a.getD t default = true → b.getD t default = true) → a = b ∨ cntT a < cntT b
  | [], [], _, _ => .inl rfl
  | [], y :: b, h, _ => by simp at h
  | x :: a, [], h, _ => by simp at h
  | x :: a, y :: b, h, hs => by
    have h1 := cnt_lt (a := a) (b := b) (by simpa using h) fun t ht => by have := hs (t + 1); simpa using this (by simpa using ht)
    have h2 := hs 0
    simp only [List.getD_cons_zero] at h2
    have e : ∀ (z : Bool) (l : List Bool), cntT (z :: l) = cntT l + (if z then 1 else 0) := fun z l => by simp [cntT, List.countP_cons]
    rcases h1 with rfl | h1
    · cases x <;> cases y
      · exact .inl rfl
      · refine .inr ?_; rw [e, e]; simp
      · simp at h2
      · exact .inl rfl
    · refine .inr ?_
      rw [e, e]
      cases x <;> cases y
      · simpa using h1
      · simp; omega
      · simp at h2
      · simpa using h1
def rstep (p : List Instr) (out : List Bool) (i j : Nat) : List Bool := out.set j (out.getD j default || (out.getD i default && mayB p i j))
structure RoundI (p : List Instr) (M out : List Bool) (i j : Nat) : Prop where
  len : out.length = p.length
  sup : ∀ t, t < p.length → M.getD t default = true → out.getD t default = true
  snd : ∀ t, t < p.length → out.getD t default = true → ReachP p t
  done : ∀ f t, f < p.length → t < p.length → (f < i ∨ f = i ∧ t < j) → M.getD f default = true → mayB p f t = true → out.getD t default = true
theorem RoundI.step {p : List Instr} {M out : List Bool} {i j : Nat} (h : RoundI p M out i j) (hi : i < p.length) (hj : j < p.length) : RoundI p M (rstep p out i j) i (j + 1) := by
  have hs : ∀ t, (rstep p out i j).getD t default = if j = t then (out.getD j default || (out.getD i default && mayB p i j)) else out.getD t default := fun t => getD_set (by rw [h.len]; exact hj)
  have up : ∀ t, out.getD t default = true → (rstep p out i j).getD t default = true := fun t ht => by
    rw [hs]; split
    · rename_i e; subst e; rw [ht]; rfl
    · exact ht
  refine ⟨by simpa [rstep] using h.len, fun t ht hm => up t (h.sup t ht hm), fun t ht ho => ?_, fun f t hf ht hft hm hmay => ?_⟩
  · rw [hs] at ho
    split at ho
    · rename_i e; subst e
      rcases (Bool.or_eq_true _ _).mp ho with h1 | h1
      · exact h.snd _ ht h1
      · have h2 := (Bool.and_eq_true _ _).mp h1
        exact .step i _ (h.snd i hi h2.1) hj h2.2
    · exact h.snd t ht ho
  · by_cases e : f = i ∧ t = j
    · obtain ⟨rfl, rfl⟩ := e
      rw [hs, if_pos rfl, h.sup f hf hm, hmay]; simp
    · exact up t (h.done f t hf ht (by omega) hm hmay)
theorem RoundI.row {p : List Instr} {M out : List Bool} {i : Nat} (h : RoundI p M out i p.length) : RoundI p M out (i + 1) 0 :=
  ⟨h.len, h.sup, h.snd, fun f t hf ht hft hm hmay => h.done f t hf ht (by omega) hm hmay⟩
structure OutI (p : List Instr) (out : List Bool) (k : Nat) : Prop where
  len : out.length = p.length
  snd : ∀ t, t < p.length → out.getD t default = true → ReachP p t
  zero : out.getD 0 default = true
  cl : (∀ i j, i < p.length → j < p.length → out.getD i default = true → mayB p i j = true → out.getD j default = true) ∨ k + 1 ≤ cntT out
theorem OutI.start {p : List Instr} {M : List Bool} {k : Nat} (h : OutI p M k) : RoundI p M M 0 0 := ⟨h.len, fun _ _ h => h, h.snd, fun f t hf ht hft => by omega⟩
open Classical in
theorem OutI.next {p : List Instr} {M out : List Bool} {k : Nat} (hM : OutI p M k) (h : RoundI p M out p.length 0) (hp : 0 < p.length) : OutI p out (k + 1) := by
  refine ⟨h.len, h.snd, h.sup 0 hp hM.zero, ?_⟩
  have hd : ∀ i j, i < p.length → j < p.length → M.getD i default = true → mayB p i j = true → out.getD j default = true := fun i j hi hj hm hmay => h.done i j hi hj (.inl hi) hm hmay
  have hlt : ∀ t, ¬ t < p.length → M.getD t default = true → False := fun t ht hm => by
    simp [show M.length ≤ t by rw [hM.len]; omega] at hm
  rcases cnt_lt (a := M) (b := out) (hM.len.trans h.len.symm) (fun t ht => by
    by_cases htl : t < p.length
    · exact h.sup t htl ht
    · exact (hlt t htl ht).elim) with e | e
  · subst e; exact .inl hd
  · rcases hM.cl with h1 | h1
    · refine .inl fun i j hi hj ho hmay => ?_
      have e2 := reach_eq hM.len hM.zero hM.snd h1
      have h3 : ReachP p j := .step i j (h.snd i hi ho) hj hmay
      refine h.sup j hj ?_
      rw [e2, reachL_at hj]
      exact decide_eq_true h3
    · exact .inr (by omega)
theorem OutI.done {p : List Instr} {out : List Bool} (h : OutI p out p.length) : out = reachL p := by
  refine reach_eq h.len h.zero h.snd ?_
  rcases h.cl with h1 | h1
  · exact h1
  · have : cntT out ≤ out.length := List.countP_le_length
    rw [h.len] at this; omega
end Go.Proofs.Ytffciebjpiljgaa
namespace Go.Proofs.Ytffciebjpiljgaa
set_option linter.unusedSimpArgs false
set_option linter.unusedVariables false
set_option maxRecDepth 100000
set_option linter.unusedSimpArgs false
set_option linter.unusedVariables false
set_option maxRecDepth 100000
open Go.RowKit
section
variable {p : List Instr}
theorem loops_mem {s : Span} (h : s ∈ loopsL p) : ∃ i : Nat, i < p.length ∧ (p.getD i default).op = 16 ∧ s.frm = (p.getD i default).n ∧ s.to = i := by
  rw [loopsL, loopsTo, List.mem_map] at h
  obtain ⟨i, hi, rfl⟩ := h
  rw [List.mem_filter, List.mem_range] at hi
  exact ⟨i, hi.1, of_decide_eq_true hi.2, rfl, rfl⟩
theorem loops_inc : (loopsL p).Pairwise fun a b => a.to < b.to := by
  rw [loopsL, loopsTo, List.pairwise_map]
  exact (List.Pairwise.filter _ List.pairwise_lt_range).imp fun h => Int.ofNat_lt.2 h
theorem loops_lt {j k : Nat} (hjk : j < k) (hk : k < (loopsL p).length) : ((loopsL p).getD j default).to < ((loopsL p).getD k default).to := by
  have := List.pairwise_iff_getElem.1 (loops_inc (p := p)) j k (by omega) hk hjk
  simpa [hk, show j < (loopsL p).length by omega] using this
end
end Go.Proofs.Ytffciebjpiljgaa
namespace Go.Proofs.Ytffciebjpiljgaa
set_option linter.unusedSimpArgs false
set_option linter.unusedVariables false
set_option maxRecDepth 100000
set_option linter.unusedSimpArgs false
set_option linter.unusedVariables false
set_option maxRecDepth 100000
open Go.RowKit
section
variable {p : List Instr}
theorem ends_ne (hf : FineP p) (hn : ∀ i, 0 ≤ (p.getD i default).n) {i j : Nat} (hi : i < p.length) (hm : mayB p i j = true) : j ≠ i ∧ (j < i → (p.getD i default).op = 16) := by
  rw [mayB, decide_eq_true_eq] at hm
  rcases hm.2 with ⟨h1, h2, h3⟩ | ⟨h1, h2⟩
  · have h4 := leads_to hf hn hi h1 h2
    exact ⟨by omega, fun h => by omega⟩
  · exact ⟨by omega, fun h => by omega⟩
theorem getD_of {α : Type} [Inhabited α] {l : List α} {s : α} (h : s ∈ l) : ∃ k, k < l.length ∧ l.getD k default = s := by
  obtain ⟨k, hk, rfl⟩ := List.getElem_of_mem h
  exact ⟨k, hk, by simp [hk]⟩
/-- Two loops that end in order do not overlap. -/
theorem no_over (hf : FineP p) {j k : Nat} (hjk : j < k) (hk : k < (loopsL p).length) : ¬ (((loopsL p).getD j default).frm < ((loopsL p).getD k default).frm ∧ ((loopsL p).getD k default).frm ≤ ((loopsL p).getD j default).to) := by
  have h3 := hf.loop k hk
  have hj : j < (loopsL p).length := by omega
  rw [loopQ, List.any_eq_false] at h3
  have hm : (loopsL p).getD j default ∈ (loopsL p).take k := by
    have e : (loopsL p).getD j default = ((loopsL p).take k)[j]'(by rw [List.length_take]; omega) := by simp [hj]
    rw [e]; exact List.getElem_mem _
  have := h3 _ hm
  rw [overB, decide_eq_true_eq] at this
  exact this
theorem ends_loop (hf : FineP p) (hn : ∀ i, 0 ≤ (p.getD i default).n) {i j : Nat} (hi : i < p.length) (hm : mayB p i j = true) {k : Nat} (hk : k < (loopsL p).length) :
    (hasB ((loopsL p).getD k default) j = true → hasB ((loopsL p).getD k default) i = false → (j : Int) = ((loopsL p).getD k default).frm) ∧
    (hasB ((loopsL p).getD k default) i = true → hasB ((loopsL p).getD k default) j = false → (i : Int) = ((loopsL p).getD k default).to) := by
  rw [mayB, decide_eq_true_eq] at hm
  have e : ∀ x : Int, (hasB ((loopsL p).getD k default) x = true ↔ ((loopsL p).getD k default).frm ≤ x ∧ x ≤ ((loopsL p).getD k default).to) ∧ (hasB ((loopsL p).getD k default) x = false ↔ ¬ (((loopsL p).getD k default).frm ≤ x ∧ x ≤ ((loopsL p).getD k default).to)) := fun x => by
    rw [hasB]; exact ⟨decide_eq_true_iff, decide_eq_false_iff_not⟩
  rcases hm.2 with ⟨h1, h2, h3⟩ | ⟨h1, h2⟩
  · have h4 := leads_to hf hn hi h1 h2
    by_cases h5 : (p.getD i default).op = 16
    · have hmem : (⟨(p.getD i default).n, i⟩ : Span) ∈ loopsL p := by
        rw [loopsL, loopsTo, List.mem_map]
        exact ⟨i, List.mem_filter.2 ⟨List.mem_range.2 hi, decide_eq_true h5⟩, rfl⟩
      obtain ⟨b, hb, hbe⟩ := getD_of hmem
      have hbf : ((loopsL p).getD b default).frm = (p.getD i default).n := by rw [hbe]
      have hbt : ((loopsL p).getD b default).to = i := by rw [hbe]
      rw [(e _).1, (e _).2, (e _).1, (e _).2]
      refine ⟨fun g1 g2 => ?_, fun g1 g2 => ?_⟩
      · have hkb : k < b := by
          rcases Nat.lt_trichotomy k b with q | q | q
          · exact q
          · subst q; omega
          · have := loops_lt q hk; omega
        have := no_over hf hkb hb
        omega
      · rcases Nat.lt_trichotomy k b with q | q | q
        · have := loops_lt q hb; omega
        · subst q; omega
        · have := no_over hf q hk; omega
    · have h6 := hf.jump i hi
      have h7 := leads_iff hf hi
      rw [decide_eq_true ⟨h1, h2⟩] at h7
      rw [jumpB, h7, Bool.true_and] at h6
      have h8 : crossB (loopsL p) i (p.getD i default).n = false := by
        have : ((p.getD i default).op != 16) = true := by simpa using h5
        rw [this, Bool.true_and] at h6; exact h6
      rw [crossB, List.any_eq_false] at h8
      have h9 := h8 _ (getD_mem hk)
      rw [← h3] at h9
      have h10 : hasB ((loopsL p).getD k default) i = hasB ((loopsL p).getD k default) j := by simpa using h9
      rw [h10]
      exact ⟨fun g1 g2 => absurd (g1.symm.trans g2) (by simp), fun g1 g2 => absurd (g1.symm.trans g2) (by simp)⟩
  · rw [(e _).1, (e _).2, (e _).1, (e _).2]
    exact ⟨fun g1 g2 => by omega, fun g1 g2 => by omega⟩
theorem next_nil (p : List Instr) (i : Nat) : (nextL p i).length = 0 ↔ (p.getD i default).op = 21 := by
  rw [nextL]
  split
  · rename_i h; exact ⟨fun _ => h, fun _ => rfl⟩
  · rename_i h
    split
    · simp only [List.length_singleton]; exact ⟨fun e => by omega, fun e => absurd e h⟩
    · split
      · simp only [List.length_singleton]; exact ⟨fun e => by omega, fun e => absurd e h⟩
      · simp only [List.length_cons, List.length_nil]; exact ⟨fun e => by omega, fun e => absurd e h⟩
end
end Go.Proofs.Ytffciebjpiljgaa
namespace Go.Proofs.Ytffciebjpiljgaa
set_option linter.unusedSimpArgs false
set_option linter.unusedVariables false
set_option maxRecDepth 100000
set_option linter.unusedSimpArgs false
set_option linter.unusedVariables false
set_option maxRecDepth 100000
open Go.RowKit
section
variable {n : Md} {s : Slots} {h : Heap}
/-- A row of the call's own that is turned no more. -/
theorem frz_core {E : Env} {σ : Sig} {ι : Nat → Value} {w : World} {id sz : Nat} {e : TypeId} {xs : List (List AV)} (hr : Rel E σ ι h w) (hg : hget h id = some (.row e sz xs)) (h10 : 10 ≤ id) : ∃ σ', Sig.le σ σ' ∧ Rel E σ' ι (hdel id h) w ∧ VR σ' ι (.lst sz xs) (ι id) := by
  obtain ⟨hsz0, hsz, vs, hown, hL⟩ := hr.ch id _ hg
  rcases hown.2 with ⟨h1, h2⟩ | ⟨g, cap, cur, h1, _, h2, h3, h4, h5, h6⟩
  · have hnil : xs = [] := List.eq_nil_of_length_eq_zero h2
    subst hnil
    refine ⟨σ, Sig.le.refl σ, hr.le fun i c hc => ?_, ?_⟩
    · rw [hget_hdel] at hc
      split at hc
      · cases hc
      · exact hc
    · rw [h1]; exact .base _ _ (.empty _ _ _ (by simp))
  · obtain ⟨h7, h8⟩ := hr.letGo hg (g := g) (by rw [h1]; rfl) h10 (xs.length * sz)
    refine ⟨_, h7, h8, ?_⟩
    rw [h1]
    have hfl := flatten_length hsz
    refine .base _ _ (.lst _ _ _ 0 _ (fun j => (vs[j]?).getD undef) h3 h4 hsz (fun j c hc => ?_) fun j c hc => ?_)
    · obtain ⟨u, hu, _⟩ := hL.get hc
      have hj : j < xs.length * sz := by rw [← hfl]; exact (List.getElem?_eq_some_iff.1 hc).1
      unfold sigRow
      rw [if_pos ⟨rfl, rfl, by simpa using hj⟩]
      rw [hu]
      rw [← h6, List.getElem?_take] at hu
      rw [if_pos hj] at hu
      simp only [World.cell?, h2, Option.isSome_none, Bool.false_eq_true, if_false, Nat.zero_add, Option.getD_some]
      rw [← Array.getElem?_toList]; exact hu
    · obtain ⟨u, hu, hR⟩ := hL.get hc
      rw [hu]; exact hR.mono h7
/-- .. that a cell of a block names. -/
theorem turn_frzJ {b id sz : Nat} {ty e : TypeId} {cs : List AV} {xs : List (List AV)} (j : Nat) (hg : hget h b = some (.blk ty cs)) (hj : cs[j]? = some (.own id)) (hi : hget h id = some (.row e sz xs)) (h10 : Nat.ble 10 id = true) : Turns n s h s ((b, .blk ty (cs.set j (.lst sz xs))) :: hdel id h) := by
  intro E σ ι a w hr ht
  have hbi : b ≠ id := fun e => by rw [e, hi] at hg; cases hg
  obtain ⟨σ', q1, r1, q3⟩ := frz_core hr hi (Nat.ble_eq ▸ h10)
  have hgb : hget (hdel id h) b = some (.blk ty cs) := by rw [hget_hdel, if_neg (by first | exact hbi | exact fun e => hbi e.symm)]; exact hg
  obtain ⟨g, cur, e1, e2, e3⟩ := r1.ch b _ hgb
  have hsame : Ytffciebjpiljgaa.upd ι b (ι b) = ι := by funext i; unfold Ytffciebjpiljgaa.upd; split <;> simp_all
  have hnew := r1.turn (id := b) (u := ι b) (h' := (b, .blk ty (cs.set j (.lst sz xs))) :: hdel id h) (c' := .blk ty (cs.set j (.lst sz xs))) (w' := w)
    (fun i c hi hc => by rw [hget_cons, if_neg (fun e => hi e.symm)] at hc; exact ⟨hc, .inl rfl⟩) (by rw [hget_cons, if_pos rfl])
    (by rw [hsame]; exact ⟨g, cur, e1, e2, by rw [List.length_set]; exact e3.1, fun k x y hx hy => by
      rw [List.getElem?_set] at hx
      by_cases hjk : j = k
      · subst hjk
        have h5 := e3.2 j (.own id) y hj hy
        have hjl := (List.getElem?_eq_some_iff.1 hj).1
        rw [if_pos rfl, if_pos hjl] at hx
        cases hx
        rw [h5.own_inv]; exact q3
      · rw [if_neg hjk] at hx
        exact e3.2 k x y hx hy⟩)
    rfl rfl rfl (Nat.le_refl _) (fun _ _ _ => rfl) (fun g hv => .inl ⟨_, hgb, hv⟩) (.inr rfl)
  rw [hsame] at hnew
  exact ⟨σ', ι, hnew, ⟨ht.size, ht.defers, fun u => (ht.at_ u).mono q1⟩⟩
end
end Go.Proofs.Ytffciebjpiljgaa
