/- Literal slices, rows of the call's own. No condition. -/
import Derived.Test.YtfjoaeghnfkdlaaAvMem2
import Derived.Great.FillDense
import Derived.Laws.MakeOwn
namespace Go.Proofs.Ytfjoaeghnfkdlaa
set_option linter.unusedSimpArgs false
set_option linter.unusedVariables false
set_option maxRecDepth 100000
set_option linter.unusedVariables false
set_option linter.unusedSimpArgs false
open Go.RowKit
section
variable {P : Program} {n : Md} {Q : Exit → Slots → Heap → Prop} {s : Slots} {h : Heap} {ops : Array Oper} {rest : List Oper} {o : Oper} {K : Slots → Prop}
/-- The parts of a slice that is written out. -/
def partsA (s : Slots) : List (Nat × Operand) → Nat → Option (List (List AV))
  | [], _ => some []
  | (i, x) :: r, k => bif Nat.beq i k then (seen (evA s x) fun v => bif celQ v && pureL (celA v) then (match partsA s r (k + 1) with | some ys => some (celA v :: ys) | none => none) else none) else none
theorem partsA_spec {σ : Sig} {ι : Nat → Value} {a : Act} : ∀ (parts : List (Nat × Operand)) (k : Nat) (xs : List (List AV)), partsA s parts k = some xs → (∀ p ∈ parts, VR σ ι (evA s p.2) (a.eval p.2)) →
    parts.map (·.1) = List.range' k parts.length ∧ L2 (fun c v => L2 (VR0 σ) c v.cells.toList) xs (parts.map fun p => a.eval p.2)
  | [], k, xs, h, _ => by simp only [partsA, Option.some.injEq] at h; subst h; exact ⟨rfl, L2.nil _⟩
  | (i, x) :: r, k, xs, h, hv => by
    unfold partsA at h
    cases hb : Nat.beq i k with
    | false => rw [hb] at h; cases h
    | true =>
      have hik := Nat.eq_of_beq_eq_true hb
      subst hik
      rw [hb, cond_true, seen_eq] at h
      cases hq : celQ (evA s x) && pureL (celA (evA s x)) with
      | false => rw [hq] at h; cases h
      | true =>
        rw [hq, cond_true] at h
        split at h
        · rename_i ys hys
          cases h
          obtain ⟨h1, h2⟩ := partsA_spec r (i + 1) ys hys fun p hp => hv p (List.mem_cons_of_mem _ hp)
          simp only [Bool.and_eq_true] at hq
          refine ⟨by simp [List.range'_succ, h1], h2.cons (l2_pure ((hv (i, x) List.mem_cons_self).cel hq.1).1 hq.2)⟩
        · cases h
theorem list_of_pairs {α : Type} : ∀ (l : List (Nat × α)) (k : Nat), l.map (·.1) = List.range' k l.length → l = (((l.map (·.2)).zipIdx k).map fun x => (x.2, x.1))
  | [], k, _ => rfl
  | (i, x) :: r, k, h => by
    simp only [List.map_cons, List.length_cons, List.range'_succ, List.cons.injEq] at h
    obtain ⟨rfl, h2⟩ := h
    simp only [List.map_cons, List.zipIdx_cons, List.cons.injEq, true_and]
    exact list_of_pairs r _ h2
theorem flat_cells {sz : Nat} (hsz : 0 < sz) : ∀ (vs : List Value) (r : Array Value), (∀ v ∈ vs, v.cells.size = sz) → r.size = vs.length * sz → (∀ k, r[k]? = if k < vs.length * sz then (vs[k / sz]?).bind (fun v => v.cells[k % sz]?) else none) →
    r.toList = (vs.map fun v => v.cells.toList).flatten := by
  intro vs r hv hr hk
  apply List.ext_getElem?
  intro k
  rw [Array.getElem?_toList, hk]
  have hlen : ∀ (vs : List Value), (∀ v ∈ vs, v.cells.size = sz) → (vs.map fun v => v.cells.toList).flatten.length = vs.length * sz := by
    intro vs
    induction vs with
    | nil => intro _; simp
    | cons v vs ih => intro hv; rw [List.map_cons, List.flatten_cons, List.length_append, ih fun u hu => hv u (List.mem_cons_of_mem _ hu), Array.length_toList, hv v List.mem_cons_self, List.length_cons, Nat.add_mul]; omega
  by_cases hlt : k < vs.length * sz
  · rw [if_pos hlt]
    have : ∀ (vs : List Value) (k : Nat), (∀ v ∈ vs, v.cells.size = sz) → k < vs.length * sz → (vs[k / sz]?).bind (fun v => v.cells[k % sz]?) = (vs.map fun v => v.cells.toList).flatten[k]? := by
      intro vs
      induction vs with
      | nil => intro k _ h; simp at h
      | cons v vs ih =>
        intro k hv hk
        have hvs : v.cells.toList.length = sz := by simp [hv v List.mem_cons_self]
        rw [List.map_cons, List.flatten_cons]
        by_cases h1 : k < sz
        · rw [List.getElem?_append_left (by omega), Nat.div_eq_of_lt h1, Nat.mod_eq_of_lt h1]
          simp
        · obtain ⟨m, rfl⟩ : ∃ m, k = m + sz := ⟨k - sz, by omega⟩
          rw [List.getElem?_append_right (by omega), hvs, Nat.add_sub_cancel, Nat.add_div_right _ hsz, Nat.add_mod_right, List.getElem?_cons_succ]
          exact ih m (fun u hu => hv u (List.mem_cons_of_mem _ hu)) (by simp only [List.length_cons, Nat.add_mul] at hk; omega)
    exact this vs k hv hlt
  · rw [if_neg hlt, List.getElem?_eq_none (by rw [hlen vs hv]; omega)]
theorem l2_flatten {σ : Sig} : ∀ {xs : List (List AV)} {vs : List Value}, L2 (fun c v => L2 (VR0 σ) c v.cells.toList) xs vs → L2 (VR0 σ) xs.flatten (vs.map fun v => v.cells.toList).flatten
  | [], vs, h => by rw [L2.nil_iff] at h; subst h; exact L2.nil _
  | c :: xs, vs, h => by
    obtain ⟨v, vs', rfl, h1, h2⟩ := h.cons_inv
    exact h1.append (l2_flatten h2)
def szOk (sz : Nat) : List (List AV) → Bool
  | [] => true
  | c :: r => Nat.beq c.length sz && szOk sz r
theorem szOk_spec {sz : Nat} : ∀ {xs : List (List AV)}, szOk sz xs = true → ∀ c ∈ xs, c.length = sz
  | c :: r, h, d, hd => by
    simp only [szOk, Bool.and_eq_true] at h
    rcases List.mem_cons.1 hd with rfl | hd
    · exact Nat.eq_of_beq_eq_true h.1
    · exact szOk_spec h.2 d hd
theorem run_buildSlice {t e : TypeId} {len sz : Nat} {parts : Array (Nat × Value)} {zi : TypeInfo} {z : Value} {r : Array Value} (w : World) (ht : P.underlying t = some (.slice e)) (hz : sizeQ P e sz = true) (hzi : P.info? e = some zi) (hzz : zi.zero = some z) (hb : ¬ len * sz > 2 ^ 24)
    (hf : Instr.fill (fun i => some (i * sz, sz)) ((Array.range (len * sz)).map (z.cells[· % z.cells.size]!)) parts.toList = some r) :
    (Instr.buildSlice t len parts).run P w = .ok (.slice (some ⟨w.heap.size, 0, none⟩) len len) (w.alloc (.cells r e)) := by
  by_cases hzero : len * sz = 0
  · rw [hzero, Array.range_zero', Array.map_empty] at hf
    simp only [Instr.buildSlice, Sem.run_bind, run_underlying ht, Result.andThen_ok, sizeQ_run hz, hzero]
    simp [hf, newRow, Array.range_zero']
  · simp only [Instr.buildSlice, Sem.run_bind, run_underlying ht, Result.andThen_ok, sizeQ_run hz, hb, hzero, if_false]
    simp [zeroValue, typeInfo, hzi, hzz, hf, newRow]
/-- A slice that is written out. -/
theorem ok_buildSlice {t e : TypeId} {sz len : Nat} {parts : Array (Nat × Operand)} {xs : List (List AV)} (ho : o.op = .buildSlice t len parts) (ht : sliceE P t = some e) (hz : sizeQ P e sz = true) {z0 : List AV} (h0 : zeroA P e = some z0) (hsz : 0 < sz) (hb : len * sz ≤ 16777216)
    (hp : partsA s parts.toList 0 = some xs) (hl : parts.toList.length = len) (hs : szOk sz xs = true) : OkO P o s h (.lst sz xs) := by
  intro E σ ι a w hr hx K Q hK
  have hmem : ∀ p ∈ parts.toList, VR σ ι (evA s p.2) (a.eval p.2) := fun p hp => hx p.2 (by rw [ho]; simp only [Op.operands]; simpa using ⟨p.1, by simpa using hp⟩)
  obtain ⟨h1, h2⟩ := partsA_spec (a := a) parts.toList 0 xs hp hmem
  obtain ⟨zi, z, hzi, hzz, _⟩ := zeroA_spec h0
  have hvs : ∀ v ∈ parts.toList.map (fun p => a.eval p.2), v.cells.size = sz := fun v hv => by
    obtain ⟨j, hj⟩ := List.getElem?_of_mem hv
    have hjl : j < xs.length := by rw [h2.1]; exact (List.getElem?_eq_some_iff.1 hj).1
    have h3 := h2.2 j xs[j] v (List.getElem?_eq_getElem hjl) hj
    rw [← Array.length_toList, ← h3.1]
    exact szOk_spec hs _ (List.getElem_mem hjl)
  have hisz : zi.size = sz := by
    unfold sizeQ at hz; rw [hzi] at hz; exact Nat.eq_of_beq_eq_true hz
  have hxl : xs.length = len := by rw [h2.1, List.length_map, hl]
  have hml : (parts.toList.map (fun p => a.eval p.2)).length = len := by rw [List.length_map, hl]
  obtain ⟨r, hr1, hr2, hr3⟩ := Go.Great.fill_dense hsz (parts.toList.map (fun p => a.eval p.2)) 0 ((Array.range (len * sz)).map (z.cells[· % z.cells.size]!)) hvs (by rw [hml]; simp)
  have hparts : (parts.map fun (i, x) => (i, a.eval x)).toList = (((parts.toList.map (fun p => a.eval p.2)).zipIdx 0).map fun x => (x.2, x.1)) := by
    rw [Array.toList_map, list_of_pairs (parts.toList.map fun (i, x) => (i, a.eval x)) 0 (by simpa [Function.comp_def] using h1)]
    simp [Function.comp_def]
  have hrl : r.toList = ((parts.toList.map (fun p => a.eval p.2)).map fun v => v.cells.toList).flatten := by
    refine flat_cells hsz _ r hvs (by rw [hr2, hml]; simp) fun k => ?_
    rw [hr3 k]
    simp only [Nat.zero_mul, Nat.zero_le, true_and, Nat.zero_add, Nat.sub_zero]
    split
    · rfl
    · rename_i hk
      rw [hml] at hk
      apply Array.getElem?_eq_none; simp; omega
  have hrun : (execOp a.eval o).run P w = .ok (.value (.slice (some ⟨w.heap.size, 0, none⟩) len len)) (w.alloc (.cells r e)) := by
    have hr1' : Instr.fill (fun i => some (i * sz, sz)) ((Array.range (len * sz)).map (z.cells[· % z.cells.size]!)) (parts.map fun (i, x) => (i, a.eval x)).toList = some r := by rw [hparts]; exact hr1
    have h5 := run_buildSlice (P := P) w (sliceE_spec ht) hz hzi hzz (by omega) hr1'
    simp only [execOp, ho, Sem.run_bind, Sem.run_pure, h5, Result.andThen_ok]
  unfold Oper.wp
  rw [hrun]
  obtain ⟨g1, g2, g3⟩ := hr.newImm r.toList e
  rw [Array.toArray_toList] at g2
  have hL : L2 (VR0 σ) xs.flatten r.toList := by rw [hrl]; exact l2_flatten h2
  have hR : VR (sigNew σ w.heap.size r.toList) ι (.lst sz xs) (.slice (some ⟨w.heap.size, 0, none⟩) xs.length len) := by
    refine .base _ _ (.lst _ _ _ 0 _ (fun j => (r.toList[j]?).getD undef) (by omega) (by simp only [maxLen]; have : len ≤ len * sz := Nat.le_mul_of_pos_right _ hsz; omega) (szOk_spec hs) (fun j c hc => ?_) fun j c hc => ?_)
    · obtain ⟨u, hu, _⟩ := hL.get hc
      rw [g3, hu]; rfl
    · obtain ⟨u, hu, hR⟩ := hL.get hc
      rw [hu]; exact hR.mono g1
  rw [hxl] at hR
  exact hK _ _ _ g1 g2 hR
end
end Go.Proofs.Ytfjoaeghnfkdlaa
