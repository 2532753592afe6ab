/- Rows of the call's own that are cut from the front, of elements of one cell: a queue. No condition. -/
import Derived.Test.YtfjoaeghnfkdlaaGreatDoorB7
set_option linter.unusedSimpArgs false
set_option linter.unusedVariables false
set_option maxHeartbeats 1000000
set_option maxRecDepth 100000
namespace Go.Proofs.YtfjoaeghnfkdlaaGreatDoor
open Go.RowKit
section
variable {P : Program} {n : Md} {Q : Exit -> j6 -> j8 -> Prop} {s : j6} {h : j8} {ops : Array Oper} {rest : List Oper} {o : Oper} {K : j6 -> Prop}
theorem VM {α : Type} {f : α -> List AV} {l : List α} {t e : TypeId} {sz len : Nat} {parts : Array (Nat × Operand)} {xs : List (List AV)} {id : Nat} (ho : o.op = .buildSlice t len parts) (hgd : o.guard = none) (hco : qC o = true) (hd : qj n o.dst = true) (ht : qD P t = some e) (hz : q9 P e sz = true) {z0 : List AV} (h0 : wQ P e = some z0) (hsz : Nat.blt 0 sz = true) (hb : Nat.ble (len * sz) 16777216 = true)
  (hp : zx s parts.toList 0 = some xs) (hl : Nat.beq parts.toList.length len = true) (hs : j1E sz xs = true) (hxs : xs = l.map f) (hfr : jd id s h = true)
  (hk : O P n ops Q rest (jX s o.dst (.own id)) ((id, .row e sz (l.map f)) :: h)) : O P n ops Q (o :: rest) s h := ⟨v8 hgd fun E σ ι a w hr ht' => by
 have hsz := (by simpa [Nat.blt_eq] using hsz : 0 < sz)
 have hb := Nat.ble_eq ▸ hb
 have hl := Nat.eq_of_beq_eq_true hl
 simp only [jd, Bool.and_eq_true, Nat.ble_eq] at hfr
 have hx : ∀ x ∈ o.op.operands.toList, VR σ ι (evA s x) (a.eval x) := fun x hx => jZ (List.all_eq_true.1 hco x hx) fun t _ => ht'.at_ t
 have hmem : ∀ p ∈ parts.toList, VR σ ι (evA s p.2) (a.eval p.2) := fun p hp => hx p.2 (by rw [ho]; simp only [Op.operands]; simpa using ⟨p.1, by simpa using hp⟩)
 obtain ⟨h1, h2⟩ := zF (a := a) parts.toList 0 xs hp hmem
 obtain ⟨zi, z, hzi, hzz, _⟩ := vI h0
 have hvs : ∀ v ∈ parts.toList.map (fun p => a.eval p.2), v.cells.size = sz := fun v hv => by
  obtain ⟨j, hj⟩ := List.getElem?_of_mem hv
  have hjl : j < xs.length := by rw [h2.1]; exact (List.getElem?_eq_some_iff.1 hj).1
  have h3 := h2.2 j xs[j] v (List.getElem?_eq_getElem hjl) hj
  rw [<- Array.length_toList, <- h3.1]
  exact xF hs _ (List.getElem_mem hjl)
 have hxl : xs.length = len := by rw [h2.1, List.length_map, hl]
 have hml : (parts.toList.map (fun p => a.eval p.2)).length = len := by rw [List.length_map, hl]
 obtain ⟨r, hr1, hr2, hr3⟩ := Go.Great.fill_dense hsz (parts.toList.map (fun p => a.eval p.2)) 0 ((Array.range (len * sz)).map (z.cells[· % z.cells.size]!)) hvs (by rw [hml]; simp)
 have hparts : (parts.map fun (i, x) => (i, a.eval x)).toList = (((parts.toList.map (fun p => a.eval p.2)).zipIdx 0).map fun x => (x.2, x.1)) := by
  rw [Array.toList_map, y4 (parts.toList.map fun (i, x) => (i, a.eval x)) 0 (by simpa [Function.comp_def] using h1)]
  simp [Function.comp_def]
 have hrl : r.toList = ((parts.toList.map (fun p => a.eval p.2)).map fun v => v.cells.toList).flatten := by
  refine Qg hsz _ r hvs (by rw [hr2, hml]; simp) fun k => ?_
  rw [hr3 k]
  simp only [Nat.zero_mul, Nat.zero_le, true_and, Nat.zero_add, Nat.sub_zero]
  split
  ·rfl
  ·rename_i hk
   rw [hml] at hk
   apply Array.getElem?_eq_none; simp; omega
 have hrun : (execOp a.eval o).run P w = .ok (.value (.slice (some ⟨w.heap.size, 0, none⟩) len len)) (w.alloc (.cells r e)) := by
  have hr1' : Instr.fill (fun i => some (i * sz, sz)) ((Array.range (len * sz)).map (z.cells[· % z.cells.size]!)) (parts.map fun (i, x) => (i, a.eval x)).toList = some r := by rw [hparts]; exact hr1
  have h5 := zH (P := P) w (qF ht) hz hzi hzz (by omega) hr1'
  simp only [execOp, ho, Sem.run_bind, Sem.run_pure, h5, Result.andThen_ok]
 have hL : L2 (VR0 σ) xs.flatten r.toList := by rw [hrl]; exact zl h2
 have hrs : r.size = len * sz := by
  have h9 := hL.1
  rw [qM (xF hs), hxl] at h9
  rw [<- Array.length_toList (xs := r), <- h9]
 have hnew := hr.turn (id := id) (u := .slice (some ⟨w.heap.size, 0, none⟩) len len) (h' := (id, .row e sz (l.map f)) :: h) (c' := .row e sz (l.map f)) (w' := w.alloc (.cells r e))
  (fun i c hi hc => by
    rw [j7, if_neg (fun e => hi e.symm)] at hc
    exact ⟨hc, .inr (ju hfr.2 i c hc).2⟩)
  (by rw [j7, if_pos rfl])
  ⟨hsz, by rw [<- hxs]; exact xF hs, r.toList, by
   rw [jM, <- hxs, hxl]
   have hll : len <= len * sz := Nat.le_mul_of_pos_right _ hsz
   exact ⟨by rw [Array.length_toList (xs := r)]; exact hrs, .inr ⟨w.heap.size, len, r, rfl, Nat.zero_le _, heap_alloc_new w _, Nat.le_refl _, by simp only [maxLen]; omega, hrs, by rw [<- hrs, <- Array.length_toList (xs := r)]; exact List.take_length⟩⟩, by rw [<- hxs]; exact hL⟩
  rfl rfl rfl (by simp) (fun k hk _ => Below.heap_alloc _ _ _ hk) (fun g hv => by cases hv; exact .inr (Nat.le_refl _)) (.inl hfr.1.1)
 unfold Oper.wp
 rw [hrun]
 refine hk.out E σ _ _ _ hnew ((ht'.upd hfr.1.1 hfr.1.2 _).putS hd ?_)
 have h5 := VR.own (σ := σ) (ι := upd ι id (.slice (some ⟨w.heap.size, 0, none⟩) len len)) id (by rw [jM]; rfl)
 rwa [jM] at h5⟩
end
end Go.Proofs.YtfjoaeghnfkdlaaGreatDoor
