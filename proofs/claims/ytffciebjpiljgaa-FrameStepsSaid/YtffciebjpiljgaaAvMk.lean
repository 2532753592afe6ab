/- A new slice that nothing turns: a list from its birth. No condition. -/
import Derived.Test.YtffciebjpiljgaaAvDrM
namespace Go.Proofs.Ytffciebjpiljgaa
set_option linter.unusedSimpArgs false
set_option linter.unusedVariables false
set_option maxRecDepth 100000
set_option linter.unusedSimpArgs false
set_option linter.unusedVariables false
open Go.RowKit
section
variable {P : Program} {n : Md} {s : Slots} {h : Heap} {o : Oper}
theorem ok_mkl {α : Type} {f : α → List AV} {d : α} {t e : TypeId} {x y : Operand} {sz by_ m : Nat} {k k' : IntKind} {z0 : List AV} (ho : o.op = .makeSlice t x y) (ht : sliceE P t = some e) (h0 : zeroA P e = some z0) (hz : sizeQ P e sz = true) (hz0 : z0 = f d) (hzl : Nat.beq z0.length sz = true) (hsz : Nat.blt 0 sz = true) (hby : bytesQ P e by_ = true)
    (hx : evA s x = .int k m) (hy : evA s y = .int k' m) (hb : m * by_ ≤ 140737488355328) (hm : m ≤ 9223372036854775807) : OkO P o s h (.lst sz ((List.replicate m d).map f)) := fun E σ ι a w hr hv K Q hK => by
  have hzl := Nat.eq_of_beq_eq_true hzl
  have hsz : 0 < sz := by simpa [Nat.blt_eq] using hsz
  have hX : VR σ ι (evA s x) (a.eval x) := hv x (by rw [ho]; simp [Op.operands])
  have hY : VR σ ι (evA s y) (a.eval y) := hv y (by rw [ho]; simp [Op.operands])
  rw [hx] at hX
  rw [hy] at hY
  obtain ⟨zi, z, hzi, hzz, hzL⟩ := zeroA_spec h0
  have hisz : zi.size = sz := by unfold sizeQ at hz; rw [hzi] at hz; exact Nat.eq_of_beq_eq_true hz
  have hiby : zi.bytes = by_ := by unfold bytesQ at hby; rw [hzi] at hby; exact Nat.eq_of_beq_eq_true hby
  have hzs : z.cells.size = sz := by rw [← Array.length_toList, ← (hzL σ).1, hzl]
  have hb' : (zi.bytes : Int) * (m : Int) ≤ 281474976710656 := by
    have h : ((zi.bytes * m : Nat) : Int) ≤ 281474976710656 := by rw [hiby, Nat.mul_comm]; omega
    rwa [Int.natCast_mul] at h
  have h1 := run_make (P := P) w t e zi z (sliceE_spec ht) hzi hzz k k' m m (by omega) (Int.le_refl _) hb' (by omega)
  simp only [Int.toNat_natCast, hisz] at h1
  unfold Oper.wp
  have hrun : (execOp a.eval o).run P w = .ok (.value (.slice (some ⟨w.heap.size, 0, none⟩) m m)) (w.alloc (.cells (madeCells z.cells (m * sz)) e)) := by
    simp only [execOp, ho, hX.int_inv.1, hY.int_inv.1, Sem.run_bind, Sem.run_pure, h1, Result.andThen_ok]
  rw [hrun]
  have hL : L2 (VR0 σ) ((List.replicate m d).map f).flatten (madeCells z.cells (m * sz)).toList := by
    have hlen : ((List.replicate m d).map f).flatten.length = m * sz := by
      rw [flatten_length (sz := sz)]
      · simp
      · intro c hc
        obtain ⟨q, hq, rfl⟩ := List.mem_map.1 hc
        rw [List.eq_of_mem_replicate hq, ← hz0]; exact hzl
    refine ⟨by rw [hlen, Array.length_toList, size_madeCells], fun j c u hc hu => ?_⟩
    have hj : j < m * sz := by rw [← hlen]; exact (List.getElem?_eq_some_iff.1 hc).1
    have hjs : j % sz < sz := Nat.mod_lt _ hsz
    have hjm : j / sz < m := Nat.div_lt_of_lt_mul (by rw [Nat.mul_comm]; exact hj)
    have hc2 : ((List.replicate m d).map f).flatten[j]? = some (z0[j % sz]'(by omega)) := by
      have := flatten_get (sz := sz) (xs := (List.replicate m d).map f) (i := j / sz) (j := j % sz) (c := z0) (x := z0[j % sz]'(by omega)) (fun c hc => by
        obtain ⟨q, hq, rfl⟩ := List.mem_map.1 hc
        rw [List.eq_of_mem_replicate hq, ← hz0]; exact hzl) (by simp [hjm, hz0]) (List.getElem?_eq_getElem _)
      rwa [Nat.mul_comm, Nat.div_add_mod] at this
    rw [hc2] at hc
    cases hc
    have hu2 : (z.cells.toList)[j % sz]? = some u := by
      rw [Array.getElem?_toList] at hu
      simp only [madeCells, Array.getElem?_map, Array.getElem?_range, hj, if_true, Option.map_some, Option.some.injEq, hzs] at hu
      rw [Array.getElem?_toList, ← hu]
      have : j % sz < z.cells.size := by omega
      simp [this]
    exact (hzL σ).2 _ _ u (List.getElem?_eq_getElem _) hu2
  obtain ⟨g1, g2, g3⟩ := hr.newImm (madeCells z.cells (m * sz)).toList e
  rw [Array.toArray_toList] at g2
  have hsl : ∀ c ∈ (List.replicate m d).map f, c.length = sz := fun c hc => by
    obtain ⟨q, hq, rfl⟩ := List.mem_map.1 hc
    rw [List.eq_of_mem_replicate hq, ← hz0]; exact hzl
  have hlen : ((List.replicate m d).map f).length = m := by simp
  have hR : VR (sigNew σ w.heap.size (madeCells z.cells (m * sz)).toList) ι (.lst sz ((List.replicate m d).map f)) (.slice (some ⟨w.heap.size, 0, none⟩) ((List.replicate m d).map f).length m) := by
    refine .base _ _ (.lst _ _ _ 0 _ (fun j => ((madeCells z.cells (m * sz)).toList[j]?).getD undef) (by rw [hlen]; exact Nat.le_refl _) (by simp only [maxLen]; omega) hsl (fun j c hc => ?_) fun j c hc => ?_)
    · obtain ⟨u, hu, _⟩ := hL.get hc
      rw [g3, hu]; rfl
    · obtain ⟨u, hu, hR⟩ := hL.get hc
      rw [hu]; exact hR.mono g1
  rw [hlen] at hR
  exact hK _ _ _ g1 g2 hR
end
end Go.Proofs.Ytffciebjpiljgaa
