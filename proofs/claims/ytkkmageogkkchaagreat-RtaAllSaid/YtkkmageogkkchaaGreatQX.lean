/- What the statements' frames need besides. No condition. -/
import Derived.Test.YtkkmageogkkchaaGreatQ23
namespace Go.Proofs.YtkkmageogkkchaaGreat
set_option linter.unusedSimpArgs false
set_option linter.unusedVariables false
set_option maxRecDepth 100000
open Go.RowKit Go.ChangeShapes Go.WideShapes

/-- An argument that is a slice. -/
theorem open_slice_arg {α : Type} {H : Type} {enc : TypeId × Value → H} {P : Program} {W : World} {t e : TypeId} {r : Reach} {b0 : Nat} {R : Cod α} {k : Nat} {v : Value} {d : DataW H} {p : List MemPlace} {sp : Nat → Bool}
    (ht : P.underlying t = some (.slice e)) (hO : Opens P t (cSlice R k)) (hv : Value.okWide P W r b0 t v) (h : DataW.Trod enc P W 0 sp true t v d p) :
    ∃ A c xs, v = .slice A xs.length c ∧ xs.length ≤ c ∧ c ≤ maxLen ∧ Row R k W A xs := by
  obtain ⟨a, len, cap, rfl⟩ := okWide_slice ht hv
  obtain ⟨fuel, hf⟩ := h
  obtain ⟨xs, A, c, h1, h2, h3, h4⟩ := hO _ _ _ _ _ _ _ _ _ hf
  have h1' : (Value.slice a len cap) = .slice A xs.length c := by simpa [Value.cells] using h1
  exact ⟨A, c, xs, h1', h2, h3, h4⟩
/-- An argument that is an integer, a bool. -/
theorem open_int_arg {H : Type} {enc : TypeId × Value → H} {P : Program} {W : World} {t : TypeId} {r : Reach} {b0 : Nat} {k : IntKind} {v : Value} {d : DataW H} {p : List MemPlace} {sp : Nat → Bool}
    (ht : P.underlying t = some (.int k)) (hv : Value.okWide P W r b0 t v) (h : DataW.Trod enc P W 0 sp true t v d p) : ∃ x, v = .int k x ∧ (Lit.int k x).wf = true := by
  obtain ⟨a, rfl, _, _, w0⟩ := open_int ht hv h
  exact ⟨a, rfl, w0⟩
/-- An argument that is a struct. -/
theorem open_struct_arg {α : Type} {H : Type} {enc : TypeId × Value → H} {P : Program} {W : World} {t : TypeId} {fs : Array Field} {r : Reach} {b0 : Nat} {R : Cod α} {v : Value} {d : DataW H} {p : List MemPlace} {sp : Nat → Bool}
    (ht : P.underlying t = some (.struct fs)) (hO : Opens P t R) (hv : Value.okWide P W r b0 t v) (h : DataW.Trod enc P W 0 sp true t v d p) :
    ∃ cs x, v = .agg (List.toArray cs) ∧ R W cs x := by
  obtain ⟨cs, rfl, _⟩ := okWide_struct ht hv
  obtain ⟨fuel, hf⟩ := h
  obtain ⟨x, hx⟩ := hO _ _ _ _ _ _ _ _ _ hf
  exact ⟨cs.toList, x, by simp, by simpa [Value.cells] using hx⟩
end Go.Proofs.YtkkmageogkkchaaGreat

namespace Go.Proofs.YtkkmageogkkchaaGreat
set_option linter.unusedSimpArgs false
set_option linter.unusedVariables false
set_option maxRecDepth 100000
set_option linter.unusedVariables false
set_option linter.unusedSimpArgs false
open Go.RowKit
theorem br_int : Br (cInt .i64) eI := fun w cs x ⟨h1, h2⟩ => by subst h1; exact (L2.nil _).cons (.int _ _ (rangeP_wf.2 h2))
theorem br_u32 : Br (cInt .u32) eU := fun w cs x ⟨h1, h2⟩ => by subst h1; exact (L2.nil _).cons (.int _ _ (rangeP_wf.2 h2))
theorem br_row {α : Type} {R : Cod α} {f : α → List AV} {k : Nat} (hR : Br R f) (hk : ∀ x, (f x).length = k) {w : World} {A : Option Addr} {xs : List α} {c : Nat} (h : Row R k w A xs) (hl : xs.length ≤ c) (hm : c ≤ maxLen) :
    VR0 (sg w) (.lst k (xs.map f)) (.slice A xs.length c) := by
  cases xs with
  | nil => exact .empty _ _ _ hm
  | cons x0 xr =>
    obtain ⟨b, off, rfl, hrow⟩ := h (by simp)
    generalize hxs : x0 :: xr = xs at *
    have hex : ∀ i, i < xs.length → ∃ cs : List Value, L2 (VR0 (sg w)) (f (xs.getD i x0)) cs ∧ cs.length = k ∧ ∀ j v, cs[j]? = some v → w.cell? ⟨b, off + i * k + j, none⟩ = some v := fun i hi => by
      obtain ⟨cs, h1, h2, h3⟩ := hrow i xs[i] (List.getElem?_eq_getElem hi)
      exact ⟨cs, by simpa [hi] using hR w cs _ h1, h2, h3⟩
    obtain ⟨g, hg⟩ := Go.Deep.choose_lt hex
    have hs : ∀ c ∈ xs.map f, c.length = k := fun c hc => by obtain ⟨x, _, rfl⟩ := List.mem_map.1 hc; exact hk x
    have hfl : (xs.map f).flatten.length = xs.length * k := by rw [flatten_length hs, List.length_map]
    have hat : ∀ (j : Nat) (a : AV), (xs.map f).flatten[j]? = some a → ∃ v, w.cell? ⟨b, off + j, none⟩ = some v ∧ VR0 (sg w) a v := fun j a hj => by
      have hjl : j < xs.length * k := by rw [← hfl]; exact (List.getElem?_eq_some_iff.1 hj).1
      have hk0 : 0 < k := Nat.pos_of_ne_zero fun e => by subst e; simp at hjl
      have hi : j / k < xs.length := Nat.div_lt_of_lt_mul (by rw [Nat.mul_comm]; exact hjl)
      have hm : j % k < k := Nat.mod_lt _ hk0
      obtain ⟨h1, h2, h3⟩ := hg (j / k) hi
      have hc : (xs.map f)[j / k]? = some (f (xs.getD (j / k) x0)) := by simp [hi]
      have hlen : j % k < (f (xs.getD (j / k) x0)).length := by rw [hk]; exact hm
      have h4 := flatten_get hs hc (List.getElem?_eq_getElem hlen)
      rw [Nat.mul_comm, Nat.div_add_mod] at h4
      rw [h4] at hj; cases hj
      obtain ⟨v, hv, hv2⟩ := h1.get (List.getElem?_eq_getElem hlen)
      refine ⟨v, ?_, hv2⟩
      have := h3 _ v hv
      rwa [Nat.add_assoc, Nat.mul_comm, Nat.div_add_mod] at this
    have : (.slice (some ⟨b, off, none⟩) xs.length c : Value) = .slice (some ⟨b, off, none⟩) (xs.map f).length c := by simp
    rw [this]
    refine .lst _ _ _ _ _ (fun j => (w.cell? ⟨b, off + j, none⟩).getD undef) (by simpa using hl) hm hs (fun j a hj => ?_) fun j a hj => ?_
    · obtain ⟨v, h1, _⟩ := hat j a hj
      simp [sg, h1]
    · obtain ⟨v, h1, h2⟩ := hat j a hj
      rw [h1]; exact h2
/-- The whole: a law that returns true at these arguments. -/
theorem top {P : Program} {f : FuncId} {args : List AV} {vs : List Value} {W : World} (hf : Fn P f args (.bool true)) (hv : L2 (VR0 (sg W)) args vs) :
    Calls P f vs.toArray W fun e W' => e = .returned (.bool true) ∧ Below W.heap.size W W' := by
  refine (hf.2 (sg W) (fun _ => undef) W vs (fun _ _ h => h) (hv.mono fun _ _ h => .base _ _ h)).mono ?_
  rintro e w' ⟨u, σ', rfl, h1, h2⟩
  exact ⟨by rw [VR.bool_inv (ι := fun _ => undef) (.base _ _ h1)], ⟨h2.os, h2.tape, h2.output, h2.size, fun k hk => h2.old k hk (by simp)⟩⟩
theorem v_slice {α : Type} {R : Cod α} {f : α → List AV} {k : Nat} (hR : Br R f) (hk : ∀ x, (f x).length = k) {w : World} {A : Option Addr} {xs : List α} {c : Nat} (h : Row R k w A xs) (hl : xs.length ≤ c) (hm : c ≤ 9223372036854775807) : VR0 (sg w) (.lst k (xs.map f)) (.slice A xs.length c) :=
  br_row hR hk h hl (by simpa only [maxLen] using hm)
theorem v_int {w : World} {k : IntKind} {x : Int} (h : (Lit.int k x).wf = true) : VR0 (sg w) (.int k x) (.int k x) := .int _ _ (rangeP_wf.2 h)
theorem v_struct {α : Type} {R : Cod α} {f : α → List AV} (hR : Br R f) {w : World} {cs : List Value} {x : α} (h : R w cs x) : VR0 (sg w) (.agg (f x)) (.agg cs.toArray) := .agg _ _ (hR w cs x h).1 (hR w cs x h).2
end Go.Proofs.YtkkmageogkkchaaGreat

namespace Go.Proofs.YtkkmageogkkchaaGreat
set_option linter.unusedSimpArgs false
set_option linter.unusedVariables false
set_option maxRecDepth 100000
open Go.RowKit
theorem br_Object : Br Object.cod eObject := fun w cs x ⟨A_init, c_init, A_readers, c_readers, h1, hk, l_init, m_init, r_init, l_readers, m_readers, r_readers⟩ => by
  subst h1
  obtain ⟨h_kind, h_width, h_slots, h_cap, h_start, h_writer⟩ := hk
  exact ((((((((L2.nil _).cons (br_row br_int (fun _ => rfl) r_readers l_readers m_readers)).cons (.int _ _ (rangeP_wf.2 h_writer))).cons (br_row br_u32 (fun _ => rfl) r_init l_init m_init)).cons (.int _ _ (rangeP_wf.2 h_start))).cons (.int _ _ (rangeP_wf.2 h_cap))).cons (.int _ _ (rangeP_wf.2 h_slots))).cons (.int _ _ (rangeP_wf.2 h_width))).cons (.int _ _ (rangeP_wf.2 h_kind))
end Go.Proofs.YtkkmageogkkchaaGreat

namespace Go.Proofs.YtkkmageogkkchaaGreat
set_option linter.unusedSimpArgs false
set_option linter.unusedVariables false
set_option maxRecDepth 100000
open Go.RowKit
theorem br_Instr : Br Instr.cod eInstr := fun w cs x ⟨h1, h2⟩ => by
  subst h1
  obtain ⟨h_op, h_a, h_b, h_c, h_n⟩ := h2
  exact (((((L2.nil _).cons (.int _ _ (rangeP_wf.2 h_n))).cons (.int _ _ (rangeP_wf.2 h_c))).cons (.int _ _ (rangeP_wf.2 h_b))).cons (.int _ _ (rangeP_wf.2 h_a))).cons (.int _ _ (rangeP_wf.2 h_op))
end Go.Proofs.YtkkmageogkkchaaGreat

namespace Go.Proofs.YtkkmageogkkchaaGreat
set_option linter.unusedSimpArgs false
set_option linter.unusedVariables false
set_option maxRecDepth 100000
open Go.RowKit
theorem br_Task : Br Task.cod eTask := fun w cs x ⟨A_code, c_code, h1, hk, l_code, m_code, r_code⟩ => by
  subst h1
  obtain ⟨h_kind, h_prio, h_period, h_offset, h_deadline, h_own⟩ := hk
  exact (((((((L2.nil _).cons (br_row br_Instr (fun _ => rfl) r_code l_code m_code)).cons (.int _ _ (rangeP_wf.2 h_own))).cons (.int _ _ (rangeP_wf.2 h_deadline))).cons (.int _ _ (rangeP_wf.2 h_offset))).cons (.int _ _ (rangeP_wf.2 h_period))).cons (.int _ _ (rangeP_wf.2 h_prio))).cons (.int _ _ (rangeP_wf.2 h_kind))
end Go.Proofs.YtkkmageogkkchaaGreat

namespace Go.Proofs.YtkkmageogkkchaaGreat
set_option linter.unusedSimpArgs false
set_option linter.unusedVariables false
set_option maxRecDepth 100000
open Go.RowKit
theorem br_System : Br System.cod eSystem := fun w cs x ⟨A_tasks, c_tasks, A_objects, c_objects, h1, _, l_tasks, m_tasks, r_tasks, l_objects, m_objects, r_objects⟩ => by
  subst h1
  exact ((L2.nil _).cons (br_row br_Object (fun _ => rfl) r_objects l_objects m_objects)).cons (br_row br_Task (fun _ => rfl) r_tasks l_tasks m_tasks)
end Go.Proofs.YtkkmageogkkchaaGreat

namespace Go.Proofs.YtkkmageogkkchaaGreat
set_option linter.unusedSimpArgs false
set_option linter.unusedVariables false
set_option maxRecDepth 100000
open Go.RowKit Go.ChangeShapes Go.WideShapes
theorem open_arr2_arg {H : Type} {enc : TypeId × Value → H} {P : Program} {W : World} {t e : TypeId} {r : Reach} {b0 : Nat} {k : IntKind} {v : Value} {d : DataW H} {p : List MemPlace} {sp : Nat → Bool}
    (ht : P.underlying t = some (.array 2 e)) (he : P.underlying e = some (.int k)) (hc : P.cellsOf e = 1) (hct : P.cellsOf t = 2) (hv : Value.okWide P W r b0 t v) (h : DataW.Trod enc P W 0 sp true t v d p) :
    ∃ x y, v = .agg #[.int k x, .int k y] ∧ (Lit.int k x).wf = true ∧ (Lit.int k y).wf = true := by
  obtain ⟨cs, rfl, hsz, _⟩ : ∃ cs, v = .agg cs ∧ cs.size = P.cellsOf t ∧ True := by
    simp only [Value.okWide, ht] at hv
    obtain ⟨cs, h1, h2, _⟩ := hv
    exact ⟨cs, h1, h2, trivial⟩
  obtain ⟨fuel, hf⟩ := h
  obtain ⟨xs, m, _, _, hl, hxl, hi⟩ := DataW.trod_array ht hf
  have e1 : (Value.agg cs).cells.toList = cs.toList := by simp [Value.cells]
  rw [e1, hc] at hi
  have f0 := (hi 0 (by omega)).trans (List.getElem?_eq_getElem (show 0 < xs.length by omega))
  have f1 := (hi 1 (by omega)).trans (List.getElem?_eq_getElem (show 1 < xs.length by omega))
  obtain ⟨v0, q0, _, w0⟩ := DataW.trod_int he f0
  obtain ⟨v1, q1, _, w1⟩ := DataW.trod_int he f1
  have hl2 : cs.toList.length = 2 := by rw [Array.length_toList (xs := cs), hsz, hct]
  refine ⟨v0, v1, congrArg _ ?_, w0, w1⟩
  apply Array.toList_inj.1
  match cs.toList, hl2, q0, q1 with
  | [a, b], _, q0, q1 =>
    simp at q0 q1
    rw [q0, q1]
theorem v_arr2 {w : World} {k : IntKind} {x y : Int} (hx : (Lit.int k x).wf = true) (hy : (Lit.int k y).wf = true) : VR0 (sg w) (.agg [.int k x, .int k y]) (.agg #[.int k x, .int k y]) := by
  have h : L2 (VR0 (sg w)) [.int k x, .int k y] [Value.int k x, Value.int k y] := (((L2.nil _).cons (v_int hy)).cons (v_int hx))
  exact .agg _ [Value.int k x, Value.int k y] h.1 h.2
end Go.Proofs.YtkkmageogkkchaaGreat

