/- What the statements' frames need besides. No condition. -/
import Derived.Test.YtffciebjpiljgaaG25
namespace Go.Proofs.Ytffciebjpiljgaa
set_option linter.unusedSimpArgs false
set_option linter.unusedVariables false
set_option maxRecDepth 100000
open Go.RowKit Go.ChangeShapes Go.WideShapes

/-- An argument that is a struct. -/
theorem open_struct_arg {α : Type} {H : Type} {enc : TypeId × Value → H} {P : Program} {W : World} {t : TypeId} {fs : Array Field} {r : Reach} {b0 : Nat} {R : Cod α} {v : Value} {d : DataW H} {p : List MemPlace} {sp : Nat → Bool}
    (ht : P.underlying t = some (.struct fs)) (hO : Opens P t R) (hv : Value.okWide P W r b0 t v) (h : DataW.Trod enc P W 0 sp true t v d p) :
    ∃ cs x, v = .agg (List.toArray cs) ∧ R W cs x := by
  obtain ⟨cs, rfl, _⟩ := okWide_struct ht hv
  obtain ⟨fuel, hf⟩ := h
  obtain ⟨x, hx⟩ := hO _ _ _ _ _ _ _ _ _ hf
  exact ⟨cs.toList, x, by simp, by simpa [Value.cells] using hx⟩
end Go.Proofs.Ytffciebjpiljgaa

namespace Go.Proofs.Ytffciebjpiljgaa
set_option linter.unusedSimpArgs false
set_option linter.unusedVariables false
set_option maxRecDepth 100000
set_option linter.unusedVariables false
set_option linter.unusedSimpArgs false
open Go.RowKit
theorem br_int : Br (cInt .i64) eI := fun w cs x ⟨h1, h2⟩ => by subst h1; exact (L2.nil _).cons (.int _ _ (rangeP_wf.2 h2))
theorem br_u32 : Br (cInt .u32) eU := fun w cs x ⟨h1, h2⟩ => by subst h1; exact (L2.nil _).cons (.int _ _ (rangeP_wf.2 h2))
theorem br_row {α : Type} {R : Cod α} {f : α → List AV} {k : Nat} (hR : Br R f) (hk : ∀ x, (f x).length = k) {w : World} {A : Option Addr} {xs : List α} {c : Nat} (h : Row R k w A xs) (hl : xs.length ≤ c) (hm : c ≤ maxLen) :
    VR0 (sg w) (.lst k (xs.map f)) (.slice A xs.length c) := by
  cases xs with
  | nil => exact .empty _ _ _ hm
  | cons x0 xr =>
    obtain ⟨b, off, rfl, hrow⟩ := h (by simp)
    generalize hxs : x0 :: xr = xs at *
    have hex : ∀ i, i < xs.length → ∃ cs : List Value, L2 (VR0 (sg w)) (f (xs.getD i x0)) cs ∧ cs.length = k ∧ ∀ j v, cs[j]? = some v → w.cell? ⟨b, off + i * k + j, none⟩ = some v := fun i hi => by
      obtain ⟨cs, h1, h2, h3⟩ := hrow i xs[i] (List.getElem?_eq_getElem hi)
      exact ⟨cs, by simpa [hi] using hR w cs _ h1, h2, h3⟩
    obtain ⟨g, hg⟩ := Go.Deep.choose_lt hex
    have hs : ∀ c ∈ xs.map f, c.length = k := fun c hc => by obtain ⟨x, _, rfl⟩ := List.mem_map.1 hc; exact hk x
    have hfl : (xs.map f).flatten.length = xs.length * k := by rw [flatten_length hs, List.length_map]
    have hat : ∀ (j : Nat) (a : AV), (xs.map f).flatten[j]? = some a → ∃ v, w.cell? ⟨b, off + j, none⟩ = some v ∧ VR0 (sg w) a v := fun j a hj => by
      have hjl : j < xs.length * k := by rw [← hfl]; exact (List.getElem?_eq_some_iff.1 hj).1
      have hk0 : 0 < k := Nat.pos_of_ne_zero fun e => by subst e; simp at hjl
      have hi : j / k < xs.length := Nat.div_lt_of_lt_mul (by rw [Nat.mul_comm]; exact hjl)
      have hm : j % k < k := Nat.mod_lt _ hk0
      obtain ⟨h1, h2, h3⟩ := hg (j / k) hi
      have hc : (xs.map f)[j / k]? = some (f (xs.getD (j / k) x0)) := by simp [hi]
      have hlen : j % k < (f (xs.getD (j / k) x0)).length := by rw [hk]; exact hm
      have h4 := flatten_get hs hc (List.getElem?_eq_getElem hlen)
      rw [Nat.mul_comm, Nat.div_add_mod] at h4
      rw [h4] at hj; cases hj
      obtain ⟨v, hv, hv2⟩ := h1.get (List.getElem?_eq_getElem hlen)
      refine ⟨v, ?_, hv2⟩
      have := h3 _ v hv
      rwa [Nat.add_assoc, Nat.mul_comm, Nat.div_add_mod] at this
    have : (.slice (some ⟨b, off, none⟩) xs.length c : Value) = .slice (some ⟨b, off, none⟩) (xs.map f).length c := by simp
    rw [this]
    refine .lst _ _ _ _ _ (fun j => (w.cell? ⟨b, off + j, none⟩).getD undef) (by simpa using hl) hm hs (fun j a hj => ?_) fun j a hj => ?_
    · obtain ⟨v, h1, _⟩ := hat j a hj
      simp [sg, h1]
    · obtain ⟨v, h1, h2⟩ := hat j a hj
      rw [h1]; exact h2
/-- The whole: a law that returns true at these arguments. -/
theorem top {P : Program} {f : FuncId} {args : List AV} {vs : List Value} {W : World} (hf : Fn P f args (.bool true)) (hv : L2 (VR0 (sg W)) args vs) :
    Calls P f vs.toArray W fun e W' => e = .returned (.bool true) ∧ Below W.heap.size W W' := by
  refine (hf.2 (sg W) (fun _ => undef) W vs (fun _ _ h => h) (hv.mono fun _ _ h => .base _ _ h)).mono ?_
  rintro e w' ⟨u, σ', rfl, h1, h2⟩
  exact ⟨by rw [VR.bool_inv (ι := fun _ => undef) (.base _ _ h1)], ⟨h2.os, h2.tape, h2.output, h2.size, fun k hk => h2.old k hk (by simp)⟩⟩
theorem v_struct {α : Type} {R : Cod α} {f : α → List AV} (hR : Br R f) {w : World} {cs : List Value} {x : α} (h : R w cs x) : VR0 (sg w) (.agg (f x)) (.agg cs.toArray) := .agg _ _ (hR w cs x h).1 (hR w cs x h).2
end Go.Proofs.Ytffciebjpiljgaa

namespace Go.Proofs.Ytffciebjpiljgaa
set_option linter.unusedSimpArgs false
set_option linter.unusedVariables false
set_option maxRecDepth 100000
open Go.RowKit
theorem br_Instr : Br Instr.cod eInstr := fun w cs x ⟨h1, h2⟩ => by
  subst h1
  obtain ⟨h_op, h_a, h_b, h_c, h_n⟩ := h2
  exact (((((L2.nil _).cons (.int _ _ (rangeP_wf.2 h_n))).cons (.int _ _ (rangeP_wf.2 h_c))).cons (.int _ _ (rangeP_wf.2 h_b))).cons (.int _ _ (rangeP_wf.2 h_a))).cons (.int _ _ (rangeP_wf.2 h_op))
end Go.Proofs.Ytffciebjpiljgaa

namespace Go.Proofs.Ytffciebjpiljgaa
set_option linter.unusedSimpArgs false
set_option linter.unusedVariables false
set_option maxRecDepth 100000
open Go.RowKit
theorem br_Case13 : Br Case13.cod eCase13 := fun w cs x ⟨A_tn, c_tn, A_p, c_p, A_l, c_l, h1, hk, l_tn, m_tn, r_tn, l_p, m_p, r_p, l_l, m_l, r_l⟩ => by
  subst h1
  obtain ⟨h_pc, h_r0, h_r1, h_r2, h_r3, h_r4, h_r5, h_r6, h_r7, h_at_, h_len⟩ := hk
  exact ((((((((((((((L2.nil _).cons (.int _ _ (rangeP_wf.2 h_len))).cons (.int _ _ (rangeP_wf.2 h_at_))).cons (br_row br_u32 (fun _ => rfl) r_l l_l m_l)).cons (br_row br_Instr (fun _ => rfl) r_p l_p m_p)).cons (br_row br_int (fun _ => rfl) r_tn l_tn m_tn)).cons (.int _ _ (rangeP_wf.2 h_r7))).cons (.int _ _ (rangeP_wf.2 h_r6))).cons (.int _ _ (rangeP_wf.2 h_r5))).cons (.int _ _ (rangeP_wf.2 h_r4))).cons (.int _ _ (rangeP_wf.2 h_r3))).cons (.int _ _ (rangeP_wf.2 h_r2))).cons (.int _ _ (rangeP_wf.2 h_r1))).cons (.int _ _ (rangeP_wf.2 h_r0))).cons (.int _ _ (rangeP_wf.2 h_pc))
end Go.Proofs.Ytffciebjpiljgaa

