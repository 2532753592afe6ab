/- slices.Clone at []coxswain/api.Instr,coxswain/api.Instr; no condition but a size. -/
import Derived.Test.YtnijdaidmpjccaaTyInstr
import Derived.Test.YtnijdaidmpjccaaOwn
namespace Go.Proofs.Ytnijdaidmpjccaa
set_option linter.unusedSimpArgs false
set_option linter.unusedVariables false
open Go.RowKit

theorem elt_Instr : Elt Try.prog 27 34 5 40 := Elt.mk_ Try.underlying27 (by decide) (by kernel_rfl)
set_option maxHeartbeats 400000 in
theorem cloneInstr_any (A : Option Addr) (c : Nat) (ys : List Instr) (w : World) (hr : Row Instr.cod 5 w A ys) (hn : ys.length ≤ 1000000) :
    Calls Try.prog 42 #[.slice A ys.length c] w fun e w' => ∃ v, e = .returned v ∧ Own Instr.cells 5 34 w.heap.size w' v ys ∧ Below w.heap.size w w' := by
  have heq := fun (W : World) => Lib.run_eql_slice_nil (P := Try.prog) W 27 34 A ys.length c 0 0 Try.underlying27
  cases A with
  | none =>
    have h0 : ys = [] := by
      cases ys with
      | nil => rfl
      | cons y yr => obtain ⟨_, _, h, _⟩ := hr (by simp); cases h
    subst h0
    simp only [Option.isNone, List.length_nil] at heq
    go_enter Try.func42, Try.ntmps42
    go_wp2
    go_ret
    exact ⟨_, rfl, Own.nil _ _ _ _ _, Below.refl _ _⟩
  | some a =>
    simp only [Option.isNone] at heq
    have hrk := hide hr
    clear hr
    go_enter Try.func42, Try.ntmps42
    go_wp2_with (first
      | (at_builtin; refine wpList_cat rfl (.tmp 5) (.tmp 6) _ rfl elt_Instr Instr.cells (fun _ => rfl) w.heap.size (.slice (some ⟨w.heap.size, 0, none⟩) 0 0) [] rfl ⟨rfl, .inr ⟨w.heap.size, 0, #[], rfl, Nat.le_refl _, heap_alloc_new w _, Nat.le_refl _, Nat.zero_le _, rfl, rfl⟩⟩ (some a) ys.length c ys rfl rfl (hrk.out.ext Instr.mono (Ext.below ((Below.refl _ _).alloc (Nat.le_refl _) _))) (fun _ _ h => h.1) (by simp [Instr.cells, Value.oneCell']) (by simp; omega) (by simp; omega) (by simp) ?_; intro v1 w1 hown1 hb1))
    go_ret
    exact ⟨_, rfl, by simpa using hown1, ((Below.refl _ _).alloc (Nat.le_refl _) _).trans hb1⟩
end Go.Proofs.Ytnijdaidmpjccaa
