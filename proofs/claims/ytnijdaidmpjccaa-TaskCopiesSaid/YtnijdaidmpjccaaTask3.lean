/- A task's copy, and whether two tasks are the same; no condition but a size. -/
import Derived.Test.YtnijdaidmpjccaaTask2
import Derived.Test.YtnijdaidmpjccaaEqInstr
import Derived.Test.YtnijdaidmpjccaaClInstr
namespace Go.Proofs.Ytnijdaidmpjccaa
set_option linter.unusedSimpArgs false
set_option linter.unusedVariables false
open Go.RowKit

/-- A task's value: its numbers, and where its program lies. -/
abbrev taskV (t : Task) (v : Value) : Value := .agg #[.int .i64 t.kind, .int .i64 t.prio, .int .i64 t.period, .int .i64 t.offset, .int .i64 t.deadline, .int .i64 t.own, v]

theorem bcell {W w1 : World} (hb : Below W.heap.size W w1) : (∀ b o, b < W.heap.size → w1.cell? ⟨b, o, none⟩ = W.cell? ⟨b, o, none⟩) ∧ (∀ b o, b < W.heap.size → w1.frozen? ⟨b, o, none⟩ = W.frozen? ⟨b, o, none⟩) :=
  ⟨fun b o h => hb.cell (p := ⟨b, o, none⟩) h, fun b o h => hb.frozen (p := ⟨b, o, none⟩) h⟩

theorem Task.eqv (s t : Task) : decide (s = t) = (decide (s.code = t.code) && (s.kind == t.kind && (s.prio == t.prio && (s.period == t.period && (s.offset == t.offset && (s.deadline == t.deadline && s.own == t.own)))))) := by
  rw [Bool.eq_iff_iff]
  simp
  constructor
  · rintro rfl; simp
  · rintro ⟨h1, h2, h3, h4, h5, h6, h7⟩; exact Task.ext_ ⟨h2, h3, h4, h5, h6, h7, h1⟩
set_option maxHeartbeats 1000000 in
theorem copy_any (A : Option Addr) (c : Nat) (t : Task) (w : World) (hr : Row Instr.cod 5 w A t.code) (hn : t.code.length ≤ 1000000) :
    Calls Try.prog 13 #[taskV t (.slice A t.code.length c)] w fun e w' => ∃ v, e = .returned (taskV t v) ∧ Own Instr.cells 5 34 w.heap.size w' v t.code ∧ Below w.heap.size w w' := by
  have hrk := hide hr
  clear hr
  go_enter Try.func13, Try.ntmps13
  go_wp2_with fail
  refine (cloneInstr_any A c t.code _ (hrk.out.ext Instr.mono (Ext.below (((Below.refl _ _).alloc (Nat.le_refl _) _).alloc (by simp) _))) hn).mono ?_
  rintro e w1 ⟨v1, rfl, hown1, hb1⟩
  obtain ⟨A1, c1, rfl, _, _⟩ := hown1.form
  obtain ⟨hc, hf⟩ := bcell hb1
  have hz := hb1.size
  simp at hz
  have hb2 : Below w.heap.size w w1 := (((Below.refl _ _).alloc (Nat.le_refl _) _).alloc (by simp) _).trans (hb1.mono (by simp; omega))
  have hcs : ∀ i, w1.cell? ⟨w.heap.size, i, none⟩ = _ := fun i => hc w.heap.size i (by simp; omega)
  have hcs2 : ∀ i, w1.cell? ⟨w.heap.size + 1, i, none⟩ = _ := fun i => hc (w.heap.size + 1) i (by simp)
  have hfs : ∀ i, w1.frozen? ⟨w.heap.size, i, none⟩ = _ := fun i => hf w.heap.size i (by simp; omega)
  have hfs2 : ∀ i, w1.frozen? ⟨w.heap.size + 1, i, none⟩ = _ := fun i => hf (w.heap.size + 1) i (by simp)
  have H1 := hide hb1; have H2 := hide hb2; have HO := hide hown1
  clear hb1 hb2 hown1 hc hf
  simp at hcs hcs2 hfs hfs2
  go_wp2_with fail
  refine bodyPost_ret (v := taskV t (.slice A1 t.code.length c1)) (by simp [results, Try.results13, go_sem, hcs, hcs2, hfs, hfs2]) rfl ⟨_, rfl, ?_, ?_⟩
  · refine Own.base (B := w.heap.size + 1 + 1) ?_ (by omega)
    have HO' := HO.out
    simp only [World.size_alloc] at HO'
    repeat (refine Own.setBelow ?_ (by simp; try omega) _)
    exact HO'
  · repeat (refine Below.setCell ?_ (by simp; try omega) _)
    exact H2.out

set_option maxHeartbeats 1000000 in
theorem same_any (A B : Option Addr) (c d : Nat) (s t : Task) (w : World) (hs : Row Instr.cod 5 w A s.code) (ht : Row Instr.cod 5 w B t.code) (hn : s.code.length ≤ 1000000) (hm : t.code.length ≤ 1000000) :
    Calls Try.prog 15 #[taskV s (.slice A s.code.length c), taskV t (.slice B t.code.length d)] w fun e w' => e = .returned (.bool (decide (s = t))) ∧ Below w.heap.size w w' := by
  have hbA : ∀ W, Ext w W → Row Instr.cod 5 W A s.code := fun W h => hs.ext Instr.mono h
  have hbB : ∀ W, Ext w W → Row Instr.cod 5 W B t.code := fun W h => ht.ext Instr.mono h
  have HA := hide hbA; have HB := hide hbB
  clear hbA hbB hs ht
  go_enter Try.func15, Try.ntmps15
  go_wp2_with (first
    | (go_at_call 44; refine (equalInstr_any _ _ _ _ _ _ _ (HA.out _ (Ext.below (((Below.refl _ _).alloc (Nat.le_refl _) _).alloc (by simp) _))) (HB.out _ (Ext.below (((Below.refl _ _).alloc (Nat.le_refl _) _).alloc (by simp) _))) (by omega) (by omega)).mono ?_; rintro e w' ⟨rfl, m, rfl⟩))
  all_goals
    go_ret
    exact ⟨rbool (by rw [Task.eqv]; simp_all), by repeat (first | exact Below.refl _ _ | refine belowDrew ?_ _ | refine Below.alloc ?_ (by simp) _)⟩
theorem same_n {A B : Option Addr} {n m c d : Nat} (s t : Task) {w : World} (hA : s.code.length = n) (hB : t.code.length = m) (hs : Row Instr.cod 5 w A s.code) (ht : Row Instr.cod 5 w B t.code) (hn : s.code.length ≤ 1000000) (hm : t.code.length ≤ 1000000) :
    Calls Try.prog 15 #[taskV s (.slice A n c), taskV t (.slice B m d)] w fun e w' => e = .returned (.bool (decide (s = t))) ∧ Below w.heap.size w w' := by
  subst hA; subst hB; exact same_any A B c d s t w hs ht hn hm
set_option maxHeartbeats 1000000 in
theorem plainTask_any (A B : Option Addr) (c d : Nat) (s t : Task) (w : World) (hs : Row Instr.cod 5 w A s.code) (ht : Row Instr.cod 5 w B t.code) (hn : s.code.length ≤ 1000000) (hm : t.code.length ≤ 1000000) :
    Calls Try.prog 14 #[taskV s (.slice A s.code.length c), taskV t (.slice B t.code.length d)] w fun e w' => e = .returned (.bool (decide (s = t))) ∧ Below w.heap.size w w' := by
  have hbA : ∀ W, Ext w W → Row Instr.cod 5 W A s.code := fun W h => hs.ext Instr.mono h
  have hbB : ∀ W, Ext w W → Row Instr.cod 5 W B t.code := fun W h => ht.ext Instr.mono h
  have HA := hide hbA; have HB := hide hbB
  clear hbA hbB hs ht
  go_enter Try.func14, Try.ntmps14
  go_wp2_with (first
    | (go_at_call 43; refine (code_any _ _ _ _ _ _ _ (HA.out _ (Ext.below (((Below.refl _ _).alloc (Nat.le_refl _) _).alloc (by simp) _))) (HB.out _ (Ext.below (((Below.refl _ _).alloc (Nat.le_refl _) _).alloc (by simp) _))) (by omega) (by omega)).mono ?_; rintro e w' ⟨rfl, m, rfl⟩))
  all_goals
    go_ret
    exact ⟨rbool (by rw [Task.eqv]; simp_all), by repeat (first | exact Below.refl _ _ | refine belowDrew ?_ _ | refine Below.alloc ?_ (by simp) _)⟩
theorem plainTask_n {A B : Option Addr} {n m c d : Nat} (s t : Task) {w : World} (hA : s.code.length = n) (hB : t.code.length = m) (hs : Row Instr.cod 5 w A s.code) (ht : Row Instr.cod 5 w B t.code) (hn : s.code.length ≤ 1000000) (hm : t.code.length ≤ 1000000) :
    Calls Try.prog 14 #[taskV s (.slice A n c), taskV t (.slice B m d)] w fun e w' => e = .returned (.bool (decide (s = t))) ∧ Below w.heap.size w w' := by
  subst hA; subst hB; exact plainTask_any A B c d s t w hs ht hn hm
end Go.Proofs.Ytnijdaidmpjccaa
