/- Where an instruction leads; no condition. -/
import Derived.Test.YtffciebjpiljgaaIsa2
namespace Go.Proofs.Ytffciebjpiljgaa
set_option linter.unusedSimpArgs false
set_option linter.unusedVariables false
set_option maxRecDepth 100000
open Go.RowKit

theorem target_k4 {op : Int} (h : 0 ≤ op ∧ op < 22) : decide ((kindsOf op).2.2.2 = 4) = decide (14 ≤ op ∧ op ≤ 16) := by
  obtain ⟨k, rfl⟩ := Int.eq_ofNat_of_zero_le h.1
  have hk : k < 22 := by omega
  revert hk; clear h; intro hk
  match k, hk with
  | 0, _ => rfl
  | 1, _ => rfl
  | 2, _ => rfl
  | 3, _ => rfl
  | 4, _ => rfl
  | 5, _ => rfl
  | 6, _ => rfl
  | 7, _ => rfl
  | 8, _ => rfl
  | 9, _ => rfl
  | 10, _ => rfl
  | 11, _ => rfl
  | 12, _ => rfl
  | 13, _ => rfl
  | 14, _ => rfl
  | 15, _ => rfl
  | 16, _ => rfl
  | 17, _ => rfl
  | 18, _ => rfl
  | 19, _ => rfl
  | 20, _ => rfl
  | 21, _ => rfl
  | n + 22, h => exact absurd h (by omega)
def tgtI (x : Instr) : Int := if leadsI x then x.n else 0
set_option maxHeartbeats 4000000 in
theorem target_any (x : Instr) (w : World) (hx : x.ok) : Calls Try.prog 110 #[instrV x] w fun e w' => e = .returned (.tuple #[.int .i64 (tgtI x), .bool (leadsI x)]) ∧ Below w.heap.size w w' := by
  obtain ⟨hn1, hn2⟩ := Go.bounds_u32 hx.2.2.2.2
  by_cases hr : rightI x = true
  · have h : 0 ≤ x.op ∧ x.op < 22 := by simp [rightI] at hr; exact hr.1
    obtain ⟨s1, s2, s3, hix⟩ := shape_ix x.op h
    have h4 := target_k4 h
    have cR : Hid (∀ w0, Calls Try.prog 103 #[instrV x] w0 fun e w' => e = .returned (.bool true) ∧ Below w0.heap.size w0 w') := hide (fun w0 => by have := right_any x w0 hx; rwa [hr] at this)
    have htL : ((kindsOf x.op).2.2.2 = 4) → leadsI x = true ∧ tgtI x = x.n := fun e => by
      have : leadsI x = true := by rw [leadsI, hr, ← h4, e]; rfl
      exact ⟨this, by rw [tgtI, this]; rfl⟩
    have htN : ¬ ((kindsOf x.op).2.2.2 = 4) → leadsI x = false ∧ tgtI x = 0 := fun e => by
      have : leadsI x = false := by rw [leadsI, hr, ← h4, decide_eq_false e]; rfl
      exact ⟨this, by rw [tgtI, this]; rfl⟩
    have htL := hide htL
    have htN := hide htN
    clear h4 hr
    generalize (kindsOf x.op).1 = k1 at *
    generalize (kindsOf x.op).2.1 = k2 at *
    generalize (kindsOf x.op).2.2.1 = k3 at *
    generalize (kindsOf x.op).2.2.2 = k4 at *
    have hf : ∀ W, (Instr.field 164 (.agg #[.string s1, .int .i64 k1, .int .i64 k2, .int .i64 k3, .int .i64 k4, .string s2, .string s3]) 4).run Try.prog W = .ok (.int .i64 k4) W := fun W => by kernel_rfl
    by_cases hk : k4 = 4
    · obtain ⟨e1, e2⟩ := htL.out hk
      rw [e1, e2]
      clear htL htN e1 e2
      subst hk
      go_enter Try.func110, Try.ntmps110
      go_wp2_with fail
      obtain ⟨w1, hw1⟩ : ∃ z, z = w.alloc (.cells #[.int .i64 x.op, .int .i64 x.a, .int .i64 x.b, .int .i64 x.c, .int .u32 x.n] 49) := ⟨_, rfl⟩
      have f1_0 : w1.cell? ⟨w.heap.size, 0, none⟩ = some (.int .i64 x.op) := by rw [hw1, World.cell?_alloc_at _ _ _ _ rfl]; rfl
      have f1_1 : w1.cell? ⟨w.heap.size, 1, none⟩ = some (.int .i64 x.a) := by rw [hw1, World.cell?_alloc_at _ _ _ _ rfl]; rfl
      have f1_2 : w1.cell? ⟨w.heap.size, 2, none⟩ = some (.int .i64 x.b) := by rw [hw1, World.cell?_alloc_at _ _ _ _ rfl]; rfl
      have f1_3 : w1.cell? ⟨w.heap.size, 3, none⟩ = some (.int .i64 x.c) := by rw [hw1, World.cell?_alloc_at _ _ _ _ rfl]; rfl
      have f1_4 : w1.cell? ⟨w.heap.size, 4, none⟩ = some (.int .u32 x.n) := by rw [hw1, World.cell?_alloc_at _ _ _ _ rfl]; rfl
      rw [← hw1]
      have HB01 := hide (show Below w.heap.size w w1 by rw [hw1]; exact (Below.refl _ _).alloc (Nat.le_refl _) _)
      have MK1 := hide (show ∀ W, Below w1.heap.size w1 W → (W.cell? ⟨w.heap.size, 0, none⟩ = some (.int .i64 x.op) ∧ W.cell? ⟨w.heap.size, 1, none⟩ = some (.int .i64 x.a) ∧ W.cell? ⟨w.heap.size, 2, none⟩ = some (.int .i64 x.b) ∧ W.cell? ⟨w.heap.size, 3, none⟩ = some (.int .i64 x.c) ∧ W.cell? ⟨w.heap.size, 4, none⟩ = some (.int .u32 x.n) ∧ Below w1.heap.size w1 W) from fun W hb => ⟨Ext.below hb _ _ f1_0, Ext.below hb _ _ f1_1, Ext.below hb _ _ f1_2, Ext.below hb _ _ f1_3, Ext.below hb _ _ f1_4, hb⟩)
      have PR1 := hide (show ∀ W, (W.cell? ⟨w.heap.size, 0, none⟩ = some (.int .i64 x.op) ∧ W.cell? ⟨w.heap.size, 1, none⟩ = some (.int .i64 x.a) ∧ W.cell? ⟨w.heap.size, 2, none⟩ = some (.int .i64 x.b) ∧ W.cell? ⟨w.heap.size, 3, none⟩ = some (.int .i64 x.c) ∧ W.cell? ⟨w.heap.size, 4, none⟩ = some (.int .u32 x.n) ∧ Below w1.heap.size w1 W) → Below w1.heap.size w1 W from fun W h => h.2.2.2.2.2)
      have hb01 : Below w1.heap.size w1 w1 := Below.refl _ _
      clear hw1 f1_0 f1_1 f1_2 f1_3 f1_4
      go_region_held3 (fun W => W.cell? ⟨w.heap.size, 0, none⟩ = some (.int .i64 x.op) ∧ W.cell? ⟨w.heap.size, 1, none⟩ = some (.int .i64 x.a) ∧ W.cell? ⟨w.heap.size, 2, none⟩ = some (.int .i64 x.b) ∧ W.cell? ⟨w.heap.size, 3, none⟩ = some (.int .i64 x.c) ∧ W.cell? ⟨w.heap.size, 4, none⟩ = some (.int .u32 x.n) ∧ Below w1.heap.size w1 W) (first | exact MK1.out _ (by with_reducible assumption) | exact MK1.out _ (by with_reducible exact Below.drew (by assumption)))
        (first
          | (go_at_call 103; with_reducible (refine Calls.mono (cR.out _) ?_); rintro e w' ⟨rfl, hb⟩; have hB : Below w1.heap.size w1 w' := Below.trans (PR1.out _ (by assumption)) (hb.mono (Below.size (PR1.out _ (by assumption)))))
          | (go_at_call 123; with_reducible (refine Calls.mono (shapes_any _) ?_); rintro e w' ⟨rfl, hb⟩; have hB : Below w1.heap.size w1 w' := Below.trans (PR1.out _ (by assumption)) (hb.mono (Below.size (PR1.out _ (by assumption))))))
      all_goals
        go_wp2
        go_ret2
        have hT : ∀ W, Below w1.heap.size w1 W → Below w.heap.size w W := fun W h => Below.trans HB01.out (h.mono HB01.out.size)
        exact ⟨rfl, hT _ (by first | (with_reducible assumption) | (with_reducible exact Below.drew (by assumption)))⟩
    · obtain ⟨e1, e2⟩ := htN.out hk
      rw [e1, e2]
      clear htL htN e1 e2
      go_enter Try.func110, Try.ntmps110
      go_wp2_with fail
      obtain ⟨w1, hw1⟩ : ∃ z, z = w.alloc (.cells #[.int .i64 x.op, .int .i64 x.a, .int .i64 x.b, .int .i64 x.c, .int .u32 x.n] 49) := ⟨_, rfl⟩
      have f1_0 : w1.cell? ⟨w.heap.size, 0, none⟩ = some (.int .i64 x.op) := by rw [hw1, World.cell?_alloc_at _ _ _ _ rfl]; rfl
      have f1_1 : w1.cell? ⟨w.heap.size, 1, none⟩ = some (.int .i64 x.a) := by rw [hw1, World.cell?_alloc_at _ _ _ _ rfl]; rfl
      have f1_2 : w1.cell? ⟨w.heap.size, 2, none⟩ = some (.int .i64 x.b) := by rw [hw1, World.cell?_alloc_at _ _ _ _ rfl]; rfl
      have f1_3 : w1.cell? ⟨w.heap.size, 3, none⟩ = some (.int .i64 x.c) := by rw [hw1, World.cell?_alloc_at _ _ _ _ rfl]; rfl
      have f1_4 : w1.cell? ⟨w.heap.size, 4, none⟩ = some (.int .u32 x.n) := by rw [hw1, World.cell?_alloc_at _ _ _ _ rfl]; rfl
      rw [← hw1]
      have HB01 := hide (show Below w.heap.size w w1 by rw [hw1]; exact (Below.refl _ _).alloc (Nat.le_refl _) _)
      have MK1 := hide (show ∀ W, Below w1.heap.size w1 W → (W.cell? ⟨w.heap.size, 0, none⟩ = some (.int .i64 x.op) ∧ W.cell? ⟨w.heap.size, 1, none⟩ = some (.int .i64 x.a) ∧ W.cell? ⟨w.heap.size, 2, none⟩ = some (.int .i64 x.b) ∧ W.cell? ⟨w.heap.size, 3, none⟩ = some (.int .i64 x.c) ∧ W.cell? ⟨w.heap.size, 4, none⟩ = some (.int .u32 x.n) ∧ Below w1.heap.size w1 W) from fun W hb => ⟨Ext.below hb _ _ f1_0, Ext.below hb _ _ f1_1, Ext.below hb _ _ f1_2, Ext.below hb _ _ f1_3, Ext.below hb _ _ f1_4, hb⟩)
      have PR1 := hide (show ∀ W, (W.cell? ⟨w.heap.size, 0, none⟩ = some (.int .i64 x.op) ∧ W.cell? ⟨w.heap.size, 1, none⟩ = some (.int .i64 x.a) ∧ W.cell? ⟨w.heap.size, 2, none⟩ = some (.int .i64 x.b) ∧ W.cell? ⟨w.heap.size, 3, none⟩ = some (.int .i64 x.c) ∧ W.cell? ⟨w.heap.size, 4, none⟩ = some (.int .u32 x.n) ∧ Below w1.heap.size w1 W) → Below w1.heap.size w1 W from fun W h => h.2.2.2.2.2)
      have hb01 : Below w1.heap.size w1 w1 := Below.refl _ _
      clear hw1 f1_0 f1_1 f1_2 f1_3 f1_4
      go_region_held3 (fun W => W.cell? ⟨w.heap.size, 0, none⟩ = some (.int .i64 x.op) ∧ W.cell? ⟨w.heap.size, 1, none⟩ = some (.int .i64 x.a) ∧ W.cell? ⟨w.heap.size, 2, none⟩ = some (.int .i64 x.b) ∧ W.cell? ⟨w.heap.size, 3, none⟩ = some (.int .i64 x.c) ∧ W.cell? ⟨w.heap.size, 4, none⟩ = some (.int .u32 x.n) ∧ Below w1.heap.size w1 W) (first | exact MK1.out _ (by with_reducible assumption) | exact MK1.out _ (by with_reducible exact Below.drew (by assumption)))
        (first
          | (go_at_call 103; with_reducible (refine Calls.mono (cR.out _) ?_); rintro e w' ⟨rfl, hb⟩; have hB : Below w1.heap.size w1 w' := Below.trans (PR1.out _ (by assumption)) (hb.mono (Below.size (PR1.out _ (by assumption)))))
          | (go_at_call 123; with_reducible (refine Calls.mono (shapes_any _) ?_); rintro e w' ⟨rfl, hb⟩; have hB : Below w1.heap.size w1 w' := Below.trans (PR1.out _ (by assumption)) (hb.mono (Below.size (PR1.out _ (by assumption))))))
      all_goals
        go_wp2
        go_ret2
        have hT : ∀ W, Below w1.heap.size w1 W → Below w.heap.size w W := fun W h => Below.trans HB01.out (h.mono HB01.out.size)
        exact ⟨rfl, hT _ (by first | (with_reducible assumption) | (with_reducible exact Below.drew (by assumption)))⟩
  · have hr : rightI x = false := by simpa using hr
    have e1 : leadsI x = false := by rw [leadsI, hr]; rfl
    have e2 : tgtI x = 0 := by rw [tgtI, e1]; rfl
    rw [e1, e2]
    have cR : Hid (∀ w0, Calls Try.prog 103 #[instrV x] w0 fun e w' => e = .returned (.bool false) ∧ Below w0.heap.size w0 w') := hide (fun w0 => by have := right_any x w0 hx; rwa [hr] at this)
    go_enter Try.func110, Try.ntmps110
    go_wp2_with fail
    first
      | go_region_with (go_at_call 103; refine (cR.out _).mono ?_; rintro e w' ⟨rfl, hb⟩)
      | fail
    all_goals
      go_wp2
      go_ret2
      refine ⟨rfl, ?_⟩
      have HB := (Below.refl w.heap.size w).alloc (Nat.le_refl _) (.cells #[.int .i64 x.op, .int .i64 x.a, .int .i64 x.b, .int .i64 x.c, .int .u32 x.n] 49)
      first
        | exact Below.trans HB ((by assumption : Below _ _ _).mono HB.size)
        | exact Below.trans HB.drew ((by assumption : Below _ _ _).mono HB.size)
        | exact Below.trans HB.drew.drew ((by assumption : Below _ _ _).mono HB.size)
        | exact (Below.trans HB ((by assumption : Below _ _ _).mono HB.size)).drew
        | exact (Below.trans HB.drew ((by assumption : Below _ _ _).mono HB.size)).drew
end Go.Proofs.Ytffciebjpiljgaa
namespace Go.Proofs.Ytffciebjpiljgaa
set_option linter.unusedSimpArgs false
set_option linter.unusedVariables false
set_option maxRecDepth 100000
open Go.RowKit

theorem reg08_any (n : Int) (w : World) : Calls Try.prog 78 #[.int .i64 n] w fun e w' => e = .returned (.bool (decide (0 ≤ n ∧ n < 8))) ∧ w = w' := by
  go_enter Try.func78, Try.ntmps78
  go_wp2
  all_goals
    go_ret
    exact ⟨rbool (by simp_all; try omega), rfl⟩
theorem leads08_any (n : Int) (w : World) : Calls Try.prog 131 #[.int .i64 n] w fun e w' => e = .returned (.bool (decide (14 ≤ n ∧ n ≤ 16))) ∧ w = w' := by
  go_enter Try.func131, Try.ntmps131
  go_wp2
  all_goals
    go_ret
    exact ⟨rbool (by simp_all; try omega), rfl⟩
set_option maxHeartbeats 8000000 in
set_option maxRecDepth 100000 in
theorem right08_any (x : Instr) (w : World) (hx : x.ok) : Calls Try.prog 49 #[instrV x] w fun e w' => e = .returned (.bool (rightI x)) ∧ Below w.heap.size w w' := by
  obtain ⟨hn1, hn2⟩ := Go.bounds_u32 hx.2.2.2.2
  by_cases h : 0 ≤ x.op ∧ x.op < 22
  · obtain ⟨op, a, b, c, n⟩ := x
    have h0 : op = 0 ∨ op = 1 ∨ op = 2 ∨ op = 3 ∨ op = 4 ∨ op = 5 ∨ op = 6 ∨ op = 7 ∨ op = 8 ∨ op = 9 ∨ op = 10 ∨ op = 11 ∨ op = 12 ∨ op = 13 ∨ op = 14 ∨ op = 15 ∨ op = 16 ∨ op = 17 ∨ op = 18 ∨ op = 19 ∨ op = 20 ∨ op = 21 := by simp only at h; omega
    clear h hx
    rcases h0 with rfl | rfl | rfl | rfl | rfl | rfl | rfl | rfl | rfl | rfl | rfl | rfl | rfl | rfl | rfl | rfl | rfl | rfl | rfl | rfl | rfl | rfl
    all_goals
      go_enter Try.func49, Try.ntmps49
      go_wp2_with (go_at_call 78; refine (reg08_any _ _).mono ?_; rintro e w' ⟨rfl, rfl⟩)
      all_goals
        go_ret
        exact ⟨rbool (by simp_all [rightI, kindsOf, kindsN, fitsB]; try omega), (Below.refl _ _).alloc (Nat.le_refl _) _⟩
  · rw [rightI_no h]
    have n0 : ¬ x.op = 0 := by omega
    have n1 : ¬ x.op = 1 := by omega
    have n2 : ¬ x.op = 2 := by omega
    have n3 : ¬ x.op = 3 := by omega
    have n4 : ¬ x.op = 4 := by omega
    have n5 : ¬ x.op = 5 := by omega
    have n6 : ¬ x.op = 6 := by omega
    have n7 : ¬ x.op = 7 := by omega
    have n8 : ¬ x.op = 8 := by omega
    have n9 : ¬ x.op = 9 := by omega
    have n10 : ¬ x.op = 10 := by omega
    have n11 : ¬ x.op = 11 := by omega
    have n12 : ¬ x.op = 12 := by omega
    have n13 : ¬ x.op = 13 := by omega
    have n14 : ¬ x.op = 14 := by omega
    have n15 : ¬ x.op = 15 := by omega
    have n16 : ¬ x.op = 16 := by omega
    have n17 : ¬ x.op = 17 := by omega
    have n18 : ¬ x.op = 18 := by omega
    have n19 : ¬ x.op = 19 := by omega
    have n20 : ¬ x.op = 20 := by omega
    have n21 : ¬ x.op = 21 := by omega
    clear h
    go_enter Try.func49, Try.ntmps49
    go_wp2
    go_ret
    exact ⟨rfl, (Below.refl _ _).alloc (Nat.le_refl _) _⟩
end Go.Proofs.Ytffciebjpiljgaa
