/- How two dues are compared, said of the worlds: new blocks and draws alone. No condition. -/
import Derived.StillTailTactics
import Derived.Below
import Derived.Test.YtfjoaeghnfkdlaaRa2
namespace Go.Proofs.Ytfjoaeghnfkdlaa
set_option linter.unusedSimpArgs false
set_option linter.unusedVariables false
set_option maxRecDepth 100000
set_option linter.unusedSimpArgs false
set_option linter.unusedVariables false
set_option maxRecDepth 100000
open Go.RowKit
/-- New blocks and draws, and nothing else. -/
def Gw (w w' : World) : Prop := Below w.heap.size w w' ∧ w.drawn ≤ w'.drawn
theorem al_size (W : World) (o : Obj) : (W.alloc o).heap.size = W.heap.size + 1 := by
  show (W.heap.push o).size = _
  exact Array.size_push _
theorem cell2 {w : World} {b : Nat} {c0 c1 : Value} {t : TypeId} {fr : Nat × Nat} (h : w.heap[b]? = some (.cells #[c0, c1] t fr)) : w.cell? ⟨b, 0, none⟩ = some c0 ∧ w.cell? ⟨b, 0 + 1, none⟩ = some c1 := by
  constructor
  · unfold World.cell?; simp only [h]; rfl
  · unfold World.cell?; simp only [h]; rfl
theorem nan_any (x : Int) (w : World) : Calls Try.prog 79 #[.int .i64 x] w fun e w' => e = .returned (.bool false) ∧ w' = w := by
  go_enter Try.func79, Try.ntmps79
  go_wp2
  go_ret
  exact ⟨by simp, rfl⟩
theorem cmp_any (x y : Int) (w : World) : Calls Try.prog 58 #[.int .i64 x, .int .i64 y] w fun e w' => e = .returned (.int .i64 (cmpI x y)) ∧ w' = w := by
  go_enter Try.func58, Try.ntmps58
  go_wp2_with (go_at_call 79; refine (nan_any _ _).mono ?_; rintro e w' ⟨rfl, hw⟩; rw [hw])
  all_goals (go_ret; refine ⟨?_, rfl⟩; unfold cmpI; (repeat' split) <;> first | rfl | (exfalso; omega))
theorem or_any (a c : Int) (b : Nat) (w : World) (f0 : w.cell? ⟨b, 0, none⟩ = some (.int .i64 a)) (f1 : w.cell? ⟨b, 0 + 1, none⟩ = some (.int .i64 c)) :
    Calls Try.prog 57 #[.slice (some ⟨b, 0, none⟩) 2 2] w fun e w' => e = .returned (.int .i64 (orI a c)) ∧ w' = w := by
  have F0 := hide f0
  have F1 := hide f1
  clear f0 f1
  go_enter Try.func57, Try.ntmps57
  go_wp2
  go_loopw [8] (fun i wr => ∃ k : Nat, k ≤ 2 ∧ i = .int .i64 k ∧ wr = w ∧ (0 < k → a = 0) ∧ (1 < k → c = 0)) (fun i _ => 2 - (intOf i).toNat)
  case atStart => exact ⟨0, by omega, rfl, rfl, fun h => by omega, fun h => by omega⟩
  case round =>
    obtain ⟨k, hk, rfl, rfl, g0, g1⟩ := hrel
    have G0 := hide g0
    have G1 := hide g1
    clear g0 g1
    rcases (show k = 0 ∨ k = 1 ∨ k = 2 by omega) with rfl | rfl | rfl
    · by_cases ha : a = 0
      · have e : orI a c = c := by unfold orI; rw [if_neg (by omega)]
        have HE := hide e
        clear e
        have f0 := F0.out
        subst ha
        go_wp2
        go_roundw
        case rel => exact ⟨1, by omega, by go_num, by first | trivial | rfl, by simp, by simp⟩
        case measure => simp [intOf]
      · have e : orI a c = a := by unfold orI; rw [if_pos ha]
        have HE := hide e
        clear e
        have f0 := F0.out
        go_wp2
        go_ret
        exact ⟨by rw [HE.out]; rfl, by first | trivial | rfl⟩
    · have ha : a = 0 := G0.out (by omega)
      subst ha
      by_cases hc : c = 0
      · have f1 := F1.out
        subst hc
        go_wp2
        go_roundw
        case rel => exact ⟨2, by omega, by go_num, by first | trivial | rfl, by simp, by simp⟩
        case measure => simp [intOf]
      · have e : orI 0 c = c := by unfold orI; rw [if_neg (by omega)]
        have HE := hide e
        clear e
        have f1 := F1.out
        go_wp2
        go_ret
        exact ⟨by rw [HE.out]; rfl, by first | trivial | rfl⟩
    · have ha : a = 0 := G0.out (by omega)
      have hc : c = 0 := G1.out (by omega)
      subst ha hc
      go_wp2
      go_ret
      exact ⟨by rfl, by first | trivial | rfl⟩
theorem listC_any (x y : Due) (W : World) : Calls Try.prog 56 #[.agg (Due.cells x).toArray, .agg (Due.cells y).toArray] W fun e w' => e = .returned (.int .i64 (cmpD x y)) ∧ Gw W w' := by
  obtain ⟨xa, xt⟩ := x
  obtain ⟨ya, yt⟩ := y
  have c1 := hide (fun W => cmp_any xa ya W)
  have c2 := hide (fun W => cmp_any xt yt W)
  have c3 := hide (or_any (cmpI xa ya) (cmpI xt yt))
  show Calls Try.prog 56 #[.agg #[.int .i64 xa, .int .i64 xt], .agg #[.int .i64 ya, .int .i64 yt]] W fun e w' => e = .returned (.int .i64 (orI (cmpI xa ya) (cmpI xt yt))) ∧ Gw W w'
  generalize cmpI xa ya = p at c1 c3 ⊢
  generalize cmpI xt yt = q at c2 c3 ⊢
  go_enter Try.func56, Try.ntmps56
  go_wp2_with fail
  obtain ⟨w1, hw1⟩ : ∃ z, z = (W.alloc (Obj.cells #[.int .i64 xa, .int .i64 xt] 41)).alloc (Obj.cells #[.int .i64 ya, .int .i64 yt] 41) := ⟨_, rfl⟩
  have hs1 : w1.heap.size = W.heap.size + 2 := by rw [hw1, al_size, al_size]
  have hg1 : Gw W w1 := by
    rw [hw1]
    exact ⟨((Below.refl _ _).alloc (Nat.le_refl _) _).alloc (by rw [al_size]; omega) _, Nat.le_refl _⟩
  have h0 : w1.heap[W.heap.size]? = some (.cells #[.int .i64 xa, .int .i64 xt] 41 (0, 0)) := by
    rw [hw1, Below.heap_alloc _ _ _ (by rw [al_size]; omega)]; exact heap_alloc_new _ _
  have h1 : w1.heap[W.heap.size + 1]? = some (.cells #[.int .i64 ya, .int .i64 yt] 41 (0, 0)) := by
    rw [hw1, ← al_size W]; exact heap_alloc_new _ _
  obtain ⟨f0, f1⟩ := cell2 h0
  obtain ⟨f2, f3⟩ := cell2 h1
  clear h0 h1
  have hg2 : Gw W w1.drew := ⟨hg1.1.drew, Nat.le_trans hg1.2 (Nat.le_succ _)⟩
  have hs2 : w1.drew.heap.size = W.heap.size + 2 := hs1
  rw [← hw1]
  have HG := hide hg2
  have HS := hide hs2
  clear hw1 hs1 hg1 hg2 hs2
  refine wp_region_still_tail 10 (by kernel_rfl) (by kernel_rfl) ?_
  simp only [List.take_succ_cons, List.take_zero, List.drop_succ_cons, List.drop_zero]
  still_step
  still_step
  still_step
  still_step
  still_call (c1.out _)
  still_step
  still_step
  still_step
  still_step
  still_call (c2.out _)
  refine wpStill_nil ?_
  change wpList _ _ _ _ _ w1.drew
  have HG2 := hide (show Gw W w1.drew from HG.out)
  clear f0 f1 f2 f3 HG HS
  generalize w1.drew = w2 at HG2 ⊢
  have hn := cell2 (heap_alloc_new w2 (.cells #[.int .i64 p, .int .i64 q] 3))
  have c4 := hide (c3.out w2.heap.size _ hn.1 hn.2)
  have HG3 := hide (show Gw W (w2.alloc (.cells #[.int .i64 p, .int .i64 q] 3)) from ⟨HG2.out.1.alloc HG2.out.1.size _, HG2.out.2⟩)
  clear hn c1 c2 c3
  go_wp2_with (go_at_call 57; refine c4.out.mono ?_; rintro e w' ⟨rfl, hw⟩; rw [hw])
  go_ret
  exact ⟨rfl, HG3.out⟩
end Go.Proofs.Ytfjoaeghnfkdlaa
