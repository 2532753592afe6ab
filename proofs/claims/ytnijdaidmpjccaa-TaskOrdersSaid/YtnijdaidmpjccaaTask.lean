/- Who goes ahead of whom, and when all periods begin anew: the package task and its reference; no condition. -/
import Derived.Test.YtnijdaidmpjccaaTyTask
import Derived.Test.YtnijdaidmpjccaaOwn
import Derived.Test.YtnijdaidmpjccaaWord
namespace Go.Proofs.Ytnijdaidmpjccaa
set_option linter.unusedSimpArgs false
set_option linter.unusedVariables false
set_option maxRecDepth 100000
open Go.RowKit

def cellsI (x : Int) : List Value := [.int .i64 x]
theorem elt_ints : Elt Try.prog 39 3 1 8 := Elt.mk_ Try.underlying39 (by decide) (by kernel_rfl)
theorem take_next {α : Type} (l : List α) (k : Nat) (h : k < l.length) : l.take (k + 1) = l.take k ++ [l[k]] := by
  rw [List.take_succ_eq_append_getElem h]

def prioAt (l : List Task) (i : Int) : Int := (l.getD i.toNat default).prio
/-- Does a go ahead of b? -/
def aheadB (l : List Task) (a b : Int) : Bool :=
  decide (0 ≤ a ∧ a < l.length ∧ 0 ≤ b ∧ b < l.length) && (decide (prioAt l b < prioAt l a) || (prioAt l a == prioAt l b && decide (a < b)))
theorem aheadB_out {l : List Task} {a b : Int} (h : ¬ (0 ≤ a ∧ a < l.length ∧ 0 ≤ b ∧ b < l.length)) : aheadB l a b = false := by simp [aheadB]; omega
theorem aheadB_in {l : List Task} {i j : Nat} (hi : i < l.length) (hj : j < l.length) : aheadB l i j = (decide (l[j].prio < l[i].prio) || (l[i].prio == l[j].prio && decide ((i : Int) < j))) := by
  have h : (0 ≤ (i : Int) ∧ (i : Int) < l.length ∧ 0 ≤ (j : Int) ∧ (j : Int) < l.length) := by omega
  simp [aheadB, prioAt, hi, hj]

theorem within_b (n low high : Int) (B : Bool) (w : World) (hB : decide (low ≤ n ∧ n ≤ high) = B) : Calls Try.prog 41 #[.int .i64 n, .int .i64 low, .int .i64 high] w fun e w' => e = .returned (.bool B) ∧ w = w' := by
  subst hB
  by_cases h1 : low ≤ n
  · by_cases h2 : n ≤ high
    · go_enter Try.func41, Try.ntmps41
      go_wp2
      go_ret
      exact ⟨by simp [h1, h2], rfl⟩
    · go_enter Try.func41, Try.ntmps41
      go_wp2
      go_ret
      exact ⟨by simp [h2], rfl⟩
  · go_enter Try.func41, Try.ntmps41
    go_wp2
    go_ret
    exact ⟨by simp [h1]; omega, rfl⟩

section
variable {A : Option Addr} {c : Nat} {l : List Task} {w : World}
set_option maxHeartbeats 400000 in
theorem ahead_cells {b off n c : Nat} {i j : Nat} {pi pj : Int} {w : World} (hn : n ≤ 9223372036854775807) (hi : i < n) (hj : j < n)
   (ci : w.cell? ⟨b, off + i * 7 + 1, none⟩ = some (.int .i64 pi)) (cj : w.cell? ⟨b, off + j * 7 + 1, none⟩ = some (.int .i64 pj)) :
   Calls Try.prog 12 #[.slice (some ⟨b, off, none⟩) n c, .int .i64 i, .int .i64 j] w fun e w' => e = .returned (.bool (decide (pj < pi) || (pi == pj && decide ((i : Int) < j)))) ∧ ∃ k, w' = w.drewN k := by
  by_cases h1 : pj < pi
  · go_enter Try.func12, Try.ntmps12
    go_wp2_with (go_at_call 41; refine (within_b _ _ _ true _ (by simp; omega)).mono ?_; rintro e w' ⟨rfl, rfl⟩)
    go_quiet (fail)
    go_wp2
    go_ret
    exact ⟨rbool (by simp [h1]), _, rfl⟩
  · by_cases h2 : pi = pj
    · subst h2
      by_cases h3 : (i : Int) < j
      all_goals
        go_enter Try.func12, Try.ntmps12
        go_wp2_with (go_at_call 41; refine (within_b _ _ _ true _ (by simp; omega)).mono ?_; rintro e w' ⟨rfl, rfl⟩)
        go_quiet (fail)
        go_wp2
        go_ret
        exact ⟨rbool (by simp [h3]), _, rfl⟩
    · have h2' : (pi == pj) = false := by simp [h2]
      go_enter Try.func12, Try.ntmps12
      go_wp2_with (go_at_call 41; refine (within_b _ _ _ true _ (by simp; omega)).mono ?_; rintro e w' ⟨rfl, rfl⟩)
      go_quiet (fail)
      go_wp2
      go_ret
      exact ⟨rbool (by simp [h1, h2]), (by first | exact ⟨_, rfl⟩ | exact ⟨_, by rw [World.drewN_drewN]⟩)⟩
theorem ahead_out {A : Option Addr} {n c : Nat} {a b : Int} {w : World} (hn : n ≤ 9223372036854775807) (h : ¬ (0 ≤ a ∧ a < n ∧ 0 ≤ b ∧ b < n)) :
   Calls Try.prog 12 #[.slice A n c, .int .i64 a, .int .i64 b] w fun e w' => e = .returned (.bool false) ∧ ∃ k, w' = w.drewN k := by
  by_cases h1 : 0 ≤ a ∧ a < n
  · obtain ⟨h2, h3⟩ := h1
    have h4 : ¬ (0 ≤ b ∧ b < n) := by omega
    go_enter Try.func12, Try.ntmps12
    go_wp2_with (first | (go_at_call 41; refine (within_b _ _ _ true _ (by simp; omega)).mono ?_; rintro e w' ⟨rfl, rfl⟩) | (go_at_call 41; refine (within_b _ _ _ false _ (by simp; omega)).mono ?_; rintro e w' ⟨rfl, rfl⟩))
    go_ret
    exact ⟨rfl, 0, rfl⟩
  · go_enter Try.func12, Try.ntmps12
    go_wp2_with (first | (go_at_call 41; refine (within_b _ _ _ false _ (by simp; omega)).mono ?_; rintro e w' ⟨rfl, rfl⟩))
    go_ret
    exact ⟨rfl, 0, rfl⟩
theorem ahead_any (a b : Int) (hl : Row Task.cod 7 w A l) (hn : l.length ≤ 9223372036854775807) :
   Calls Try.prog 12 #[.slice A l.length c, .int .i64 a, .int .i64 b] w fun e w' => e = .returned (.bool (aheadB l a b)) ∧ ∃ k, w' = w.drewN k := by
  by_cases h : 0 ≤ a ∧ a < l.length ∧ 0 ≤ b ∧ b < l.length
  · obtain ⟨i, rfl⟩ := Int.eq_ofNat_of_zero_le h.1
    obtain ⟨j, rfl⟩ := Int.eq_ofNat_of_zero_le h.2.2.1
    have hi : i < l.length := by omega
    have hj : j < l.length := by omega
    obtain ⟨b, off, rfl, hr⟩ := hl (by omega)
    obtain ⟨_, _, _, ci, _⟩ := Task.at hr i hi
    obtain ⟨_, _, _, cj, _⟩ := Task.at hr j hj
    rw [aheadB_in hi hj]
    exact ahead_cells hn hi hj ci cj
  · rw [aheadB_out h]; exact ahead_out hn h
set_option maxHeartbeats 400000 in
theorem rahead_cells {b off n c : Nat} {i j : Nat} {pi pj : Int} {w : World} (hn : n ≤ 9223372036854775807) (hi : i < n) (hj : j < n)
   (ci : w.cell? ⟨b, off + i * 7 + 1, none⟩ = some (.int .i64 pi)) (cj : w.cell? ⟨b, off + j * 7 + 1, none⟩ = some (.int .i64 pj)) :
   Calls Try.prog 22 #[.slice (some ⟨b, off, none⟩) n c, .int .i64 i, .int .i64 j] w fun e w' => e = .returned (.bool (decide (pj < pi) || (pi == pj && decide ((i : Int) < j)))) ∧ ∃ k, w' = w.drewN k := by
  by_cases h2 : pi = pj
  · subst h2
    by_cases h3 : (i : Int) < j
    all_goals
      go_enter Try.func22, Try.ntmps22
      go_wp2
      go_quiet (fail)
      go_wp2
      go_ret
      exact ⟨rbool (by simp [h3]), _, rfl⟩
  · have h2' : (pi == pj) = false := by simp [h2]
    by_cases h1 : pj < pi
    all_goals
      go_enter Try.func22, Try.ntmps22
      go_wp2
      go_quiet (fail)
      go_wp2
      go_quiet (fail)
      go_wp2
      go_ret
      exact ⟨rbool (by simp [h1, h2]), (by first | exact ⟨_, rfl⟩ | exact ⟨_, by rw [World.drewN_drewN]⟩)⟩
theorem rahead_out {A : Option Addr} {n c : Nat} {a b : Int} {w : World} (hn : n ≤ 9223372036854775807) (h : ¬ (0 ≤ a ∧ a < n ∧ 0 ≤ b ∧ b < n)) :
   Calls Try.prog 22 #[.slice A n c, .int .i64 a, .int .i64 b] w fun e w' => e = .returned (.bool false) ∧ ∃ k, w' = w.drewN k := by
  by_cases h1 : a < 0
  · go_enter Try.func22, Try.ntmps22
    go_wp2
    go_ret
    exact ⟨rfl, 0, rfl⟩
  by_cases h2 : b < 0
  · go_enter Try.func22, Try.ntmps22
    go_wp2
    go_ret
    exact ⟨rfl, 0, rfl⟩
  by_cases h3 : (n : Int) ≤ a
  · go_enter Try.func22, Try.ntmps22
    go_wp2
    go_ret
    exact ⟨rfl, 0, rfl⟩
  · have h4 : (n : Int) ≤ b := by omega
    go_enter Try.func22, Try.ntmps22
    go_wp2
    go_ret
    exact ⟨rfl, 0, rfl⟩
theorem rahead_any (a b : Int) (hl : Row Task.cod 7 w A l) (hn : l.length ≤ 9223372036854775807) :
   Calls Try.prog 22 #[.slice A l.length c, .int .i64 a, .int .i64 b] w fun e w' => e = .returned (.bool (aheadB l a b)) ∧ ∃ k, w' = w.drewN k := by
  by_cases h : 0 ≤ a ∧ a < l.length ∧ 0 ≤ b ∧ b < l.length
  · obtain ⟨i, rfl⟩ := Int.eq_ofNat_of_zero_le h.1
    obtain ⟨j, rfl⟩ := Int.eq_ofNat_of_zero_le h.2.2.1
    have hi : i < l.length := by omega
    have hj : j < l.length := by omega
    obtain ⟨b, off, rfl, hr⟩ := hl (by omega)
    obtain ⟨_, _, _, ci, _⟩ := Task.at hr i hi
    obtain ⟨_, _, _, cj, _⟩ := Task.at hr j hj
    rw [aheadB_in hi hj]
    exact rahead_cells hn hi hj ci cj
  · rw [aheadB_out h]; exact rahead_out hn h
end

/-- Who of the first n goes ahead of one. -/
def aboveTo (l : List Task) (i : Int) (n : Nat) : List Int := ((List.range n).filter fun k : Nat => aheadB l (k : Int) i).map fun k : Nat => (k : Int)
theorem aboveTo_len (l : List Task) (i : Int) (n : Nat) : (aboveTo l i n).length ≤ n := by
  unfold aboveTo; rw [List.length_map]; exact Nat.le_trans (List.length_filter_le _ _) (by simp)
theorem aboveTo_yes {l : List Task} {i : Int} {n : Nat} (h : aheadB l n i = true) : aboveTo l i (n + 1) = aboveTo l i n ++ [(n : Int)] := by simp [aboveTo, List.range_succ, h]
theorem aboveTo_no {l : List Task} {i : Int} {n : Nat} (h : aheadB l n i = false) : aboveTo l i (n + 1) = aboveTo l i n := by simp [aboveTo, List.range_succ, h]
def aboveL (l : List Task) (i : Int) : List Int := aboveTo l i l.length

set_option maxHeartbeats 400000 in
theorem above_any (A : Option Addr) (c : Nat) (l : List Task) (i : Int) (w : World) (hl : Row Task.cod 7 w A l) (hn : l.length ≤ 1000) :
   Calls Try.prog 24 #[.slice A l.length c, .int .i64 i] w fun e w' => ∃ v, e = .returned v ∧ Own cellsI 1 3 w.heap.size w' v (aboveL l i) ∧ Below w.heap.size w w' := by
  go_enter Try.func24, Try.ntmps24
  go_wp2
  go_loopw [5, 9] (fun v i0 wr => ∃ k : Nat, k ≤ l.length ∧ i0 = .int .i64 k ∧ Own cellsI 1 3 w.heap.size wr v (aboveTo l i k) ∧ Below w.heap.size w wr) (fun _ i _ => l.length - (intOf i).toNat)
  case atStart => exact ⟨0, Nat.zero_le _, rfl, Own.nil _ _ _ _ _, Below.refl _ _⟩
  case round =>
    obtain ⟨k, hk, rfl, hown, hbel⟩ := hrel
    by_cases hlt : k < l.length
    · have hsz := hbel.size
      have hll := aboveTo_len l i k
      have Hrow := hide (hl.ext Task.mono (Ext.below hbel))
      cases ha : aheadB l k i
      · have Ha := hide ha
        go_wp2_with (first | (go_at_call 12; refine (ahead_any _ _ Hrow.out (by omega)).mono ?_; rintro e w' ⟨rfl, m, rfl⟩))
        go_roundw
        case rel => exact ⟨k + 1, by omega, by go_num, by rw [aboveTo_no Ha.out]; exact hown, belowDrew hbel _⟩
        case measure => simp [intOf]; omega
      · have Ha := hide ha
        go_wp2_with (first
          | (go_at_call 12; refine (ahead_any _ _ Hrow.out (by omega)).mono ?_; rintro e w' ⟨rfl, m, rfl⟩)
          | (at_builtin; refine wpList_push rfl (.tmp 16) (.tmp 18) _ rfl elt_ints cellsI (fun _ => rfl) w.heap.size _ _ (aboveTo l i k) (k : Int) rfl (hown.drewN _) rfl (by simp [cellsI, Value.oneCell']) (by omega) (by omega) (by simpa using hsz) ?_; intro v1 w1 hown1 hb1))
        go_roundw
        case rel => exact ⟨k + 1, by omega, by go_num, by rw [aboveTo_yes Ha.out]; exact hown1, (belowDrew hbel _).trans hb1⟩
        case measure => simp [intOf]; omega
    · obtain rfl : k = l.length := by omega
      go_wp2
      go_ret
      exact ⟨_, rfl, hown, hbel⟩
set_option maxHeartbeats 400000 in
theorem rabove_any (A : Option Addr) (c : Nat) (l : List Task) (i : Int) (w : World) (hl : Row Task.cod 7 w A l) (hn : l.length ≤ 1000) :
   Calls Try.prog 21 #[.slice A l.length c, .int .i64 i] w fun e w' => ∃ v, e = .returned v ∧ Own cellsI 1 3 w.heap.size w' v (aboveL l i) ∧ Below w.heap.size w w' := by
  go_enter Try.func21, Try.ntmps21
  go_wp2
  go_loopw [5, 9] (fun v i0 wr => ∃ k : Nat, k ≤ l.length ∧ i0 = .int .i64 k ∧ Own cellsI 1 3 w.heap.size wr v (aboveTo l i k) ∧ Below w.heap.size w wr) (fun _ i _ => l.length - (intOf i).toNat)
  case atStart => exact ⟨0, Nat.zero_le _, rfl, Own.nil _ _ _ _ _, Below.refl _ _⟩
  case round =>
    obtain ⟨k, hk, rfl, hown, hbel⟩ := hrel
    by_cases hlt : k < l.length
    · have hsz := hbel.size
      have hll := aboveTo_len l i k
      have Hrow := hide (hl.ext Task.mono (Ext.below hbel))
      cases ha : aheadB l k i
      · have Ha := hide ha
        go_wp2_with (first | (go_at_call 22; refine (rahead_any _ _ Hrow.out (by omega)).mono ?_; rintro e w' ⟨rfl, m, rfl⟩))
        go_roundw
        case rel => exact ⟨k + 1, by omega, by go_num, by rw [aboveTo_no Ha.out]; exact hown, belowDrew hbel _⟩
        case measure => simp [intOf]; omega
      · have Ha := hide ha
        go_wp2_with (first
          | (go_at_call 22; refine (rahead_any _ _ Hrow.out (by omega)).mono ?_; rintro e w' ⟨rfl, m, rfl⟩)
          | (at_builtin; refine wpList_push rfl (.tmp 16) (.tmp 18) _ rfl elt_ints cellsI (fun _ => rfl) w.heap.size _ _ (aboveTo l i k) (k : Int) rfl (hown.drewN _) rfl (by simp [cellsI, Value.oneCell']) (by omega) (by omega) (by simpa using hsz) ?_; intro v1 w1 hown1 hb1))
        go_roundw
        case rel => exact ⟨k + 1, by omega, by go_num, by rw [aboveTo_yes Ha.out]; exact hown1, (belowDrew hbel _).trans hb1⟩
        case measure => simp [intOf]; omega
    · obtain rfl : k = l.length := by omega
      go_wp2
      go_ret
      exact ⟨_, rfl, hown, hbel⟩

/-! ## Two rows of numbers -/
set_option maxHeartbeats 400000 in
theorem ints_any (A B : Option Addr) (c d : Nat) (xs ys : List Int) (w : World) (hx : Row (cInt .i64) 1 w A xs) (hy : Row (cInt .i64) 1 w B ys) (hn : xs.length ≤ 9223372036854775807) (hm : ys.length ≤ 9223372036854775807) :
   Calls Try.prog 23 #[.slice A xs.length c, .slice B ys.length d] w fun e w' => e = .returned (.bool (decide (xs = ys))) ∧ ∃ k, w' = w.drewN k := by
  by_cases hl : xs.length = ys.length
  · have hl' := bneF (show (xs.length : Int) = ys.length by omega)
    have Hl := hide hl; clear hl
    go_enter Try.func23, Try.ntmps23
    go_wp2
    go_loopw [5, 13] (fun _ i wr => ∃ k m : Nat, k ≤ xs.length ∧ i = .int .i64 k ∧ (∀ j, j < k → xs[j]? = ys[j]?) ∧ wr = w.drewN m) (fun _ i _ => xs.length - (intOf i).toNat)
    case atStart => exact ⟨0, 0, Nat.zero_le _, rfl, fun j hj => absurd hj (by omega), rfl⟩
    case round =>
      obtain ⟨k, m, hk, rfl, heq, rfl⟩ := hrel
      have Heq := hide heq; clear heq
      by_cases hlt : k < xs.length
      · have hlt2 : k < ys.length := by have := Hl.out; omega
        obtain ⟨b1, o1, rfl, hr1⟩ := hx (by omega)
        obtain ⟨b2, o2, rfl, hr2⟩ := hy (by omega)
        obtain ⟨c1, _⟩ := hr1.int k hlt
        obtain ⟨c2, _⟩ := hr2.int k hlt2
        generalize hu : xs[k] = u at *
        generalize hv : ys[k] = v at *
        have Hu := hide hu; have Hv := hide hv; clear hu hv
        by_cases he : u = v
        · have he' := bneF he
          have He := hide he; clear he
          go_wp2
          go_quiet (fail)
          go_wp2
          go_roundw
          case rel => exact ⟨k + 1, _, by omega, by go_num, fun j hj => by
            rcases Nat.lt_succ_iff_lt_or_eq.1 hj with h | rfl
            · exact Heq.out j h
            · rw [List.getElem?_eq_getElem hlt, List.getElem?_eq_getElem hlt2, Hu.out, Hv.out, He.out], by first | rfl | rw [World.drewN_drewN]⟩
          case measure => simp [intOf]; omega
        · have he' := bneT he
          have hne : xs ≠ ys := by
            intro h
            have h1 : xs[k]? = ys[k]? := by rw [h]
            rw [List.getElem?_eq_getElem hlt, List.getElem?_eq_getElem hlt2, Hu.out, Hv.out] at h1
            exact he (by simpa using h1)
          go_wp2
          go_quiet (fail)
          go_wp2
          go_ret
          exact ⟨rbool (by simp [hne]), (by first | exact ⟨_, rfl⟩ | exact ⟨_, by rw [World.drewN_drewN]⟩)⟩
      · go_wp2
        go_ret
        exact ⟨rbool (by simp [eq_of_parts Hl.out fun j hj => Heq.out j (by omega)]), _, rfl⟩
  · have hl' := bneT (show ¬ (xs.length : Int) = ys.length by omega)
    have hne : xs ≠ ys := fun h => hl (by rw [h])
    go_enter Try.func23, Try.ntmps23
    go_wp2
    go_ret
    exact ⟨rbool (by simp [hne]), 0, rfl⟩
theorem ints_n {A B : Option Addr} {n m c d : Nat} (xs ys : List Int) {w : World} (hA : xs.length = n) (hB : ys.length = m) (hx : Row (cInt .i64) 1 w A xs) (hy : Row (cInt .i64) 1 w B ys) (hn : xs.length ≤ 9223372036854775807) (hm : ys.length ≤ 9223372036854775807) :
   Calls Try.prog 23 #[.slice A n c, .slice B m d] w fun e w' => e = .returned (.bool (decide (xs = ys))) ∧ ∃ k, w' = w.drewN k := by
  subst hA; subst hB; exact ints_any A B c d xs ys w hx hy hn hm
end Go.Proofs.Ytnijdaidmpjccaa
