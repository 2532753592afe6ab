/- When all periods begin anew, few tasks, the chapter's example, and the chain of who goes ahead; no condition. -/
import Derived.Test.YtnijdaidmpjccaaTask
namespace Go.Proofs.Ytnijdaidmpjccaa
set_option linter.unusedSimpArgs false
set_option linter.unusedVariables false
set_option maxRecDepth 100000
open Go.RowKit

/-- When the first n periods begin anew. -/
def hypTo (l : List Task) (k : Nat) : Int := (l.take k).foldl (fun n t => lcmI n t.period) (if l = [] then 0 else 1)
def hypL (l : List Task) : Int := hypTo l l.length
theorem lcmB (a b : Int) : 0 ≤ lcmI a b ∧ lcmI a b ≤ 1099511627776 := by
  unfold lcmI; split
  · omega
  · exact mulB _ _
theorem foldl_inv {α β : Type} (p : β → Prop) (f : β → α → β) (h : ∀ b a, p b → p (f b a)) : ∀ (l : List α) (b : β), p b → p (l.foldl f b)
  | [], _, hb => hb
  | a :: l, b, hb => foldl_inv p f h l (f b a) (h b a hb)
theorem hypB (l : List Task) (k : Nat) : 0 ≤ hypTo l k ∧ hypTo l k ≤ 1099511627776 := by
  unfold hypTo
  refine foldl_inv (fun n => 0 ≤ n ∧ n ≤ 1099511627776) _ (fun b a _ => lcmB b a.period) _ _ ?_
  split <;> omega
theorem hyp_next (l : List Task) (k : Nat) (h : k < l.length) : hypTo l (k + 1) = lcmI (hypTo l k) l[k].period := by
  unfold hypTo; rw [take_next l k h, List.foldl_append]; rfl

set_option maxHeartbeats 400000 in
theorem hyper_any (A : Option Addr) (c : Nat) (l : List Task) (w : World) (hl : Row Task.cod 7 w A l) (hn : l.length ≤ 9223372036854775807) :
   Calls Try.prog 25 #[.slice A l.length c] w fun e w' => e = .returned (.int .i64 (hypL l)) ∧ Below w.heap.size w w' := by
  by_cases h0 : l = []
  · subst h0
    go_enter Try.func25, Try.ntmps25
    go_wp2
    refine wp_loop_rounds 1 ?_
    rw [rounds_succ]
    go_wp2
    go_ret
    exact ⟨rfl, Below.refl _ _⟩
  · have hp : 1 ≤ l.length := by cases l with | nil => exact absurd rfl h0 | cons => simp
    have hs : hypTo l 0 = 1 := by simp [hypTo, h0]
    have Hs := hide hs
    clear hs h0
    go_enter Try.func25, Try.ntmps25
    go_wp2
    all_goals
      go_loopw [3, 5, 11] (fun v _ i wr => ∃ k : Nat, k ≤ l.length ∧ i = .int .i64 k ∧ v = .int .i64 (hypTo l k) ∧ Below w.heap.size w wr) (fun _ _ i _ => l.length - (intOf i).toNat)
      case atStart => exact ⟨0, Nat.zero_le _, rfl, vint (by have := Hs.out; omega), Below.refl _ _⟩
      case round =>
        obtain ⟨k, hk, rfl, rfl, hbel⟩ := hrel
        have hB := hypB l k
        by_cases hlt : k < l.length
        · have hsz := hbel.size
          obtain ⟨b, off, rfl, hr⟩ := (hl.ext Task.mono (Ext.below hbel)) (by omega)
          obtain ⟨A6, c6, c0, c1, c2, c3, c4, c5, c6', hok, _, _, _⟩ := Task.at hr k hlt
          have hnx := hyp_next l k hlt
          generalize l[k] = t at *
          have Hnx := hide hnx; clear hnx
          go_wp2_with (go_at_call 47; refine (lcm_any _ _ _ (by omega)).mono ?_; rintro e w' ⟨rfl, m, rfl⟩)
          go_roundw
          case rel => exact ⟨k + 1, by omega, by go_num, by rw [Hnx.out], belowDrew (hbel.alloc hsz _) _⟩
          case measure => simp [intOf]; omega
        · obtain rfl : k = l.length := by omega
          go_wp2
          go_ret
          exact ⟨rfl, hbel⟩

/-- Are tasks few, and their programs short? -/
def fewB (l : List Task) (most : Int) : Bool := decide ((l.length : Int) ≤ most) && l.all fun t => decide (t.code.length ≤ 200)
set_option maxHeartbeats 400000 in
theorem few_any (A : Option Addr) (c : Nat) (l : List Task) (most : Int) (w : World) (hl : Row Task.cod 7 w A l) (hn : l.length ≤ 9223372036854775807) :
   Calls Try.prog 10 #[.slice A l.length c, .int .i64 most] w fun e w' => e = .returned (.bool (fewB l most)) ∧ Below w.heap.size w w' := by
  by_cases h0 : most < l.length
  · go_enter Try.func10, Try.ntmps10
    go_wp2
    go_ret
    exact ⟨rbool (by simp [fewB]; omega), Below.refl _ _⟩
  · go_enter Try.func10, Try.ntmps10
    go_wp2
    go_loopw [6, 13] (fun _ i wr => ∃ k : Nat, k ≤ l.length ∧ i = .int .i64 k ∧ (∀ j (h : j < l.length), j < k → l[j].code.length ≤ 200) ∧ Below w.heap.size w wr) (fun _ i _ => l.length - (intOf i).toNat)
    case atStart => exact ⟨0, Nat.zero_le _, rfl, fun j _ hj => absurd hj (by omega), Below.refl _ _⟩
    case round =>
      obtain ⟨k, hk, rfl, hall, hbel⟩ := hrel
      have Hall := hide hall; clear hall
      by_cases hlt : k < l.length
      · have hsz := hbel.size
        obtain ⟨b, off, rfl, hr⟩ := (hl.ext Task.mono (Ext.below hbel)) (by omega)
        obtain ⟨A6, c6, c0, c1, c2, c3, c4, c5, c6', hok, hlc, hmc, _⟩ := Task.at hr k hlt
        have hmc' : l[k].code.length ≤ 9223372036854775807 := by simp only [maxLen] at hmc; omega
        by_cases hlen : 200 < l[k].code.length
        · have hno : fewB l most = false := by
            simp only [fewB, Bool.and_eq_false_iff]
            refine .inr ?_
            rw [List.all_eq_false]
            exact ⟨l[k], List.getElem_mem _, by simpa using hlen⟩
          have Hno := hide hno; clear hno
          generalize l[k] = t at *
          go_wp2
          go_ret
          exact ⟨rbool Hno.out.symm, hbel.alloc hsz _⟩
        · have hnx : ∀ j (h : j < l.length), j < k + 1 → l[j].code.length ≤ 200 := by
            intro j h hj
            rcases Nat.lt_succ_iff_lt_or_eq.1 hj with h' | rfl
            · exact Hall.out j h h'
            · omega
          have Hnx := hide hnx; clear hnx Hall
          generalize l[k] = t at *
          go_wp2
          go_roundw
          case rel => exact ⟨k + 1, by omega, by go_num, Hnx.out, hbel.alloc hsz _⟩
          case measure => simp [intOf]; omega
      · have hyes : fewB l most = true := by
          simp only [fewB, Bool.and_eq_true, decide_eq_true_eq, List.all_eq_true]
          refine ⟨by omega, fun t ht => ?_⟩
          obtain ⟨j, hj, rfl⟩ := List.getElem_of_mem ht
          exact Hall.out j hj (by omega)
        have Hyes := hide hyes; clear hyes
        go_wp2
        go_ret
        exact ⟨rbool Hyes.out.symm, hbel⟩

def wakeT : List Task := [⟨0, 1, 4, 0, 0, 0, []⟩, ⟨0, 5, 6, 0, 0, 0, []⟩, ⟨0, 5, 1, 0, 0, 0, []⟩]
theorem codT_nil (w : World) {t : Task} (hc : t.code = []) (hk : t.ok) : Task.cod w [.int .i64 t.kind, .int .i64 t.prio, .int .i64 t.period, .int .i64 t.offset, .int .i64 t.deadline, .int .i64 t.own, .slice none 0 0] t :=
  ⟨none, 0, by rw [hc]; rfl, hk, by rw [hc]; simp, by simp, by rw [hc]; exact Row.nil _ _ _ _⟩
theorem wakeT_row (w : World) : Row Task.cod 7 (w.alloc (.cells #[.int .i64 0, .int .i64 1, .int .i64 4, .int .i64 0, .int .i64 0, .int .i64 0, .slice none 0 0, .int .i64 0, .int .i64 5, .int .i64 6, .int .i64 0, .int .i64 0, .int .i64 0, .slice none 0 0, .int .i64 0, .int .i64 5, .int .i64 1, .int .i64 0, .int .i64 0, .int .i64 0, .slice none 0 0] 29)) (some ⟨w.heap.size, 0, none⟩) wakeT := by
  refine row_new (fun t => [.int .i64 t.kind, .int .i64 t.prio, .int .i64 t.period, .int .i64 t.offset, .int .i64 t.deadline, .int .i64 t.own, .slice none 0 0]) wakeT (fun _ => rfl) (fun x hx => ?_) rfl
  simp only [wakeT, List.mem_cons, List.not_mem_nil, or_false] at hx
  rcases hx with rfl | rfl | rfl <;> exact codT_nil _ rfl ⟨by decide, by decide, by decide, by decide, by decide, by decide⟩
theorem rowI_ok {w : World} {xs : List Int} (h : ∀ x ∈ xs, (Lit.int .i64 x).wf = true) : ∀ x ∈ xs, cInt .i64 w (cellsI x) x := fun x hx => ⟨rfl, h x hx⟩
theorem newI (w : World) (xs : List Int) (cs : Array Value) (h : ∀ x ∈ xs, (Lit.int .i64 x).wf = true) (hcs : cs.toList = xs.flatMap cellsI) : Row (cInt .i64) 1 (w.alloc (.cells cs 3)) (some ⟨w.heap.size, 0, none⟩) xs :=
  row_new cellsI xs (fun _ => rfl) (rowI_ok h) hcs
set_option maxHeartbeats 1000000 in
theorem awake26 (w : World) : Calls Try.prog 11 #[] w fun e w' => e = .returned (.bool true) ∧ Below w.heap.size w w' := by
  have e1 : aboveL wakeT 0 = [1, 2] := by decide
  have e2 : aboveL wakeT 2 = [1] := by decide
  have e3 : hypL wakeT = 12 := by decide
  have E1 := hide e1; have E2 := hide e2; have E3 := hide e3
  clear e1 e2 e3
  have hr0 := hide (wakeT_row w)
  go_enter Try.func11, Try.ntmps11
  go_wp2_with fail
  refine (above_any _ _ wakeT 0 _ hr0.out (by decide)).mono ?_
  rintro e w1 ⟨v1, rfl, ho1, hb1⟩
  obtain ⟨A1, c1, rfl, _, _, hr1⟩ := ho1.row (R := cInt .i64) (fun _ => rfl) (rowI_ok (by rw [E1.out]; decide))
  have HR1 := hide hr1; clear hr1 ho1
  have hz1 := hb1.size
  simp at hz1
  go_wp2_with fail
  refine (ints_n (aboveL wakeT 0) [1, 2] rfl rfl (HR1.out.ext (Mono.int _) (Ext.below ((Below.refl _ _).alloc (Nat.le_refl _) _))) (newI _ _ _ (by decide) rfl) (by rw [E1.out]; decide) (by decide)).mono ?_
  rw [E1.out]
  rintro e w2 ⟨rfl, m2, rfl⟩
  have hb2 : Below w.heap.size w w1 := ((Below.refl _ _).alloc (Nat.le_refl _) _).trans (hb1.mono (by simp))
  go_wp2_with fail
  refine (above_any _ _ wakeT 2 _ ((hr0.out.ext Task.mono (Ext.below hb1)).ext Task.mono ((Ext.below ((Below.refl _ _).alloc (Nat.le_refl _) _)).trans (Ext.drewN _ _))) (by decide)).mono ?_
  rintro e w2 ⟨v2, rfl, ho2, hb3⟩
  obtain ⟨A2, c2, rfl, _, _, hr2⟩ := ho2.row (R := cInt .i64) (fun _ => rfl) (rowI_ok (by rw [E2.out]; decide))
  have HR2 := hide hr2; clear hr2 ho2
  have hz2 := hb3.size
  simp at hz2
  go_wp2_with fail
  refine (ints_n (aboveL wakeT 2) [1] rfl rfl (HR2.out.ext (Mono.int _) (Ext.below ((Below.refl _ _).alloc (Nat.le_refl _) _))) (newI _ _ _ (by decide) rfl) (by rw [E2.out]; decide) (by decide)).mono ?_
  rw [E2.out]
  rintro e w3 ⟨rfl, m3, rfl⟩
  have hb4 : Below w.heap.size w w2 := (belowDrew (hb2.alloc (by omega) _) _).trans (hb3.mono (by simp; omega))
  go_wp2_with fail
  refine (hyper_any _ _ wakeT _ (((hr0.out.ext Task.mono (Ext.below hb1)).ext Task.mono ((Ext.below ((Below.refl _ _).alloc (Nat.le_refl _) _)).trans (Ext.drewN _ _))).ext Task.mono ((Ext.below hb3).trans ((Ext.below ((Below.refl _ _).alloc (Nat.le_refl _) _)).trans (Ext.drewN _ _)))) (by decide)).mono ?_
  rw [E3.out]
  rintro e w4 ⟨rfl, hb5⟩
  go_wp2_with fail
  go_ret
  exact ⟨rfl, (belowDrew (hb4.alloc (by omega) _) _).trans (hb5.mono (by simp; omega))⟩

theorem ahead_lt {l : List Task} {a b : Int} : aheadB l a b = true ↔ (0 ≤ a ∧ a < l.length ∧ 0 ≤ b ∧ b < l.length) ∧ (prioAt l b < prioAt l a ∨ prioAt l a = prioAt l b ∧ a < b) := by
  simp [aheadB]
theorem chain_one {l : List Task} {a b : Nat} (ha : a < l.length) (hb : b < l.length) (hne : a ≠ b) : (aheadB l a b == aheadB l b a) = false := by
  rw [beq_eq_false_iff_ne]
  intro h
  have h1 := @ahead_lt l a b
  have h2 := @ahead_lt l b a
  rw [h] at h1
  have := h1.symm.trans h2
  omega
theorem chain_self {l : List Task} {a : Int} : aheadB l a a = false := by
  cases h : aheadB l a a
  · rfl
  · have := ahead_lt.1 h; omega
theorem chain_trans {l : List Task} {a b d : Int} (h1 : aheadB l a b = true) (h2 : aheadB l b d = true) : aheadB l a d = true := by
  have := ahead_lt.1 h1; have := ahead_lt.1 h2
  exact ahead_lt.2 (by omega)
set_option maxHeartbeats 4000000 in
theorem chain_walk (A : Option Addr) (c : Nat) (l : List Task) (w : World) (hl : Row Task.cod 7 w A l) (hn : l.length ≤ 9223372036854775807) :
   Calls Try.prog 3 #[.slice A l.length c] w fun e w' => e = .returned (.bool true) ∧ Below w.heap.size w w' := by
  cases hf : fewB l 12
  · go_enter Try.func3, Try.ntmps3
    go_wp2_with fail
    refine (few_any _ _ l 12 _ hl hn).mono ?_
    rintro e w1 ⟨rfl, hb1⟩
    go_wp2_with fail
    refine (awake26 _).mono ?_
    rintro e w2 ⟨rfl, hb2⟩
    go_wp2_with fail
    go_ret
    exact ⟨rfl, hb1.trans (hb2.mono hb1.size)⟩
  · have hsmall : l.length ≤ 12 := by simp [fewB] at hf; omega
    go_enter Try.func3, Try.ntmps3
    go_wp2_with fail
    refine (few_any _ _ l 12 _ hl hn).mono ?_
    rintro e w1 ⟨rfl, hb1⟩
    have hl1 := hide (hl.ext Task.mono (Ext.below hb1))
    go_wp2_with fail
    go_loopw [3, 4, 5, 12] (fun _ _ _ i wr => ∃ a m : Nat, a ≤ l.length ∧ i = .int .i64 a ∧ wr = w1.drewN m) (fun _ _ _ i _ => l.length - (intOf i).toNat)
    case atStart => exact ⟨0, 0, Nat.zero_le _, rfl, rfl⟩
    case round =>
      obtain ⟨a, m, ha, rfl, rfl⟩ := hrel
      by_cases hla : a < l.length
      · go_wp2_with fail
        go_loopw [4, 5, 17] (fun _ _ i wr => ∃ b m : Nat, b ≤ l.length ∧ i = .int .i64 b ∧ wr = w1.drewN m) (fun _ _ i _ => l.length - (intOf i).toNat)
        case atStart => exact ⟨0, _, Nat.zero_le _, rfl, rfl⟩
        case round =>
          obtain ⟨b, m, hb, rfl, rfl⟩ := hrel
          by_cases hlb : b < l.length
          · have hz : ((a : Int) = b ∧ aheadB l a b = false ∧ ((a : Int) != b) = false ∧ ((a : Int) == b) = true) ∨ (((a : Int) != b) = true ∧ ((a : Int) == b) = false ∧ (aheadB l a b == aheadB l b a) = false) := by
              by_cases hab : a = b
              · subst hab; exact .inl ⟨rfl, chain_self, by simp, by simp⟩
              · exact .inr ⟨by simp; omega, by simp; omega, chain_one hla hlb hab⟩
            have tr : ∀ d : Nat, aheadB l a b = true → aheadB l b d = true → aheadB l a d = true := fun d h1 h2 => chain_trans h1 h2
            have Tr := hide tr
            clear tr
            have hz' : (aheadB l a b = false ∧ ((a : Int) != b) = false ∧ ((a : Int) == b) = true) ∨ (((a : Int) != b) = true ∧ ((a : Int) == b) = false ∧ (aheadB l a b == aheadB l b a) = false) := hz.imp (fun h => h.2) id
            clear hz
            rcases hz' with ⟨z1, z2, z3⟩ | ⟨z1, z2, z3⟩
            all_goals
              go_wp2_with (first | (go_at_call 12; refine (ahead_any _ _ (hl1.out.ext Task.mono (Ext.drewN _ _)) hn).mono ?_; rintro e w' ⟨rfl, q, rfl⟩))
              go_loopw [5, 47] (fun _ i wr => ∃ d m : Nat, d ≤ l.length ∧ i = .int .i64 d ∧ wr = w1.drewN m) (fun _ i _ => l.length - (intOf i).toNat)
              case atStart => exact ⟨0, _, Nat.zero_le _, rfl, rfl⟩
              case round =>
                obtain ⟨d, m, hd, rfl, rfl⟩ := hrel
                by_cases hld : d < l.length
                · cases h1 : aheadB l a b
                  · go_wp2_with (first | (go_at_call 12; refine (ahead_any _ _ (hl1.out.ext Task.mono (Ext.drewN _ _)) hn).mono ?_; rintro e w' ⟨rfl, q, rfl⟩))
                    go_roundw
                    case rel => exact ⟨d + 1, _, by omega, by go_num, by first | rfl | rw [World.drewN_drewN]⟩
                    case measure => simp [intOf]; omega
                  · cases h2 : aheadB l b d
                    · go_wp2_with (first | (go_at_call 12; refine (ahead_any _ _ (hl1.out.ext Task.mono (Ext.drewN _ _)) hn).mono ?_; rintro e w' ⟨rfl, q, rfl⟩))
                      go_roundw
                      case rel => exact ⟨d + 1, _, by omega, by go_num, by first | rfl | rw [World.drewN_drewN]⟩
                      case measure => simp [intOf]; omega
                    · have h3 := Tr.out d h1 h2
                      go_wp2_with (first | (go_at_call 12; refine (ahead_any _ _ (hl1.out.ext Task.mono (Ext.drewN _ _)) hn).mono ?_; rintro e w' ⟨rfl, q, rfl⟩))
                      go_roundw
                      case rel => exact ⟨d + 1, _, by omega, by go_num, by first | rfl | rw [World.drewN_drewN]⟩
                      case measure => simp [intOf]; omega
                · go_wp2
                  go_roundw
                  case rel => exact ⟨b + 1, _, by omega, by go_num, rfl⟩
                  case measure => simp [intOf]; omega
          · go_wp2
            go_roundw
            case rel => exact ⟨a + 1, _, by omega, by go_num, rfl⟩
            case measure => simp [intOf]; omega
      · go_wp2_with fail
        refine (awake26 _).mono ?_
        rintro e w2 ⟨rfl, hb2⟩
        go_wp2_with fail
        go_ret
        exact ⟨rfl, hb1.trans (belowDrew (Below.refl _ _) _ |>.trans (hb2.mono hb1.size))⟩
end Go.Proofs.Ytnijdaidmpjccaa
