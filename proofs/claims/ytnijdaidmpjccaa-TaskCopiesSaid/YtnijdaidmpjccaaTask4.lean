/- TaskCopies: a copy goes its own way; no condition. -/
import Derived.Test.YtnijdaidmpjccaaTask3
import Derived.Deep.RegionHeld3
namespace Go.Proofs.Ytnijdaidmpjccaa
set_option linter.unusedSimpArgs false
set_option linter.unusedVariables false
open Go.RowKit

/-- The first k instructions with their kind one further on. -/
def incTo (k : Nat) (l : List Instr) : List Instr := l.mapIdx fun i x => if i < k then ⟨wrap64 (x.op + 1), x.a, x.b, x.c, x.n⟩ else x
theorem incTo_len (k : Nat) (l : List Instr) : (incTo k l).length = l.length := by simp [incTo]
theorem incTo_zero (l : List Instr) : incTo 0 l = l := by apply List.ext_getElem?; intro i; simp [incTo]
theorem incTo_get {k : Nat} {l : List Instr} (h : k < l.length) : (incTo k l)[k]'(by rw [incTo_len]; exact h) = l[k] := by simp [incTo]
theorem incTo_next {k : Nat} {l : List Instr} (h : k < l.length) : incTo (k + 1) l = (incTo k l).set k ⟨wrap64 (l[k].op + 1), l[k].a, l[k].b, l[k].c, l[k].n⟩ := by
  apply List.ext_getElem?
  intro i
  simp only [incTo, List.getElem?_mapIdx, List.getElem?_set, List.length_mapIdx]
  by_cases hik : k = i
  · subst hik; simp [h]
  · rw [if_neg hik]
    by_cases hi : i < k
    · simp [hi, show i < k + 1 by omega]
    · simp [hi, show ¬ i < k + 1 by omega]
theorem incTo_ok {k : Nat} {l : List Instr} (hok : ∀ x ∈ l, x.ok) : ∀ x ∈ incTo k l, x.ok := by
  intro x hx
  obtain ⟨i, hi, rfl⟩ := List.getElem_of_mem hx
  have hi' : i < l.length := by rwa [incTo_len] at hi
  have := hok l[i] (List.getElem_mem hi')
  simp only [incTo, List.getElem_mapIdx]
  split
  · exact ⟨wrap64_wf _, this.2⟩
  · exact this
theorem inc_ne {x : Int} (h : (Lit.int .i64 x).wf = true) : ¬ wrap64 (x + 1) = x := by
  have := Go.bounds_i64 h
  unfold wrap64; omega
abbrev taskL (t : Task) (v : Value) : List Value := [.int .i64 t.kind, .int .i64 t.prio, .int .i64 t.period, .int .i64 t.offset, .int .i64 t.deadline, .int .i64 t.own, v]
theorem row_ok {α : Type} {R : Cod α} {ok : α → Prop} {k : Nat} {w : World} {A : Option Addr} {xs : List α} (hR : ∀ cs x, R w cs x → ok x) (h : Row R k w A xs) : ∀ x ∈ xs, ok x := by
  intro x hx
  obtain ⟨i, hi, rfl⟩ := List.getElem_of_mem hx
  obtain ⟨b, off, _, hr⟩ := h (by omega)
  obtain ⟨cs, h1, _⟩ := hr i _ (List.getElem?_eq_getElem hi)
  exact hR _ _ h1
set_option maxRecDepth 100000 in
set_option maxHeartbeats 4000000 in
theorem copies_walk (A B : Option Addr) (c d : Nat) (s t : Task) (w : World) (hs : Row Instr.cod 5 w A s.code) (ht : Row Instr.cod 5 w B t.code) (hn : s.code.length ≤ 9223372036854775807) (hm : t.code.length ≤ 9223372036854775807) :
    Calls Try.prog 4 #[taskV s (.slice A s.code.length c), taskV t (.slice B t.code.length d)] w fun e w' => e = .returned (.bool true) ∧ Below w.heap.size w w' := by
  by_cases h1 : 200 < s.code.length
  · clear hs ht
    go_enter Try.func4, Try.ntmps4
    go_wp2_with (go_at_call 11; refine (awake26 _).mono ?_; rintro e w2 ⟨rfl, hb2⟩)
    go_ret
    exact ⟨rfl, (((Below.refl _ _).alloc (Nat.le_refl _) _).alloc (by simp) _).trans (hb2.mono (by simp; omega))⟩
  by_cases h2 : 200 < t.code.length
  · clear hs ht
    go_enter Try.func4, Try.ntmps4
    go_wp2_with (go_at_call 11; refine (awake26 _).mono ?_; rintro e w2 ⟨rfl, hb2⟩)
    go_ret
    exact ⟨rfl, (((Below.refl _ _).alloc (Nat.le_refl _) _).alloc (by simp) _).trans (hb2.mono (by simp; omega))⟩
  · have hok : ∀ x ∈ s.code, x.ok := row_ok (R := Instr.cod) (ok := Instr.ok) (fun _ _ h => h.2) hs
    have d1 : decide ((200 : Int) < s.code.length) = false := by simp; omega
    have d2 : decide ((200 : Int) < t.code.length) = false := by simp; omega
    have Hs := hide hs; have Ht := hide ht
    clear hs ht
    go_enter Try.func4, Try.ntmps4
    go_wp2_with fail
    refine (copy_any A c s _ (Hs.out.ext Instr.mono (Ext.below (((Below.refl _ _).alloc (Nat.le_refl _) _).alloc (by simp) _))) (by omega)).mono ?_
    rintro e w1 ⟨v1, rfl, hown1, hb1⟩
    obtain ⟨A1, c1, rfl, hlc, hmc⟩ := hown1.form
    have hz := hb1.size
    simp at hz
    have aA : AtB w1 w.heap.size (taskL s (.slice A s.code.length c)) := (AtB.new w _ _).ext ((Ext.alloc _ _).trans (Ext.below hb1))
    have aB : AtB w1 (w.heap.size + 1) (taskL t (.slice B t.code.length d)) := by
      have := (AtB.new (w.alloc (.cells #[.int .i64 s.kind, .int .i64 s.prio, .int .i64 s.period, .int .i64 s.offset, .int .i64 s.deadline, .int .i64 s.own, .slice A s.code.length c] 29)) (taskL t (.slice B t.code.length d)) 29).ext (Ext.below hb1)
      simpa using this
    have a6A := aA 6 _ rfl
    have a6B := aB 6 _ rfl
    have hlow : ∀ b, A1 = some ⟨b, 0, none⟩ → b < w1.heap.size := fun b hb => (World.ownsRow.lt hown1 b (by rw [hb]; rfl)).2
    have Hlow := hide hlow; clear hlow
    have HO := hide hown1
    have HB := hide hb1
    have HaA := hide aA; have HaB := hide aB
    clear hown1 hb1 aA aB
    go_wp2_with fail
    obtain ⟨w2, hw2⟩ : ∃ w2, w2 = w1.alloc (.cells #[.int .i64 s.kind, .int .i64 s.prio, .int .i64 s.period, .int .i64 s.offset, .int .i64 s.deadline, .int .i64 s.own, .slice A1 s.code.length c1] 29) := ⟨_, rfl⟩
    have hE2 : Ext w1 w2 := by rw [hw2]; exact Ext.alloc _ _
    have cA := HaA.out.ext hE2
    have cB := HaB.out.ext hE2
    have cC : AtB w2 w1.heap.size (taskL s (.slice A1 s.code.length c1)) := by rw [hw2]; exact AtB.new _ _ _
    have hO2 : Own Instr.cells 5 34 (w.heap.size + 1 + 1) w2 (.slice A1 s.code.length c1) s.code := by
      have := HO.out
      simp only [World.size_alloc] at this
      rw [hw2]; exact this.alloc _
    have hz2 : w2.heap.size = w1.heap.size + 1 := by rw [hw2]; simp
    have hB2 : Below w.heap.size w w2 := by
      rw [hw2]
      exact ((((Below.refl _ _).alloc (Nat.le_refl _) _).alloc (by simp) _).trans (HB.out.mono (by simp; omega))).alloc (by omega) _
    rw [← hw2]
    clear hw2 HB hE2 HaA HaB a6A a6B
    obtain ⟨g, hg⟩ : ∃ g, g = w1.heap.size := ⟨_, rfl⟩
    have hlow := Hlow.out
    clear Hlow
    rw [← hg] at cC hz2 hz hlow ⊢
    have Hlow := hide hlow; clear hlow
    clear HO hg
    have mk : ∀ W, Below w2.heap.size w2 W → (W.cell? ⟨w.heap.size, 0, none⟩ = some (.int .i64 s.kind) ∧ W.cell? ⟨w.heap.size, 1, none⟩ = some (.int .i64 s.prio) ∧ W.cell? ⟨w.heap.size, 2, none⟩ = some (.int .i64 s.period) ∧ W.cell? ⟨w.heap.size, 3, none⟩ = some (.int .i64 s.offset) ∧ W.cell? ⟨w.heap.size, 4, none⟩ = some (.int .i64 s.deadline) ∧ W.cell? ⟨w.heap.size, 5, none⟩ = some (.int .i64 s.own) ∧ W.cell? ⟨w.heap.size, 6, none⟩ = some (.slice A s.code.length c) ∧ W.cell? ⟨w.heap.size + 1, 0, none⟩ = some (.int .i64 t.kind) ∧ W.cell? ⟨w.heap.size + 1, 1, none⟩ = some (.int .i64 t.prio) ∧ W.cell? ⟨w.heap.size + 1, 2, none⟩ = some (.int .i64 t.period) ∧ W.cell? ⟨w.heap.size + 1, 3, none⟩ = some (.int .i64 t.offset) ∧ W.cell? ⟨w.heap.size + 1, 4, none⟩ = some (.int .i64 t.deadline) ∧ W.cell? ⟨w.heap.size + 1, 5, none⟩ = some (.int .i64 t.own) ∧ W.cell? ⟨w.heap.size + 1, 6, none⟩ = some (.slice B t.code.length d) ∧ W.cell? ⟨g, 0, none⟩ = some (.int .i64 s.kind) ∧ W.cell? ⟨g, 1, none⟩ = some (.int .i64 s.prio) ∧ W.cell? ⟨g, 2, none⟩ = some (.int .i64 s.period) ∧ W.cell? ⟨g, 3, none⟩ = some (.int .i64 s.offset) ∧ W.cell? ⟨g, 4, none⟩ = some (.int .i64 s.deadline) ∧ W.cell? ⟨g, 5, none⟩ = some (.int .i64 s.own) ∧ W.cell? ⟨g, 6, none⟩ = some (.slice A1 s.code.length c1) ∧ Below w2.heap.size w2 W) := by
      intro W hb
      have hA := cA.ext (Ext.below hb)
      have hB := cB.ext (Ext.below hb)
      have hC := cC.ext (Ext.below hb)
      exact ⟨hA 0 _ rfl, hA 1 _ rfl, hA 2 _ rfl, hA 3 _ rfl, hA 4 _ rfl, hA 5 _ rfl, hA 6 _ rfl, hB 0 _ rfl, hB 1 _ rfl, hB 2 _ rfl, hB 3 _ rfl, hB 4 _ rfl, hB 5 _ rfl, hB 6 _ rfl, hC 0 _ rfl, hC 1 _ rfl, hC 2 _ rfl, hC 3 _ rfl, hC 4 _ rfl, hC 5 _ rfl, hC 6 _ rfl, hb⟩
    have MK := hide mk
    have rA : ∀ W, Below w2.heap.size w2 W → Row Instr.cod 5 W A s.code := fun W hb => Hs.out.ext Instr.mono ((Ext.below hB2).trans (Ext.below hb))
    have rB : ∀ W, Below w2.heap.size w2 W → Row Instr.cod 5 W B t.code := fun W hb => Ht.out.ext Instr.mono ((Ext.below hB2).trans (Ext.below hb))
    have rC : ∀ W, Below w2.heap.size w2 W → Row Instr.cod 5 W A1 s.code := fun W hb => by
      obtain ⟨A2, c2, he, _, _, hr⟩ := (hO2.below hb).row (R := Instr.cod) (fun _ => rfl) (fun x hx => ⟨rfl, hok x hx⟩)
      injection he with he; rw [he]; exact hr
    have RA := hide rA; have RB := hide rB; have RC := hide rC; have HO := hide hO2; have HB2 := hide hB2
    have hB0 : Below w2.heap.size w2 w2 := Below.refl _ _
    have HcA := hide cA; have HcB := hide cB; have HcC := hide cC
    clear mk rA rB rC hO2 hB2 cA cB cC
    have PR := hide (show ∀ W, (W.cell? ⟨w.heap.size, 0, none⟩ = some (.int .i64 s.kind) ∧ W.cell? ⟨w.heap.size, 1, none⟩ = some (.int .i64 s.prio) ∧ W.cell? ⟨w.heap.size, 2, none⟩ = some (.int .i64 s.period) ∧ W.cell? ⟨w.heap.size, 3, none⟩ = some (.int .i64 s.offset) ∧ W.cell? ⟨w.heap.size, 4, none⟩ = some (.int .i64 s.deadline) ∧ W.cell? ⟨w.heap.size, 5, none⟩ = some (.int .i64 s.own) ∧ W.cell? ⟨w.heap.size, 6, none⟩ = some (.slice A s.code.length c) ∧ W.cell? ⟨w.heap.size + 1, 0, none⟩ = some (.int .i64 t.kind) ∧ W.cell? ⟨w.heap.size + 1, 1, none⟩ = some (.int .i64 t.prio) ∧ W.cell? ⟨w.heap.size + 1, 2, none⟩ = some (.int .i64 t.period) ∧ W.cell? ⟨w.heap.size + 1, 3, none⟩ = some (.int .i64 t.offset) ∧ W.cell? ⟨w.heap.size + 1, 4, none⟩ = some (.int .i64 t.deadline) ∧ W.cell? ⟨w.heap.size + 1, 5, none⟩ = some (.int .i64 t.own) ∧ W.cell? ⟨w.heap.size + 1, 6, none⟩ = some (.slice B t.code.length d) ∧ W.cell? ⟨g, 0, none⟩ = some (.int .i64 s.kind) ∧ W.cell? ⟨g, 1, none⟩ = some (.int .i64 s.prio) ∧ W.cell? ⟨g, 2, none⟩ = some (.int .i64 s.period) ∧ W.cell? ⟨g, 3, none⟩ = some (.int .i64 s.offset) ∧ W.cell? ⟨g, 4, none⟩ = some (.int .i64 s.deadline) ∧ W.cell? ⟨g, 5, none⟩ = some (.int .i64 s.own) ∧ W.cell? ⟨g, 6, none⟩ = some (.slice A1 s.code.length c1) ∧ Below w2.heap.size w2 W) → Below w2.heap.size w2 W from fun W h => h.2.2.2.2.2.2.2.2.2.2.2.2.2.2.2.2.2.2.2.2.2)
    go_region_held3 (fun W => W.cell? ⟨w.heap.size, 0, none⟩ = some (.int .i64 s.kind) ∧ W.cell? ⟨w.heap.size, 1, none⟩ = some (.int .i64 s.prio) ∧ W.cell? ⟨w.heap.size, 2, none⟩ = some (.int .i64 s.period) ∧ W.cell? ⟨w.heap.size, 3, none⟩ = some (.int .i64 s.offset) ∧ W.cell? ⟨w.heap.size, 4, none⟩ = some (.int .i64 s.deadline) ∧ W.cell? ⟨w.heap.size, 5, none⟩ = some (.int .i64 s.own) ∧ W.cell? ⟨w.heap.size, 6, none⟩ = some (.slice A s.code.length c) ∧ W.cell? ⟨w.heap.size + 1, 0, none⟩ = some (.int .i64 t.kind) ∧ W.cell? ⟨w.heap.size + 1, 1, none⟩ = some (.int .i64 t.prio) ∧ W.cell? ⟨w.heap.size + 1, 2, none⟩ = some (.int .i64 t.period) ∧ W.cell? ⟨w.heap.size + 1, 3, none⟩ = some (.int .i64 t.offset) ∧ W.cell? ⟨w.heap.size + 1, 4, none⟩ = some (.int .i64 t.deadline) ∧ W.cell? ⟨w.heap.size + 1, 5, none⟩ = some (.int .i64 t.own) ∧ W.cell? ⟨w.heap.size + 1, 6, none⟩ = some (.slice B t.code.length d) ∧ W.cell? ⟨g, 0, none⟩ = some (.int .i64 s.kind) ∧ W.cell? ⟨g, 1, none⟩ = some (.int .i64 s.prio) ∧ W.cell? ⟨g, 2, none⟩ = some (.int .i64 s.period) ∧ W.cell? ⟨g, 3, none⟩ = some (.int .i64 s.offset) ∧ W.cell? ⟨g, 4, none⟩ = some (.int .i64 s.deadline) ∧ W.cell? ⟨g, 5, none⟩ = some (.int .i64 s.own) ∧ W.cell? ⟨g, 6, none⟩ = some (.slice A1 s.code.length c1) ∧ Below w2.heap.size w2 W) (first | exact MK.out _ (by assumption) | exact MK.out _ (Below.drew (by assumption)))
      (first
        | (go_at_call 14; with_reducible (refine (plainTask_any A1 A c1 c s s _ (RC.out _ (PR.out _ (by assumption))) (RA.out _ (PR.out _ (by assumption))) (by omega) (by omega)).mono ?_); rintro e w' ⟨rfl, hb⟩; have hB : Below w2.heap.size w2 w' := Below.trans (PR.out _ (by assumption)) (hb.mono (Below.size (PR.out _ (by assumption)))))
        | (go_at_call 15; with_reducible (refine (same_any A1 A c1 c s s _ (RC.out _ (PR.out _ (by assumption))) (RA.out _ (PR.out _ (by assumption))) (by omega) (by omega)).mono ?_); rintro e w' ⟨rfl, hb⟩; have hB : Below w2.heap.size w2 w' := Below.trans (PR.out _ (by assumption)) (hb.mono (Below.size (PR.out _ (by assumption)))))
        | (go_at_call 14; with_reducible (refine (plainTask_any A B c d s t _ (RA.out _ (PR.out _ (by assumption))) (RB.out _ (PR.out _ (by assumption))) (by omega) (by omega)).mono ?_); rintro e w' ⟨rfl, hb⟩; have hB : Below w2.heap.size w2 w' := Below.trans (PR.out _ (by assumption)) (hb.mono (Below.size (PR.out _ (by assumption)))))
        | (go_at_call 15; with_reducible (refine (same_any A B c d s t _ (RA.out _ (PR.out _ (by assumption))) (RB.out _ (PR.out _ (by assumption))) (by omega) (by omega)).mono ?_); rintro e w' ⟨rfl, hb⟩; have hB : Below w2.heap.size w2 w' := Below.trans (PR.out _ (by assumption)) (hb.mono (Below.size (PR.out _ (by assumption))))))
    go_wp2_with fail
    have hbl := hB
    go_loopw [6, 42] (fun _ i wr => ∃ k : Nat, k ≤ s.code.length ∧ i = .int .i64 k ∧ Own Instr.cells 5 34 (w.heap.size + 1 + 1) wr (.slice A1 s.code.length c1) (incTo k s.code) ∧ AtB wr g (taskL s (.slice A1 s.code.length c1)) ∧ Below (w.heap.size + 1 + 1) w2 wr) (fun _ i _ => s.code.length - (intOf i).toNat)
    case atStart => exact ⟨0, Nat.zero_le _, rfl, by rw [incTo_zero]; exact HO.out.below hB, HcC.out.ext (Ext.below hB), hB.mono (by omega)⟩
    case round =>
      obtain ⟨k, hk, rfl, ho, hgC, hbw⟩ := hrel
      have hzw := hbw.size
      have bA : AtB wr w.heap.size (taskL s (.slice A s.code.length c)) := fun i u hu => (hbw.cell (p := ⟨w.heap.size, i, none⟩) (by show w.heap.size < _; omega)).trans (HcA.out i u hu)
      have hBw : Below w.heap.size w wr := HB2.out.trans (hbw.mono (by omega))
      have rowA := Hs.out.ext Instr.mono (Ext.below hBw)
      by_cases hlt : k < s.code.length
      · have a6 := bA 6 _ rfl
        have c6 := hgC 6 _ rfl
        obtain ⟨g1, rfl, -, hg1, hg1', hfz⟩ := ho.at_ (by rw [incTo_len]; omega)
        have hne : g1 ≠ g := by have := Hlow.out g1 rfl; omega
        have hcell := (ho.row (R := Instr.cod) (fun _ => rfl) (fun x hx => ⟨rfl, incTo_ok hok x hx⟩))
        obtain ⟨A2, c2, he, _, _, hr2⟩ := hcell
        injection he with he h5 h6
        clear h5 h6
        subst he
        obtain ⟨b2, o2, hbo, hr2'⟩ := hr2 (by rw [incTo_len]; omega)
        injection hbo with hbo
        injection hbo with h1 h2
        subst h1; subst h2
        obtain ⟨q0, q1, q2, q3, q4, qk⟩ := Instr.at hr2' k (by rw [incTo_len]; exact hlt)
        rw [incTo_get hlt] at q0 q1 q2 q3 q4
        obtain ⟨ba, oa, rfl, hrA⟩ := rowA (by omega)
        obtain ⟨p0, p1, p2, p3, p4, pk⟩ := Instr.at hrA k hlt
        have hba : ba < w.heap.size := by
          obtain ⟨ba', oa', hx, hrA'⟩ := Hs.out (by omega)
          injection hx with hx
          injection hx with h1 h2
          subst h1
          exact World.block_lt_of_cell? w ⟨ba, _, none⟩ (Instr.at hrA' k hlt).1
        have hstep := incTo_next hlt
        have hcel : (⟨wrap64 (s.code[k].op + 1), s.code[k].a, s.code[k].b, s.code[k].c, s.code[k].n⟩ : Instr).cells = ((incTo k s.code)[k]'(by rw [incTo_len]; exact hlt)).cells.set 0 (.int .i64 (wrap64 (s.code[k].op + 1))) := by rw [incTo_get hlt]; rfl
        have hown' := ho.store (fun _ => rfl) (i := k) (j := 0) (by rw [incTo_len]; exact hlt) (by omega) hcel
        rw [← hstep] at hown'
        have hneq : s.code[k] ≠ ⟨wrap64 (s.code[k].op + 1), s.code[k].a, s.code[k].b, s.code[k].c, s.code[k].n⟩ := fun h => inc_ne pk.1 (congrArg Instr.op h).symm
        simp only [Nat.zero_add, Nat.add_zero] at q0 q1 q2 q3 q4 hown'
        have Hown := hide hown'; have HgC := hide (hgC.far (p := ⟨g1, k * 5, none⟩) hne (.int .i64 (wrap64 (s.code[k].op + 1))))
        have Hbw := hide (hbw.setCell (p := ⟨g1, k * 5, none⟩) hg1 (.int .i64 (wrap64 (s.code[k].op + 1))))
        have eqv : ∀ W, _ := fun W => Instr.run_eqIn s.code[k] ⟨wrap64 (s.code[k].op + 1), s.code[k].a, s.code[k].b, s.code[k].c, s.code[k].n⟩ W
        have grd := fun op xo yo xs ys W => Instr.run_guard op xo yo xs ys W
        simp only [hneq, decide_false] at eqv
        clear hown' hstep hcel hneq ho hgC bA hbw hrA hr2' hr2 rowA
        generalize s.code[k] = u at *
        have hfz0 := hfz (k * 5)
        clear hfz
        go_wp2_with fail
        go_quiet (fail)
        go_wp2_with fail
        go_roundw
        case rel => exact ⟨k + 1, by omega, by go_num, Hown.out.drewN _, HgC.out.ext (Ext.drewN _ _), belowDrew Hbw.out _⟩
        case measure => simp [intOf]; omega
      · obtain rfl : k = s.code.length := by omega
        obtain ⟨t2, ht2⟩ : ∃ t2 : Task, t2 = ⟨s.kind, s.prio, s.period, s.offset, s.deadline, s.own, incTo s.code.length s.code⟩ := ⟨_, rfl⟩
        have hlen2 : t2.code.length = s.code.length := by rw [ht2]; exact incTo_len _ _
        have hv2 : ∀ v, taskV t2 v = taskV s v := fun v => by rw [ht2]
        have hres : decide (s = t2) = ((s.code.length : Int) == 0) := by
          rw [Bool.eq_iff_iff]
          simp only [decide_eq_true_eq, beq_iff_eq]
          constructor
          · intro h
            by_cases h0 : s.code.length = 0
            · omega
            · exfalso
              have h1 : s.code = incTo s.code.length s.code := by rw [ht2] at h; exact congrArg Task.code h
              have h2 : s.code[0]? = (incTo s.code.length s.code)[0]? := by rw [← h1]
              rw [List.getElem?_eq_getElem (by omega)] at h2
              simp only [incTo, List.getElem?_mapIdx, List.getElem?_eq_getElem (show 0 < s.code.length by omega), Option.map_some, Option.some.injEq] at h2
              rw [if_pos (by omega)] at h2
              exact inc_ne (hok _ (List.getElem_mem (show 0 < s.code.length by omega))).1 (congrArg Instr.op h2).symm
          · intro h
            have h0 : s.code = [] := List.eq_nil_of_length_eq_zero (by omega)
            rw [ht2]; exact Task.ext_ ⟨rfl, rfl, rfl, rfl, rfl, rfl, by rw [h0]; rfl⟩
        have ht2c : t2.code = incTo s.code.length s.code := by rw [ht2]
        have rowC2 : Row Instr.cod 5 wr A1 t2.code := by
          obtain ⟨A2, c2, he, _, _, hr2⟩ := (ho.row (R := Instr.cod) (fun _ => rfl) (fun x hx => ⟨rfl, incTo_ok hok x hx⟩))
          injection he with he _ _
          rw [he, ht2c]; exact hr2
        have mk2 : ∀ W, Below wr.heap.size wr W → (W.cell? ⟨w.heap.size, 0, none⟩ = some (.int .i64 s.kind) ∧ W.cell? ⟨w.heap.size, 1, none⟩ = some (.int .i64 s.prio) ∧ W.cell? ⟨w.heap.size, 2, none⟩ = some (.int .i64 s.period) ∧ W.cell? ⟨w.heap.size, 3, none⟩ = some (.int .i64 s.offset) ∧ W.cell? ⟨w.heap.size, 4, none⟩ = some (.int .i64 s.deadline) ∧ W.cell? ⟨w.heap.size, 5, none⟩ = some (.int .i64 s.own) ∧ W.cell? ⟨w.heap.size, 6, none⟩ = some (.slice A s.code.length c) ∧ W.cell? ⟨g, 0, none⟩ = some (.int .i64 s.kind) ∧ W.cell? ⟨g, 1, none⟩ = some (.int .i64 s.prio) ∧ W.cell? ⟨g, 2, none⟩ = some (.int .i64 s.period) ∧ W.cell? ⟨g, 3, none⟩ = some (.int .i64 s.offset) ∧ W.cell? ⟨g, 4, none⟩ = some (.int .i64 s.deadline) ∧ W.cell? ⟨g, 5, none⟩ = some (.int .i64 s.own) ∧ W.cell? ⟨g, 6, none⟩ = some (.slice A1 s.code.length c1) ∧ Below wr.heap.size wr W) := by
          intro W hb
          have hA := bA.ext (Ext.below hb)
          have hC := hgC.ext (Ext.below hb)
          exact ⟨hA 0 _ rfl, hA 1 _ rfl, hA 2 _ rfl, hA 3 _ rfl, hA 4 _ rfl, hA 5 _ rfl, hA 6 _ rfl, hC 0 _ rfl, hC 1 _ rfl, hC 2 _ rfl, hC 3 _ rfl, hC 4 _ rfl, hC 5 _ rfl, hC 6 _ rfl, hb⟩
        have MK2 := hide mk2
        have PR2 := hide (show ∀ W, (W.cell? ⟨w.heap.size, 0, none⟩ = some (.int .i64 s.kind) ∧ W.cell? ⟨w.heap.size, 1, none⟩ = some (.int .i64 s.prio) ∧ W.cell? ⟨w.heap.size, 2, none⟩ = some (.int .i64 s.period) ∧ W.cell? ⟨w.heap.size, 3, none⟩ = some (.int .i64 s.offset) ∧ W.cell? ⟨w.heap.size, 4, none⟩ = some (.int .i64 s.deadline) ∧ W.cell? ⟨w.heap.size, 5, none⟩ = some (.int .i64 s.own) ∧ W.cell? ⟨w.heap.size, 6, none⟩ = some (.slice A s.code.length c) ∧ W.cell? ⟨g, 0, none⟩ = some (.int .i64 s.kind) ∧ W.cell? ⟨g, 1, none⟩ = some (.int .i64 s.prio) ∧ W.cell? ⟨g, 2, none⟩ = some (.int .i64 s.period) ∧ W.cell? ⟨g, 3, none⟩ = some (.int .i64 s.offset) ∧ W.cell? ⟨g, 4, none⟩ = some (.int .i64 s.deadline) ∧ W.cell? ⟨g, 5, none⟩ = some (.int .i64 s.own) ∧ W.cell? ⟨g, 6, none⟩ = some (.slice A1 s.code.length c1) ∧ Below wr.heap.size wr W) → Below wr.heap.size wr W from fun W h => h.2.2.2.2.2.2.2.2.2.2.2.2.2.2)
        have RA2 := hide (show ∀ W, Below wr.heap.size wr W → Row Instr.cod 5 W A s.code from fun W h => rowA.ext Instr.mono (Ext.below h))
        have RC2 := hide (show ∀ W, Below wr.heap.size wr W → Row Instr.cod 5 W A1 t2.code from fun W h => rowC2.ext Instr.mono (Ext.below h))
        have hsame : ∀ W, Below wr.heap.size wr W → Calls Try.prog 15 #[taskV s (.slice A s.code.length c), taskV s (.slice A1 s.code.length c1)] W fun e w' => e = .returned (.bool ((s.code.length : Int) == 0)) ∧ Below W.heap.size W w' := by
          intro W hb
          have := same_n s t2 (A := A) (B := A1) (c := c) (d := c1) rfl hlen2 (rowA.ext Instr.mono (Ext.below hb)) (rowC2.ext Instr.mono (Ext.below hb)) (by omega) (by omega)
          rwa [hres, hv2] at this
        have HS := hide hsame
        have Hbw := hide hBw
        have hb0 : Below wr.heap.size wr wr := Below.refl _ _
        clear mk2 rowC2 rowA hres hv2 ht2 ht2c hgC ho bA hbw hBw hlen2 hsame
        go_wp2_with fail
        go_region_held3 (fun W => W.cell? ⟨w.heap.size, 0, none⟩ = some (.int .i64 s.kind) ∧ W.cell? ⟨w.heap.size, 1, none⟩ = some (.int .i64 s.prio) ∧ W.cell? ⟨w.heap.size, 2, none⟩ = some (.int .i64 s.period) ∧ W.cell? ⟨w.heap.size, 3, none⟩ = some (.int .i64 s.offset) ∧ W.cell? ⟨w.heap.size, 4, none⟩ = some (.int .i64 s.deadline) ∧ W.cell? ⟨w.heap.size, 5, none⟩ = some (.int .i64 s.own) ∧ W.cell? ⟨w.heap.size, 6, none⟩ = some (.slice A s.code.length c) ∧ W.cell? ⟨g, 0, none⟩ = some (.int .i64 s.kind) ∧ W.cell? ⟨g, 1, none⟩ = some (.int .i64 s.prio) ∧ W.cell? ⟨g, 2, none⟩ = some (.int .i64 s.period) ∧ W.cell? ⟨g, 3, none⟩ = some (.int .i64 s.offset) ∧ W.cell? ⟨g, 4, none⟩ = some (.int .i64 s.deadline) ∧ W.cell? ⟨g, 5, none⟩ = some (.int .i64 s.own) ∧ W.cell? ⟨g, 6, none⟩ = some (.slice A1 s.code.length c1) ∧ Below wr.heap.size wr W) (first | exact MK2.out _ (by assumption) | exact MK2.out _ (Below.drew (by assumption)))
          (first
            | (go_at_call 15; with_reducible (refine (HS.out _ (PR2.out _ (by assumption))).mono ?_); rintro e w' ⟨rfl, hb⟩; have hB : Below wr.heap.size wr w' := Below.trans (PR2.out _ (by assumption)) (hb.mono (Below.size (PR2.out _ (by assumption)))))
            | (go_at_call 11; with_reducible (refine (awake26 _).mono ?_); rintro e w' ⟨rfl, hb⟩; have hB : Below wr.heap.size wr w' := Below.trans (PR2.out _ (by assumption)) (hb.mono (Below.size (PR2.out _ (by assumption))))))
        go_wp2_with fail
        go_ret
        exact ⟨rfl, Hbw.out.trans (hB.mono (Below.size Hbw.out))⟩
end Go.Proofs.Ytnijdaidmpjccaa
