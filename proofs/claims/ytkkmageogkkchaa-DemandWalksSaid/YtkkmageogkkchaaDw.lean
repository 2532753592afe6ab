/- No walk through a task's program takes more than is told, or calls more often (layer 36). No condition. -/
import Derived.Test.YtkkmageogkkchaaDc
import Derived.Test.YtkkmageogkkchaaSp
namespace Go.Proofs.Ytkkmageogkkchaa
set_option linter.unusedSimpArgs false
set_option linter.unusedVariables false
set_option maxRecDepth 100000
set_option linter.unusedSimpArgs false
set_option linter.unusedVariables false
set_option maxRecDepth 100000
open Go.RowKit
theorem sys_up {σ : Sig} {ι : Nat → Value} {S : System} {v : Value} (hv : VR σ ι (.agg (eSystem S)) v) : ∀ j i : Nat, ((S.tasks.getD j default).code.getD i default).n ≤ 4294967295 := by
  obtain ⟨vs, _, h2⟩ := hv.agg_inv
  obtain ⟨u, _, hu⟩ := h2.get (j := 0) (x := .lst 7 (S.tasks.map eTask)) rfl
  have hu0 : VR0 σ (.lst 7 (S.tasks.map eTask)) u := by cases hu; assumption
  intro j i
  by_cases hj : j < S.tasks.length
  · by_cases hi : i < (S.tasks.getD j default).code.length
    · obtain ⟨u1, h3⟩ := hu0.lst_at (c := .lst 5 ((S.tasks.getD j default).code.map eInstr)) (List.mem_flatten.2 ⟨eTask (S.tasks.getD j default), List.mem_map_of_mem (getD_mem hj), by simp [eTask]⟩)
      obtain ⟨u2, h4⟩ := h3.lst_at (c := .int .u32 ((S.tasks.getD j default).code.getD i default).n) (List.mem_flatten.2 ⟨eInstr ((S.tasks.getD j default).code.getD i default), List.mem_map_of_mem (getD_mem hi), by simp [eInstr]⟩)
      have := (VR.base (ι := ι) _ _ h4).int_inv.2
      simp only [rangeP] at this
      omega
    · rw [List.getD_eq_getElem?_getD (l := (S.tasks.getD j default).code), List.getElem?_eq_none (by omega)]; decide
  · rw [List.getD_eq_getElem?_getD (l := S.tasks), List.getElem?_eq_none (by omega)]
    show (([] : List Instr).getD i default).n ≤ 4294967295
    simp; decide
theorem wsysU {P : Program} {n : Md} {c : Code} {Q : Exit → Slots → Heap → Prop} {s : Slots} {h : Heap} (t : Nat) {S : System} (hg : get s t = .agg (eSystem S)) (hk : (∀ j i : Nat, ((S.tasks.getD j default).code.getD i default).n ≤ 4294967295) → W P n c Q s h) : W P n c Q s h := ⟨by
  intro E σ ι a w hr ht
  have hv := ht.at_ t
  rw [hg] at hv
  exact (hk (sys_up hv)).out E σ ι a w hr ht⟩
/-- Sums that never reach Top. -/
def eS (w : List Int) (l : List Int) : Int := l.foldl (fun s x => s + w.getD x.toNat default) 0
theorem eS_next (w : List Int) (l : List Int) (k : Nat) (hk : k < l.length) : eS w (l.take (k + 1)) = eS w (l.take k) + w.getD (l.getD k default).toNat default := by
  have e : l.getD k default = l[k] := by rw [List.getD_eq_getElem?_getD, List.getElem?_eq_getElem hk]; rfl
  rw [eS, eS, List.take_succ_eq_append_getElem hk, List.foldl_append, List.foldl_cons, List.foldl_nil, e]
theorem eS_sum (w : List Int) : ∀ (l : List Int) (s : Int), (∀ x ∈ l, 0 ≤ w.getD x.toNat default ∧ w.getD x.toNat default ≤ 1000) → 0 ≤ s → s + 1000 * l.length ≤ 1099511627776 → l.foldl (fun s x => s + w.getD x.toNat default) s = sumW w s l ∧ s ≤ sumW w s l ∧ sumW w s l ≤ s + 1000 * l.length
  | [], s, _, h0, h1 => by simp [sumW]
  | x :: l, s, h, h0, h1 => by
    have hx := h x List.mem_cons_self
    rw [List.length_cons] at h1
    have e : addI s (w.getD x.toNat default) = s + w.getD x.toNat default := by unfold addI insI; omega
    have ih := eS_sum w l (s + w.getD x.toNat default) (fun y hy => h y (List.mem_cons_of_mem _ hy)) (by omega) (by omega)
    unfold sumW at ih ⊢
    rw [List.foldl_cons, List.foldl_cons, e, List.length_cons]
    exact ⟨ih.1, by omega, by omega⟩
theorem cOf_zero' (p : List Instr) : cOf p (fun _ => 0) = turnsC p := by funext s; rw [cOf, Nat.sub_zero]
/-- What a walk weighs is at most what is told. -/
theorem walk_costF {p : List Instr} {w : List Int} (hf : fineB p = true) (hn : ∀ i, 0 ≤ (p.getD i default).n) (hw : w.length = p.length) (ch : List Bool) (hb : ∀ j : Nat, 0 ≤ w.getD j default ∧ w.getD j default ≤ 1000) :
    eS w (walkL p ch 2000 0 (fun _ => 0) 0).1 ≤ (costF max p w).1 := by
  have hfp := fine_inv hf
  have h1 := walk_most (w := w) hfp hn ch 2000 0 (fun _ => 0) 0 0 (st_0 hfp) (by decide) (by decide)
  have b1 := leftM_B (w := w) hfp hn hfp.pos (fun _ => 0)
  have h2 := eS_sum w (walkL p ch 2000 0 (fun _ => 0) 0).1 0 (fun x _ => hb _) (by decide) (by have := (walkL_len p ch 2000 0 (fun _ => 0) 0).1; omega)
  rw [cost_max hf hn hw, eS, h2.1]
  rw [leftM, cOf_zero'] at b1
  rw [leftM, cOf_zero'] at h1
  have e : addI 0 (kap (phi maxR p (VG maxR (wtN w) p) (turnsC p) 0)) = kap (phi maxR p (VG maxR (wtN w) p) (turnsC p) 0) := by unfold addI insI; omega
  rw [e] at h1
  exact h1
theorem eS_B (w : List Int) (l : List Int) (hb : ∀ j : Nat, 0 ≤ w.getD j default ∧ w.getD j default ≤ 1000) (hl : l.length ≤ 2000) : 0 ≤ eS w l ∧ eS w l ≤ 2000000 := by
  have h2 := eS_sum w l 0 (fun x _ => hb _) (by decide) (by omega)
  rw [eS, h2.1]; omega
theorem wts_B (os : List Object) (p : List Instr) (fails : Int) (j : Nat) : 0 ≤ (weightsL os p fails).getD j default ∧ (weightsL os p fails).getD j default ≤ 1000 := by
  rw [weightsL, List.getD_eq_getElem?_getD, List.getElem?_map]
  cases p[j]? with
  | none => exact ⟨Int.le_refl 0, (by show (0 : Int) ≤ 1000; decide)⟩
  | some x =>
    simp only [Option.map_some, Option.getD_some]
    have := afterB (os.getD x.b.toNat default) (callsI x) fails
    rw [weightI]; split <;> omega
theorem cntX_at (wr : Bool) (k : Int) (p : List Instr) (j : Nat) (hj : j < p.length) : (cntL wr k p).getD j default = cntX wr k (p.getD j default) := by
  rw [cntL, List.getD_eq_getElem?_getD, List.getElem?_map, List.getElem?_eq_getElem hj, List.getD_eq_getElem?_getD, List.getElem?_eq_getElem hj]; rfl
theorem cntX_B (wr : Bool) (k : Int) (p : List Instr) (j : Nat) : 0 ≤ (cntL wr k p).getD j default ∧ (cntL wr k p).getD j default ≤ 1000 := by
  rw [cntL, List.getD_eq_getElem?_getD, List.getElem?_map]
  cases p[j]? with
  | none => exact ⟨Int.le_refl 0, (by show (0 : Int) ≤ 1000; decide)⟩
  | some x =>
    simp only [Option.map_some, Option.getD_some]
    rw [cntX]; split <;> omega
set_option maxHeartbeats 4000000 in
theorem demandWalks_fn (S : System) (i : Int) (ch : List Bool) : Fn Try.prog 5 [.agg (eSystem S), .int .i64 i, .lst 1 (ch.map eB)] (.bool true) := by
  have c0 := awake36_fn
  have c1 := few31_fn S 60 (by omega)
  refine fnb Try.func5 (entered_of (by kernel_rfl)) rfl rfl rfl ?_
  refine wsys 0 rfl (fun hn => ?_)
  refine wsysU 0 rfl (fun hu => ?_)
  cases hf : fewS S 60
  case false =>
    rw [hf] at c1
    repeat' (first | (show W _ _ _ _ _ _; first | apply kA | refine kB rfl ?_ | refine kC rfl rfl ?_ | refine kD rfl rfl ?_ | apply kE | apply kF | apply kG | apply kH | refine kI (by kernel_rfl) (by kernel_rfl) ?_) | (show O _ _ _ _ _ _ _; first | (show O _ _ _ _ (⟨_, .store _ _ _, _, _, _, _⟩ :: _) _ _; refine kJ rfl rfl rfl rfl rfl rfl rfl rfl rfl rfl rfl ?_) | apply kK) | apply kL | ((first | apply kM | apply kN); (iterate 3 (· exact rfl)); (· first | (show Y _ ⟨_, .call ⟨.value _, _, _⟩, _, _, _, _⟩ _ _ _; first | exact q_c (c0) rfl | exact q_c (c1) rfl) | exact ya)) | refine kO rfl rfl rfl rfl rfl ?_ | refine kP rfl rfl rfl ?_ | ((first | refine kQ rfl rfl ?_ ?_ | refine kR rfl rfl rfl rfl rfl ?_ ?_ | refine kS rfl rfl rfl ?_ ?_) <;> intro hc <;> (try simp only [KL, cond_true, cond_false, beq_iff_eq, bne_iff_ne, ne_eq, reduceCtorEq] at hc) <;> (try (have hT : True := hc; clear hT hc)) <;> (try (exfalso; omega))) | apply kT | apply kU | apply kV | apply kW | refine kX rfl ?_ | apply kY | apply kZ)
    all_goals exact retq rfl rfl
  have h := fewS_ok (by omega) hf hn
  rw [hf] at c1
  by_cases h2 : 2000 < ch.length
  · repeat' (first | (show W _ _ _ _ _ _; first | apply kA | refine kB rfl ?_ | refine kC rfl rfl ?_ | refine kD rfl rfl ?_ | apply kE | apply kF | apply kG | apply kH | refine kI (by kernel_rfl) (by kernel_rfl) ?_) | (show O _ _ _ _ _ _ _; first | (show O _ _ _ _ (⟨_, .store _ _ _, _, _, _, _⟩ :: _) _ _; refine kJ rfl rfl rfl rfl rfl rfl rfl rfl rfl rfl rfl ?_) | apply kK) | apply kL | ((first | apply kM | apply kN); (iterate 3 (· exact rfl)); (· first | (show Y _ ⟨_, .call ⟨.value _, _, _⟩, _, _, _, _⟩ _ _ _; first | exact q_c (c0) rfl | exact q_c (c1) rfl) | exact ya)) | refine kO rfl rfl rfl rfl rfl ?_ | refine kP rfl rfl rfl ?_ | ((first | refine kQ rfl rfl ?_ ?_ | refine kR rfl rfl rfl rfl rfl ?_ ?_ | refine kS rfl rfl rfl ?_ ?_) <;> intro hc <;> (try simp only [KL, cond_true, cond_false, beq_iff_eq, bne_iff_ne, ne_eq, reduceCtorEq] at hc) <;> (try (have hT : True := hc; clear hT hc)) <;> (try (exfalso; omega))) | apply kT | apply kU | apply kV | apply kW | refine kX rfl ?_ | apply kY | apply kZ)
    all_goals first | (exfalso; omega) | exact retq rfl rfl
  by_cases h3 : i < 0
  · repeat' (first | (show W _ _ _ _ _ _; first | apply kA | refine kB rfl ?_ | refine kC rfl rfl ?_ | refine kD rfl rfl ?_ | apply kE | apply kF | apply kG | apply kH | refine kI (by kernel_rfl) (by kernel_rfl) ?_) | (show O _ _ _ _ _ _ _; first | (show O _ _ _ _ (⟨_, .store _ _ _, _, _, _, _⟩ :: _) _ _; refine kJ rfl rfl rfl rfl rfl rfl rfl rfl rfl rfl rfl ?_) | apply kK) | apply kL | ((first | apply kM | apply kN); (iterate 3 (· exact rfl)); (· first | (show Y _ ⟨_, .call ⟨.value _, _, _⟩, _, _, _, _⟩ _ _ _; first | exact q_c (c0) rfl | exact q_c (c1) rfl) | exact ya)) | refine kO rfl rfl rfl rfl rfl ?_ | refine kP rfl rfl rfl ?_ | ((first | refine kQ rfl rfl ?_ ?_ | refine kR rfl rfl rfl rfl rfl ?_ ?_ | refine kS rfl rfl rfl ?_ ?_) <;> intro hc <;> (try simp only [KL, cond_true, cond_false, beq_iff_eq, bne_iff_ne, ne_eq, reduceCtorEq] at hc) <;> (try (have hT : True := hc; clear hT hc)) <;> (try (exfalso; omega))) | apply kT | apply kU | apply kV | apply kW | refine kX rfl ?_ | apply kY | apply kZ)
    all_goals first | (exfalso; omega) | exact retq rfl rfl
  by_cases h4 : (S.tasks.length : Int) ≤ i
  · repeat' (first | (show W _ _ _ _ _ _; first | apply kA | refine kB rfl ?_ | refine kC rfl rfl ?_ | refine kD rfl rfl ?_ | apply kE | apply kF | apply kG | apply kH | refine kI (by kernel_rfl) (by kernel_rfl) ?_) | (show O _ _ _ _ _ _ _; first | (show O _ _ _ _ (⟨_, .store _ _ _, _, _, _, _⟩ :: _) _ _; refine kJ rfl rfl rfl rfl rfl rfl rfl rfl rfl rfl rfl ?_) | apply kK) | apply kL | ((first | apply kM | apply kN); (iterate 3 (· exact rfl)); (· first | (show Y _ ⟨_, .call ⟨.value _, _, _⟩, _, _, _, _⟩ _ _ _; first | exact q_c (c0) rfl | exact q_c (c1) rfl) | exact ya)) | refine kO rfl rfl rfl rfl rfl ?_ | refine kP rfl rfl rfl ?_ | ((first | refine kQ rfl rfl ?_ ?_ | refine kR rfl rfl rfl rfl rfl ?_ ?_ | refine kS rfl rfl rfl ?_ ?_) <;> intro hc <;> (try simp only [KL, cond_true, cond_false, beq_iff_eq, bne_iff_ne, ne_eq, reduceCtorEq] at hc) <;> (try (have hT : True := hc; clear hT hc)) <;> (try (exfalso; omega))) | apply kT | apply kU | apply kV | apply kW | refine kX rfl ?_ | apply kY | apply kZ)
    all_goals first | (exfalso; omega) | exact retq rfl rfl
  obtain ⟨j, rfl⟩ : ∃ j : Nat, i = j := ⟨i.toNat, by omega⟩
  have hcl := h.cl j
  have htl := h.tl
  have hol := h.ol
  have c2 := rfine_fn (S.tasks.getD j default).code (by omega)
  cases hff : fineB (S.tasks.getD j default).code
  · rw [hff] at c2
    repeat' (first | (show W _ _ _ _ _ _; first | apply kA | refine kB rfl ?_ | refine kC rfl rfl ?_ | refine kD rfl rfl ?_ | apply kE | apply kF | apply kG | apply kH | refine kI (by kernel_rfl) (by kernel_rfl) ?_) | (show O _ _ _ _ _ _ _; first | (show O _ _ _ _ (⟨_, .store _ _ _, _, _, _, _⟩ :: _) _ _; refine kJ rfl rfl rfl rfl rfl rfl rfl rfl rfl rfl rfl ?_) | apply kK) | apply kL | ((first | apply kM | apply kN); (iterate 3 (· exact rfl)); (· first | (show Y _ ⟨_, .call ⟨.value _, _, _⟩, _, _, _, _⟩ _ _ _; first | exact q_c (c0) rfl | exact q_c (c1) rfl | exact q_c (c2) rfl) | exact ya)) | refine kO rfl rfl rfl rfl rfl ?_ | refine kP rfl rfl rfl ?_ | ((first | refine kQ rfl rfl ?_ ?_ | refine kR rfl rfl rfl rfl rfl ?_ ?_ | refine kS rfl rfl rfl ?_ ?_) <;> intro hc <;> (try simp only [KL, cond_true, cond_false, beq_iff_eq, bne_iff_ne, ne_eq, reduceCtorEq] at hc) <;> (try (have hT : True := hc; clear hT hc)) <;> (try (exfalso; omega))) | apply kT | apply kU | apply kV | apply kW | refine kX rfl ?_ | apply kY | apply kZ)
    all_goals first | (exfalso; omega) | exact retq rfl rfl
  rw [hff] at c2
  have hfp := fine_inv hff
  have hnj := h.n j
  have huj := hu j
  have c3 := walk11_fn (S.tasks.getD j default).code ch 2000 hfp (fun k => ⟨hnj k, huj k⟩) (by decide) (by omega)
  rw [show (2000 : Int).toNat = 2000 from rfl] at c3
  have c4 := rweights_fn S.tasks S.objects j 0 (by omega) (by omega) (by omega) (by omega)
  have c5 := rweights_fn S.tasks S.objects j 16 (by omega) (by omega) (by omega) (by omega)
  have c6 := dclean_fn S h j
  have c7 := dwhole_fn S h j
  have c8 := dwrites_fn S h j 0
  rw [demI, if_neg (by omega), Int.toNat_natCast] at c6 c7
  rw [countI, Int.toNat_natCast] at c8
  have w1 := walk_costF hff hnj (wts_len S.objects _ 0) ch (wts_B S.objects _ 0)
  have w2 := walk_costF hff hnj (wts_len S.objects _ 16) ch (wts_B S.objects _ 16)
  have w3 := walk_costF hff hnj (cntL_len true 0 _) ch (cntX_B true 0 _)
  have q2 := walkL_mem hfp hnj ch 2000 0 (fun _ => 0) 0 (st_0 hfp)
  have q4 := (walkL_len (S.tasks.getD j default).code ch 2000 0 (fun _ => 0) 0).1
  have b1 := wts_B S.objects (S.tasks.getD j default).code 0
  have b2 := wts_B S.objects (S.tasks.getD j default).code 16
  have b3 := cntX_B true 0 (S.tasks.getD j default).code
  have l1 := wts_len S.objects (S.tasks.getD j default).code 0
  have l2 := wts_len S.objects (S.tasks.getD j default).code 16
  have hx : ∀ m, m < (S.tasks.getD j default).code.length → (cntL true 0 (S.tasks.getD j default).code).getD m default = if ((S.tasks.getD j default).code.getD m default).b = 0 ∧ ((S.tasks.getD j default).code.getD m default).op ∈ kindsW true then 1 else 0 := fun m hm => by
    rw [cntX_at _ _ _ _ hm, cnt_fine hfp hm]
  generalize weightsL S.objects (S.tasks.getD j default).code 0 = wa at *
  generalize weightsL S.objects (S.tasks.getD j default).code 16 = wb at *
  generalize cntL true 0 (S.tasks.getD j default).code = wc at *
  generalize walkL (S.tasks.getD j default).code ch 2000 0 (fun _ => 0) 0 = F at *
  obtain ⟨l, ok⟩ := F
  simp only at c3 w1 w2 w3 q2 q4
  generalize (costF max (S.tasks.getD j default).code wa) = A at *
  generalize (costF max (S.tasks.getD j default).code wb) = B at *
  generalize (costF max (S.tasks.getD j default).code wc) = Cw at *
  obtain ⟨t, htd⟩ : ∃ t, S.tasks.getD j default = t := ⟨_, rfl⟩
  rw [htd] at c2 c3 q2 hx hcl l1 l2
  repeat' (first | (show W _ _ _ _ _ _; first | apply kA | refine kB rfl ?_ | refine kC rfl rfl ?_ | refine kD rfl rfl ?_ | apply kE | apply kF | apply kG | apply kH | refine kI (by kernel_rfl) (by kernel_rfl) ?_) | (show O _ _ _ _ _ _ _; first | (show O _ _ _ _ (⟨_, .store _ _ _, _, _, _, _⟩ :: _) _ _; refine kJ rfl rfl rfl rfl rfl rfl rfl rfl rfl rfl rfl ?_) | apply kK) | apply kL | ((first | apply kM | apply kN); (iterate 3 (· exact rfl)); (· first | (show Y _ ⟨_, .indexAddr _ _ _, _, _, _, _⟩ _ _ _; first | exact Y.mk (ok_indexE (htd) rfl rfl rfl rfl rfl (by omega))) | (show Y _ ⟨_, .call ⟨.value _, _, _⟩, _, _, _, _⟩ _ _ _; first | exact q_c (c0) rfl | exact q_c (c1) rfl | exact q_c (c2) rfl | exact q_c (c3) rfl | exact q_c (c4) rfl | exact q_c (c5) rfl) | exact ya)) | refine kO rfl rfl rfl rfl rfl ?_ | refine kP rfl rfl rfl ?_ | ((first | refine kQ rfl rfl ?_ ?_ | refine kR rfl rfl rfl rfl rfl ?_ ?_ | refine kS rfl rfl rfl ?_ ?_) <;> intro hc <;> (try simp only [KL, cond_true, cond_false, beq_iff_eq, bne_iff_ne, ne_eq, reduceCtorEq] at hc) <;> (try (have hT : True := hc; clear hT hc)) <;> (try (exfalso; omega))) | apply kT | apply kU | apply kV | apply kW | refine kX rfl ?_ | apply kY | apply kZ)
  all_goals first | (exfalso; omega) | skip
  refine wloop (fun k : Nat => ([(1, .int .i64 (j : Int)), (2, .lst 1 (ch.map eB)), (3, .ref (eSystem S)), (7, .lst 1 (l.map eI)), (9, .lst 1 (wa.map eI)), (10, .lst 1 (wb.map eI)), (11, .int .i64 (eS wa (l.take k))), (12, .int .i64 (eS wb (l.take k))), (13, .int .i64 (eS wc (l.take k))), (68, .lst 1 (l.map eI)), (69, .int .i64 l.length), (70, .int .i64 k)], [])) (fun k => k ≤ l.length) (fun k => l.length - k) 0 (Nat.zero_le _) les leh (fun k hk => ?_)
  rcases Nat.lt_or_eq_of_le hk with hlt | hke
  · have hq := q2 _ (getD_mem hlt)
    have e1 := eS_next wa l k hlt
    have e2 := eS_next wb l k hlt
    have e3 := eS_next wc l k hlt
    have hkl : (l.take k).length ≤ 2000 := by rw [List.length_take]; omega
    have B1 := eS_B wa (l.take k) b1 hkl
    have B2 := eS_B wb (l.take k) b2 hkl
    have B3 := eS_B wc (l.take k) b3 hkl
    obtain ⟨x, hxd⟩ : ∃ x, l.getD k default = x := ⟨_, rfl⟩
    rw [hxd] at hq e1 e2 e3
    obtain ⟨q, rfl⟩ : ∃ q : Nat, x = q := ⟨x.toNat, by omega⟩
    rw [Int.toNat_natCast] at e1 e2 e3
    have hxq := hx q (by omega)
    have hb1 := b1 q
    have hb2 := b2 q
    obtain ⟨y, hy⟩ : ∃ y, t.code.getD q default = y := ⟨_, rfl⟩
    obtain ⟨va, hva⟩ : ∃ v, wa.getD q default = v := ⟨_, rfl⟩
    obtain ⟨vb, hvb⟩ : ∃ v, wb.getD q default = v := ⟨_, rfl⟩
    rw [hy] at hxq
    rw [hxq] at e3
    rw [hva] at e1 hb1
    rw [hvb] at e2 hb2
    have hkw : (y.b = 0 ∧ y.op ∈ kindsW true) ↔ (y.b = 0 ∧ (y.op = 18 ∨ y.op = 19)) := by simp [kindsW]
    generalize eS wa (l.take k) = sa at *
    generalize eS wb (l.take k) = sb at *
    generalize eS wc (l.take k) = sc at *
    by_cases hw : y.b = 0 ∧ (y.op = 18 ∨ y.op = 19)
    · rw [if_pos (hkw.2 hw)] at e3
      repeat' (first | (show W _ _ _ _ _ _; first | apply kA | refine kB rfl ?_ | refine kC rfl rfl ?_ | refine kD rfl rfl ?_ | apply kE | apply kF | apply kG | apply kH | refine kI (by kernel_rfl) (by kernel_rfl) ?_) | (show O _ _ _ _ _ _ _; first | (show O _ _ _ _ (⟨_, .alloc _, _, _, _, _⟩ :: _) _ _; first | refine ao_alloc (id := 20) rfl rfl rfl rfl rfl rfl rfl ?_) | (show O _ _ _ _ (⟨_, .store _ _ _, _, _, _, _⟩ :: _) _ _; refine kJ rfl rfl rfl rfl rfl rfl rfl rfl rfl rfl rfl ?_) | apply kK) | apply kL | ((first | apply kM | apply kN); (iterate 3 (· exact rfl)); (· first | (show Y _ ⟨_, .indexAddr _ _ _, _, _, _, _⟩ _ _ _; first | exact Y.mk (ok_indexE (hxd) rfl rfl rfl rfl rfl (by omega)) | exact Y.mk (ok_indexE (htd) rfl rfl rfl rfl rfl (by omega)) | exact Y.mk (ok_indexE (hy) rfl rfl rfl rfl rfl (by omega)) | exact Y.mk (ok_indexE (hva) rfl rfl rfl rfl rfl (by omega)) | exact Y.mk (ok_indexE (hvb) rfl rfl rfl rfl rfl (by omega))) | exact ya)) | refine kO rfl rfl rfl rfl rfl ?_ | refine kP rfl rfl rfl ?_ | ((first | refine kQ rfl rfl ?_ ?_ | refine kR rfl rfl rfl rfl rfl ?_ ?_ | refine kS rfl rfl rfl ?_ ?_) <;> intro hc <;> (try simp only [KL, cond_true, cond_false, beq_iff_eq, bne_iff_ne, ne_eq, reduceCtorEq] at hc) <;> (try (have hT : True := hc; clear hT hc)) <;> (try (exfalso; omega))) | apply kT | apply kU | apply kV | apply kW | refine kX rfl ?_ | apply kY | apply kZ)
      all_goals first | (exfalso; omega) | exact ⟨k + 1, by omega, by omega, by rw [e1, e2, e3]; exact les, leh⟩
    · rw [if_neg (fun e => hw (hkw.1 e)), Int.add_zero] at e3
      repeat' (first | (show W _ _ _ _ _ _; first | apply kA | refine kB rfl ?_ | refine kC rfl rfl ?_ | refine kD rfl rfl ?_ | apply kE | apply kF | apply kG | apply kH | refine kI (by kernel_rfl) (by kernel_rfl) ?_) | (show O _ _ _ _ _ _ _; first | (show O _ _ _ _ (⟨_, .alloc _, _, _, _, _⟩ :: _) _ _; first | refine ao_alloc (id := 20) rfl rfl rfl rfl rfl rfl rfl ?_) | (show O _ _ _ _ (⟨_, .store _ _ _, _, _, _, _⟩ :: _) _ _; refine kJ rfl rfl rfl rfl rfl rfl rfl rfl rfl rfl rfl ?_) | apply kK) | apply kL | ((first | apply kM | apply kN); (iterate 3 (· exact rfl)); (· first | (show Y _ ⟨_, .indexAddr _ _ _, _, _, _, _⟩ _ _ _; first | exact Y.mk (ok_indexE (hxd) rfl rfl rfl rfl rfl (by omega)) | exact Y.mk (ok_indexE (htd) rfl rfl rfl rfl rfl (by omega)) | exact Y.mk (ok_indexE (hy) rfl rfl rfl rfl rfl (by omega)) | exact Y.mk (ok_indexE (hva) rfl rfl rfl rfl rfl (by omega)) | exact Y.mk (ok_indexE (hvb) rfl rfl rfl rfl rfl (by omega))) | exact ya)) | refine kO rfl rfl rfl rfl rfl ?_ | refine kP rfl rfl rfl ?_ | ((first | refine kQ rfl rfl ?_ ?_ | refine kR rfl rfl rfl rfl rfl ?_ ?_ | refine kS rfl rfl rfl ?_ ?_) <;> intro hc <;> (try simp only [KL, cond_true, cond_false, beq_iff_eq, bne_iff_ne, ne_eq, reduceCtorEq] at hc) <;> (try (have hT : True := hc; clear hT hc)) <;> (try (exfalso; omega))) | apply kT | apply kU | apply kV | apply kW | refine kX rfl ?_ | apply kY | apply kZ)
      all_goals first | (exfalso; omega) | exact ⟨k + 1, by omega, by omega, by rw [e1, e2, e3]; exact les, leh⟩
  · subst hke
    rw [List.take_length]
    generalize eS wa l = sa at *
    generalize eS wb l = sb at *
    generalize eS wc l = sc at *
    by_cases ho : S.objects.length = 0
    · repeat' (first | (show W _ _ _ _ _ _; first | apply kA | refine kB rfl ?_ | refine kC rfl rfl ?_ | refine kD rfl rfl ?_ | apply kE | apply kF | apply kG | apply kH | refine kI (by kernel_rfl) (by kernel_rfl) ?_) | (show O _ _ _ _ _ _ _; first | (show O _ _ _ _ (⟨_, .store _ _ _, _, _, _, _⟩ :: _) _ _; refine kJ rfl rfl rfl rfl rfl rfl rfl rfl rfl rfl rfl ?_) | apply kK) | apply kL | ((first | apply kM | apply kN); (iterate 3 (· exact rfl)); (· first | (show Y _ ⟨_, .call ⟨.value _, _, _⟩, _, _, _, _⟩ _ _ _; first | exact q_c (c0) rfl | exact q_c (c6) rfl | exact q_c (c7) rfl) | exact ya)) | refine kO rfl rfl rfl rfl rfl ?_ | refine kP rfl rfl rfl ?_ | ((first | refine kQ rfl rfl ?_ ?_ | refine kR rfl rfl rfl rfl rfl ?_ ?_ | refine kS rfl rfl rfl ?_ ?_) <;> intro hc <;> (try simp only [KL, cond_true, cond_false, beq_iff_eq, bne_iff_ne, ne_eq, reduceCtorEq] at hc) <;> (try (have hT : True := hc; clear hT hc)) <;> (try (exfalso; omega))) | apply kT | apply kU | apply kV | apply kW | refine kX rfl ?_ | apply kY | apply kZ)
      all_goals first | (exfalso; omega) | exact retq rfl rfl
    · rw [if_neg (by omega)] at c8
      repeat' (first | (show W _ _ _ _ _ _; first | apply kA | refine kB rfl ?_ | refine kC rfl rfl ?_ | refine kD rfl rfl ?_ | apply kE | apply kF | apply kG | apply kH | refine kI (by kernel_rfl) (by kernel_rfl) ?_) | (show O _ _ _ _ _ _ _; first | (show O _ _ _ _ (⟨_, .store _ _ _, _, _, _, _⟩ :: _) _ _; refine kJ rfl rfl rfl rfl rfl rfl rfl rfl rfl rfl rfl ?_) | apply kK) | apply kL | ((first | apply kM | apply kN); (iterate 3 (· exact rfl)); (· first | (show Y _ ⟨_, .call ⟨.value _, _, _⟩, _, _, _, _⟩ _ _ _; first | exact q_c (c0) rfl | exact q_c (c6) rfl | exact q_c (c7) rfl | exact q_c (c8) rfl) | exact ya)) | refine kO rfl rfl rfl rfl rfl ?_ | refine kP rfl rfl rfl ?_ | ((first | refine kQ rfl rfl ?_ ?_ | refine kR rfl rfl rfl rfl rfl ?_ ?_ | refine kS rfl rfl rfl ?_ ?_) <;> intro hc <;> (try simp only [KL, cond_true, cond_false, beq_iff_eq, bne_iff_ne, ne_eq, reduceCtorEq] at hc) <;> (try (have hT : True := hc; clear hT hc)) <;> (try (exfalso; omega))) | apply kT | apply kU | apply kV | apply kW | refine kX rfl ?_ | apply kY | apply kZ)
      all_goals first | (exfalso; omega) | exact retq rfl rfl
end Go.Proofs.Ytkkmageogkkchaa
