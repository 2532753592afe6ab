/- How often a job calls: the document's answer; the statement DemandCalls. No condition. -/
import Derived.Test.YtkkmageogkkchaaGreatT16
import Derived.Test.YtkkmageogkkchaaGreatT11
import Derived.Test.YtkkmageogkkchaaGreatT15
import Derived.Test.YtkkmageogkkchaaGreatT6
import Derived.OpenShut
import Derived.Test.YtkkmageogkkchaaGreatT14
set_option linter.unusedSimpArgs false
set_option linter.unusedVariables false
set_option maxHeartbeats 1000000
namespace Go.Proofs.YtkkmageogkkchaaGreat
set_option maxRecDepth 100000
set_option maxRecDepth 100000
open Go.RowKit
theorem cnt_fine {p : List Instr} (hf : FineP p) {m : Nat} (hm : m < p.length) (wr : Bool) (k : Int) : cntX wr k (p.getD m default) = if (p.getD m default).b = k ∧ (p.getD m default).op ∈ kindsW wr then 1 else 0 := by
  have hr := hf.right m hm
  generalize p.getD m default = x at *
  have hk : x.op ∈ kindsW wr → 17 ≤ x.op ∧ x.op ≤ 20 := fun h => by cases wr <;> simp [kindsW] at h <;> omega
  rw [cntX]
  by_cases h : x.b = k ∧ x.op ∈ kindsW wr
  · rw [if_pos h, if_pos ⟨by rw [callsI, if_pos ⟨hr, hk h.2⟩]; have := hk h.2; omega, h⟩]
  · rw [if_neg h, if_neg (fun e => h e.2)]
set_option maxHeartbeats 1000000 in
theorem rcalls36_fn (S : System) (h : OkS S) (i k : Int) (wr : Bool) : Fn Tryz.prog 59 [.agg (eSystem S), .int .i64 i, .int .i64 k, .bool wr] (.int .i64 (countI S i k wr)) := by
  have h1 := h.tl
  have h2 := h.ol
  by_cases hi : i < 0 ∨ (S.tasks.length : Int) ≤ i ∨ k < 0 ∨ (S.objects.length : Int) ≤ k
  · rw [countI, if_pos hi]
    refine fnb Tryz.func59 (entered_of (by kernel_rfl)) rfl rfl rfl ?_
    repeat' (first | refine sA ?_ | ((first | apply kM | apply kN); (iterate 3 (· exact rfl)); (· first | exact ya)) | refine sG ?_ | (refine sK ?_ ?_ <;> intro hc <;> (try simp only [KL, sL, reduceCtorEq] at hc) <;> (try (exfalso; omega))))
    all_goals first | (exfalso; omega) | exact retq rfl rfl
  rw [countI, if_neg hi]
  obtain ⟨j, rfl⟩ : ∃ j : Nat, i = j := ⟨i.toNat, by omega⟩
  rw [Int.toNat_natCast]
  have h3 := h.cl j
  have h4 := h.n j
  obtain ⟨t, ht⟩ : ∃ t, S.tasks.getD j default = t := ⟨_, rfl⟩
  rw [ht] at h3 h4 ⊢
  have c0 := rfine_fn t.code (by omega)
  cases hf : fineB t.code
  case false =>
    rw [hf] at c0
    rw [costF_no hf]
    refine fnb Tryz.func59 (entered_of (by kernel_rfl)) rfl rfl rfl ?_
    repeat' (first | refine sA ?_ | ((first | apply kM | apply kN); (iterate 3 (· exact rfl)); (· first | (show Y _ ⟨_, .indexAddr _ _ _, _, _, _, _⟩ _ _ _; first | exact Y.mk (ok_indexE (ht) rfl rfl rfl rfl rfl (by omega))) | exact ya | exact q_c (c0) rfl)) | refine sG ?_ | (refine sK ?_ ?_ <;> intro hc <;> (try simp only [KL, sL, reduceCtorEq] at hc) <;> (try (exfalso; omega))))
    all_goals first | (exfalso; omega) | exact retq rfl rfl
  rw [hf] at c0
  rw [costF_fine hf (cntL_len _ _ _)]
  have hfp := fine_inv hf
  have c5 := most12_fn t.code (cntL wr k t.code) hf h4 (cntL_len _ _ _)
  obtain ⟨p, hpp⟩ : ∃ p, t.code = p := ⟨_, rfl⟩
  refine fnb Tryz.func59 (entered_of (by kernel_rfl)) rfl rfl rfl ?_
  repeat' (first | refine sA ?_ | ((first | apply kM | apply kN); (iterate 3 (· exact rfl)); (· first | (show Y _ ⟨_, .indexAddr _ _ _, _, _, _, _⟩ _ _ _; first | exact Y.mk (ok_indexE (ht) rfl rfl rfl rfl rfl (by omega))) | exact ya | exact q_c (c0) rfl)) | refine sG ?_ | (refine sK ?_ ?_ <;> intro hc <;> (try simp only [KL, sL, reduceCtorEq] at hc) <;> (try (exfalso; omega))))
  all_goals first | (exfalso; omega) | skip
  rw [hpp] at h3 hfp ⊢
  refine wturn (turn_own eI (t := 9) rfl 10 3 1 (by omega) rfl) ?_
  refine wloop (fun m : Nat => ([(1, .int .i64 j), (2, .int .i64 k), (3, .bool wr), (4, .ref (eSystem S)), (9, .own 10), (48, .lst 5 (p.map eInstr)), (49, .int .i64 p.length), (50, .int .i64 m)], [(10, .row 3 1 ((cntL wr k (p.take m)).map eI))])) (fun m => m ≤ p.length) (fun m => p.length - m) 0 (Nat.zero_le _) (by rw [← hpp]; exact les) leh (fun m hm => ?_)
  have hlen := cntL_len wr k (p.take m)
  rw [List.length_take] at hlen
  rcases Nat.lt_or_eq_of_le hm with hml | hml
  · have hnx := cntL_next wr k p m hml
    rw [cnt_fine hfp hml] at hnx
    obtain ⟨x, hx⟩ : ∃ x, p.getD m default = x := ⟨_, rfl⟩
    rw [hx] at hnx
    cases wr
    · by_cases hc : x.b = k ∧ (x.op = 17 ∨ x.op = 20)
      · rw [if_pos ⟨hc.1, by simp [kindsW]; omega⟩] at hnx
        repeat' (first | refine sA ?_ | (show O _ _ _ _ _ _ _; first | refine ao_alloc (id := 11) rfl rfl rfl rfl rfl rfl rfl ?_) | ((first | apply kM | apply kN); (iterate 3 (· exact rfl)); (· first | (show Y _ ⟨_, .indexAddr _ _ _, _, _, _, _⟩ _ _ _; first | exact Y.mk (ok_indexE (hx) rfl rfl rfl rfl rfl (by omega))) | exact ya)) | refine sG ?_ | (refine sK ?_ ?_ <;> intro hc <;> (try simp only [KL, sL, reduceCtorEq] at hc) <;> (try (exfalso; omega))))
        all_goals first | (exfalso; omega) | skip
        all_goals
          (refine ao_ap (id := 10) (ys := [(1 : Int)]) (by_ := 8) rfl rfl rfl rfl rfl rfl rfl rfl rfl rfl (fun _ _ => rfl) ?_ ?_ rfl rfl rfl rfl rfl ?_; (· (first | omega | ((try simp only [List.length_cons, List.length_nil, List.length_append, List.length_map]) <;> omega))); (· (first | omega | ((try simp only [List.length_cons, List.length_nil, List.length_append, List.length_map]) <;> omega))))
          repeat' (first | refine sA ?_ | ((first | apply kM | apply kN); (iterate 3 (· exact rfl)); (· first | exact ya)) | refine sG ?_ | (refine sK ?_ ?_ <;> intro hc <;> (try simp only [KL, sL, reduceCtorEq] at hc) <;> (try (exfalso; omega))))
          exact ⟨m + 1, by omega, by omega, les, by simp only [hnx]; exact leh⟩
      · rw [if_neg (fun e => hc ⟨e.1, by have := e.2; simp [kindsW] at this; omega⟩)] at hnx
        repeat' (first | refine sA ?_ | (show O _ _ _ _ _ _ _; first | refine ao_alloc (id := 11) rfl rfl rfl rfl rfl rfl rfl ?_) | ((first | apply kM | apply kN); (iterate 3 (· exact rfl)); (· first | (show Y _ ⟨_, .indexAddr _ _ _, _, _, _, _⟩ _ _ _; first | exact Y.mk (ok_indexE (hx) rfl rfl rfl rfl rfl (by omega))) | exact ya)) | refine sG ?_ | (refine sK ?_ ?_ <;> intro hc <;> (try simp only [KL, sL, reduceCtorEq] at hc) <;> (try (exfalso; omega))))
        all_goals first | (exfalso; omega) | skip
        all_goals
          (refine ao_ap (id := 10) (ys := [(0 : Int)]) (by_ := 8) rfl rfl rfl rfl rfl rfl rfl rfl rfl rfl (fun _ _ => rfl) ?_ ?_ rfl rfl rfl rfl rfl ?_; (· (first | omega | ((try simp only [List.length_cons, List.length_nil, List.length_append, List.length_map]) <;> omega))); (· (first | omega | ((try simp only [List.length_cons, List.length_nil, List.length_append, List.length_map]) <;> omega))))
          repeat' (first | refine sA ?_ | ((first | apply kM | apply kN); (iterate 3 (· exact rfl)); (· first | exact ya)) | refine sG ?_ | (refine sK ?_ ?_ <;> intro hc <;> (try simp only [KL, sL, reduceCtorEq] at hc) <;> (try (exfalso; omega))))
          exact ⟨m + 1, by omega, by omega, les, by simp only [hnx]; exact leh⟩
    · by_cases hc : x.b = k ∧ (x.op = 18 ∨ x.op = 19)
      · rw [if_pos ⟨hc.1, by simp [kindsW]; omega⟩] at hnx
        repeat' (first | refine sA ?_ | (show O _ _ _ _ _ _ _; first | refine ao_alloc (id := 11) rfl rfl rfl rfl rfl rfl rfl ?_) | ((first | apply kM | apply kN); (iterate 3 (· exact rfl)); (· first | (show Y _ ⟨_, .indexAddr _ _ _, _, _, _, _⟩ _ _ _; first | exact Y.mk (ok_indexE (hx) rfl rfl rfl rfl rfl (by omega))) | exact ya)) | refine sG ?_ | (refine sK ?_ ?_ <;> intro hc <;> (try simp only [KL, sL, reduceCtorEq] at hc) <;> (try (exfalso; omega))))
        all_goals first | (exfalso; omega) | skip
        all_goals
          (refine ao_ap (id := 10) (ys := [(1 : Int)]) (by_ := 8) rfl rfl rfl rfl rfl rfl rfl rfl rfl rfl (fun _ _ => rfl) ?_ ?_ rfl rfl rfl rfl rfl ?_; (· (first | omega | ((try simp only [List.length_cons, List.length_nil, List.length_append, List.length_map]) <;> omega))); (· (first | omega | ((try simp only [List.length_cons, List.length_nil, List.length_append, List.length_map]) <;> omega))))
          repeat' (first | refine sA ?_ | ((first | apply kM | apply kN); (iterate 3 (· exact rfl)); (· first | exact ya)) | refine sG ?_ | (refine sK ?_ ?_ <;> intro hc <;> (try simp only [KL, sL, reduceCtorEq] at hc) <;> (try (exfalso; omega))))
          exact ⟨m + 1, by omega, by omega, les, by simp only [hnx]; exact leh⟩
      · rw [if_neg (fun e => hc ⟨e.1, by have := e.2; simp [kindsW] at this; omega⟩)] at hnx
        repeat' (first | refine sA ?_ | (show O _ _ _ _ _ _ _; first | refine ao_alloc (id := 11) rfl rfl rfl rfl rfl rfl rfl ?_) | ((first | apply kM | apply kN); (iterate 3 (· exact rfl)); (· first | (show Y _ ⟨_, .indexAddr _ _ _, _, _, _, _⟩ _ _ _; first | exact Y.mk (ok_indexE (hx) rfl rfl rfl rfl rfl (by omega))) | exact ya)) | refine sG ?_ | (refine sK ?_ ?_ <;> intro hc <;> (try simp only [KL, sL, reduceCtorEq] at hc) <;> (try (exfalso; omega))))
        all_goals first | (exfalso; omega) | skip
        all_goals
          (refine ao_ap (id := 10) (ys := [(0 : Int)]) (by_ := 8) rfl rfl rfl rfl rfl rfl rfl rfl rfl rfl (fun _ _ => rfl) ?_ ?_ rfl rfl rfl rfl rfl ?_; (· (first | omega | ((try simp only [List.length_cons, List.length_nil, List.length_append, List.length_map]) <;> omega))); (· (first | omega | ((try simp only [List.length_cons, List.length_nil, List.length_append, List.length_map]) <;> omega))))
          repeat' (first | refine sA ?_ | ((first | apply kM | apply kN); (iterate 3 (· exact rfl)); (· first | exact ya)) | refine sG ?_ | (refine sK ?_ ?_ <;> intro hc <;> (try simp only [KL, sL, reduceCtorEq] at hc) <;> (try (exfalso; omega))))
          exact ⟨m + 1, by omega, by omega, les, by simp only [hnx]; exact leh⟩
  · subst hml
    rw [List.take_length]
    refine wturn (turn_freeze (t := 9) rfl rfl rfl) ?_
    rw [← hpp]
    repeat' (first | refine sA ?_ | ((first | apply kM | apply kN); (iterate 3 (· exact rfl)); (· first | (show Y _ ⟨_, .indexAddr _ _ _, _, _, _, _⟩ _ _ _; first | exact Y.mk (ok_indexE (ht) rfl rfl rfl rfl rfl (by omega))) | exact ya | exact q_c (c5) rfl)) | refine sG ?_ | (refine sK ?_ ?_ <;> intro hc <;> (try simp only [KL, sL, reduceCtorEq] at hc) <;> (try (exfalso; omega))))
    all_goals first | (exfalso; omega) | exact retq rfl rfl
end Go.Proofs.YtkkmageogkkchaaGreat
namespace Go.Proofs.YtkkmageogkkchaaGreat
set_option maxRecDepth 100000
set_option maxRecDepth 100000
open Go.RowKit
def liveW (x : Way) : Prop := 0 ≤ x.thr ∨ 0 ≤ x.fin
theorem more_live {v : Int} {x : Way} (hv : 0 ≤ v) : (0 ≤ x.thr → 0 ≤ moreI v x.thr) ∧ (0 ≤ x.fin → 0 ≤ moreI v x.fin) := by
  refine ⟨fun h => ?_, fun h => ?_⟩
  · rw [more_pos hv h]; exact (addB _ _).1
  · rw [more_pos hv h]; exact (addB _ _).1
section
variable {bt : Int → Int → Int} (hbt : ∀ a b, 0 ≤ a → 0 ≤ b → 0 ≤ bt a b)
include hbt
theorem best_live {a b : Int} (h : 0 ≤ a ∨ 0 ≤ b) : 0 ≤ bestI bt a b := by
  unfold bestI
  split
  · omega
  · split
    · omega
    · exact hbt _ _ (by omega) (by omega)
theorem fold_live (v : Int) (at_ : List Way) : ∀ (l : List Int) (o : Way), (0 ≤ o.thr → 0 ≤ (l.foldl (edge bt v at_) o).thr) ∧ (0 ≤ o.fin → 0 ≤ (l.foldl (edge bt v at_) o).fin)
  | [], o => ⟨id, id⟩
  | t :: l, o => by
    rw [List.foldl_cons]
    have h := fold_live v at_ l (edge bt v at_ o t)
    exact ⟨fun e => h.1 (best_live hbt (.inl e)), fun e => h.2 (best_live hbt (.inl e))⟩
theorem edge_live {v : Int} (hv : 0 ≤ v) (at_ : List Way) {x : Int} : ∀ (l : List Int) (o : Way), x ∈ l → liveW (at_.getD x.toNat default) → liveW (l.foldl (edge bt v at_) o)
  | t :: l, o, hx, hl => by
    rw [List.foldl_cons]
    rcases List.mem_cons.1 hx with rfl | hx
    · have h := fold_live hbt v at_ l (edge bt v at_ o x)
      have h2 := more_live (x := at_.getD x.toNat default) hv
      rcases hl with hl | hl
      · exact .inl (h.1 (best_live hbt (.inr (h2.1 hl))))
      · exact .inr (h.2 (best_live hbt (.inr (h2.2 hl))))
    · exact edge_live hv at_ l _ hx hl
end
section
variable {p : List Instr}
theorem oft_pos {n x : Int} (h : 0 ≤ x) : 0 ≤ oftI n x := by rw [oftI, if_neg (by omega)]; exact (mulB _ _).1
theorem next_in (hf : FineP p) (hn : ∀ i, 0 ≤ (p.getD i default).n) {part : Span} (hp : isPart p part) {pc : Nat} (h1 : part.frm ≤ pc) (h2 : (pc : Int) ≤ part.to) (ho : outL (loopsL p) pc part = none) (h16 : (p.getD pc default).op ≠ 16) {j : Nat} (hj : pc < j) (hjl : j < p.length) (hm : mayB p pc j = true) :
    (j : Int) ≤ part.to ∧ ¬ deep p part j := by
  have hs := part_sound hf hn hp
  have hno := outL_none.1 ho
  refine ⟨?_, fun ⟨s, d1, d2⟩ => ?_⟩
  · rcases hp with hp | rfl
    · rcases Int.lt_or_le part.to j with q | q
      · have := (edge_loop hf hn (by omega) hm hp).2 ⟨h1, h2⟩ (by omega)
        have h3 := loop_sound hf hn hp
        rw [← this, Int.toNat_natCast] at h3
        exact absurd h3.2.2.2.1 h16
      · exact q
    · simp only; omega
  · obtain ⟨s3, ⟨s4, s5, s6⟩, _⟩ := outL_some.1 d1
    have := (edge_loop hf hn (by omega) hm s3).1 ⟨s5, s6⟩ (hno s s3 s4)
    exact d2 this.symm
theorem loop_next (hf : FineP p) (hn : ∀ i, 0 ≤ (p.getD i default).n) {part s : Span} (hp : isPart p part) {pc : Nat} (ho : outL (loopsL p) pc part = some s) (hsp : s.frm = pc) {t : Nat} (ht : (t : Int) = s.to + 1) : (t : Int) ≤ part.to ∧ pc < t ∧ ¬ deep p part t := by
  obtain ⟨s1, ⟨s2, s3, s4⟩, s5⟩ := outL_some.1 ho
  have hso := loop_sound hf hn s1
  have hin := in_part hf hn hp s1 s2
  refine ⟨by omega, by omega, fun ⟨s', d1, d2⟩ => ?_⟩
  obtain ⟨d3, ⟨d4, d5, d6⟩, _⟩ := outL_some.1 d1
  have d9 := loop_nest hf s1 d3 (by omega)
  have := s5 s' d3 d4 (by omega) (by omega)
  omega
theorem next_some (hf : FineP p) (hn : ∀ i, 0 ≤ (p.getD i default).n) {i : Nat} (hi : i < p.length) (h21 : (p.getD i default).op ≠ 21) : ∃ x, x ∈ nextL p i := by
  cases hq : nextL p i with
  | nil => exact absurd ((next_nil p i).1 (by rw [hq]; rfl)) h21
  | cons x l => exact ⟨x, List.mem_cons_self⟩
theorem part_live {bt : Int → Int → Int} (hbt : ∀ a b, 0 ≤ a → 0 ≤ b → 0 ≤ bt a b) (hf : FineP p) (hn : ∀ i, 0 ≤ (p.getD i default).n) (w : List Int) : ∀ (f : Nat) (part : Span), isPart p part → sizeS part ≤ f → liveW (partW bt p w (loopsL p) f part)
  | 0, part, hp, hs => by
    have := part_sound hf hn hp
    unfold sizeS at hs; omega
  | f + 1, part, hp, hs => by
    have hso := part_sound hf hn hp
    have hsz : (sizeS part : Int) = part.to + 1 - part.frm := by unfold sizeS; omega
    rw [partW]
    have key : ∀ (m : Nat) (pc : Nat), part.frm ≤ pc → (pc : Int) + m = part.to → ¬ deep p part pc → liveW ((atTo bt p w (loopsL p) (partW bt p w (loopsL p) f) part (sizeS part)).getD pc default) := by
      intro m
      induction m using Nat.strongRecOn with
      | ind m ih =>
      intro pc h1 h2 hd
      have h3 : (pc : Int) ≤ part.to := by omega
      rw [back_eq hf hn hp h1 h3]
      have nxt : ∀ j : Nat, pc < j → (j : Int) ≤ part.to → ¬ deep p part j → liveW ((atTo bt p w (loopsL p) (partW bt p w (loopsL p) f) part (sizeS part)).getD j default) := fun j q1 q2 q3 =>
        ih (part.to - j).toNat (by omega) j (by omega) (by omega) q3
      generalize atTo bt p w (loopsL p) (partW bt p w (loopsL p) f) part (sizeS part) = G at *
      have hv := wAt_ok w pc
      rw [valW]
      cases ho : outL (loopsL p) pc part with
      | none =>
        simp only
        unfold nodeW
        split
        · exact .inr hv.1
        · split
          · exact .inl hv.1
          · rename_i h21 h16
            obtain ⟨x, hx⟩ := next_some hf hn (by omega) h21
            obtain ⟨j, rfl, q1, q2, q3⟩ := next_up hf hn (by omega) h16 hx
            obtain ⟨q4, q5⟩ := next_in hf hn hp h1 h3 ho h16 q1 q2 q3
            exact edge_live hbt hv.1 G _ _ hx (by rw [Int.toNat_natCast]; exact nxt j q1 q4 q5)
      | some s =>
        have hsp : s.frm = pc := by
          rcases Int.lt_trichotomy s.frm pc with q | q | q
          · exact absurd ⟨s, ho, by omega⟩ hd
          · exact q
          · exact absurd ⟨s, ho, by omega⟩ hd
        simp only
        rw [if_pos hsp]
        obtain ⟨t, ht⟩ : ∃ t : Nat, (t : Int) = s.to + 1 := by
          have := loop_sound hf hn (outL_some.1 ho).1
          exact ⟨(s.to + 1).toNat, by omega⟩
        obtain ⟨q1, q2, q3⟩ := loop_next hf hn hp ho hsp ht
        obtain ⟨s1, ⟨s2, s3, s4⟩, s5⟩ := outL_some.1 ho
        have hin := in_part hf hn hp s1 s2
        have h4 := part_live hbt hf hn w f s (.inl s1) (by unfold sizeS at *; omega)
        have h5 := nxt t q2 q1 q3
        rw [show (s.to + 1).toNat = t by omega]
        generalize partW bt p w (loopsL p) f s = one at *
        generalize G.getD t default = on at *
        unfold rndW liveW
        simp only
        rcases h4 with h4 | h4
        · have ha := oft_pos (n := (p.getD s.to.toNat default).c + 1) h4
          have hm := more_live (x := on) ha
          rcases h5 with h5 | h5
          · exact .inl (hm.1 h5)
          · exact .inr (best_live hbt (.inr (hm.2 h5)))
        · exact .inr (best_live hbt (.inl (best_live hbt (.inl h4))))
    have hd0 : ¬ deep p part part.frm.toNat := fun ⟨s, d1, d2⟩ => by
      obtain ⟨d3, ⟨d4, d5, d6⟩, _⟩ := outL_some.1 d1
      have := in_part hf hn hp d3 d4
      omega
    exact key (part.to - part.frm).toNat part.frm.toNat (by omega) (by omega) hd0
theorem whole_thr {bt : Int → Int → Int} (hbt : ∀ a b, okI a → okI b → okI (bt a b)) (hf : FineP p) (hn : ∀ i, 0 ≤ (p.getD i default).n) (w : List Int) (f : Nat) : (partW bt p w (loopsL p) f ⟨0, (p.length : Int) - 1⟩).thr = -1 := by
  cases f with
  | zero => rfl
  | succ f =>
  have hp : isPart p ⟨0, (p.length : Int) - 1⟩ := .inr rfl
  have hso := part_sound hf hn hp
  simp only at hso
  rw [partW]
  have key : ∀ (m : Nat) (pc : Nat), (pc : Int) + m = p.length → ((atTo bt p w (loopsL p) (partW bt p w (loopsL p) f) ⟨0, (p.length : Int) - 1⟩ (sizeS ⟨0, (p.length : Int) - 1⟩)).getD pc default).thr = -1 := by
    intro m
    induction m using Nat.strongRecOn with
    | ind m ih =>
    intro pc h2
    by_cases h3 : (pc : Int) ≤ (p.length : Int) - 1
    case neg => rw [back_no (by simp only; omega) (by simp only; omega) _ (by unfold sizeS; simp only; omega)]
    rw [back_eq hf hn hp (by simp only; omega) (by simp only; omega)]
    have nxt : ∀ j : Nat, pc < j → j ≤ p.length → ((atTo bt p w (loopsL p) (partW bt p w (loopsL p) f) ⟨0, (p.length : Int) - 1⟩ (sizeS ⟨0, (p.length : Int) - 1⟩)).getD j default).thr = -1 := fun j q1 q2 => ih (p.length - j) (by omega) j (by omega)
    generalize atTo bt p w (loopsL p) (partW bt p w (loopsL p) f) ⟨0, (p.length : Int) - 1⟩ (sizeS ⟨0, (p.length : Int) - 1⟩) = G at *
    rw [valW]
    cases ho : outL (loopsL p) pc ⟨0, (p.length : Int) - 1⟩ with
    | none =>
      simp only
      unfold nodeW
      split
      · rfl
      · split
        · rename_i h16
          exfalso
          have hm : (⟨(p.getD pc default).n, pc⟩ : Span) ∈ loopsL p := by
            rw [loopsL, loopsTo, List.mem_map]
            exact ⟨pc, List.mem_filter.2 ⟨List.mem_range.2 (by omega), decide_eq_true h16⟩, rfl⟩
          have h4 := loop_sound hf hn hm
          simp only at h4
          refine outL_none.1 ho _ hm ?_ ⟨by simp only; omega, by simp only; omega⟩
          rw [inQ, decide_eq_true_eq]
          refine ⟨fun e => ?_, by simp only; omega, by simp only; omega⟩
          have := congrArg Span.to e
          simp only at this
          omega
        · rename_i h21 h16
          have : ∀ (l : List Int) (o : Way), o.thr = -1 → (∀ x ∈ l, (G.getD x.toNat default).thr = -1) → (l.foldl (edge bt (wAt w pc) G) o).thr = -1 := by
            intro l
            induction l with
            | nil => intro o h _; exact h
            | cons t l ihl =>
              intro o h hx
              rw [List.foldl_cons]
              refine ihl _ ?_ fun x hm => hx x (List.mem_cons_of_mem _ hm)
              rw [edge]
              simp only
              rw [hx t List.mem_cons_self, h, more_neg (.inr (by decide))]
              rfl
          refine this _ _ rfl fun x hx => ?_
          obtain ⟨j, rfl, q1, q2, _⟩ := next_up hf hn (by omega) h16 hx
          rw [Int.toNat_natCast]
          exact nxt j q1 (by omega)
    | some s =>
      simp only
      split
      · have h4 := loop_sound hf hn (outL_some.1 ho).1
        rw [rndW]
        simp only
        rw [nxt (s.to + 1).toNat (by omega) (by omega), more_neg (.inr (by decide))]
      · rfl
  have := key p.length 0 (by omega)
  exact this
theorem mostI_pos (hf : fineB p = true) (hn : ∀ i, 0 ≤ (p.getD i default).n) (w : List Int) : 0 ≤ mostI p w := by
  have hfp := fine_inv hf
  have h1 := part_live (bt := max) (fun a b h1 h2 => by omega) hfp hn w p.length ⟨0, (p.length : Int) - 1⟩ (.inr rfl) (by unfold sizeS; simp only; omega)
  have h2 := whole_thr max_ok hfp hn w p.length
  rcases h1 with h1 | h1
  · rw [h2] at h1; omega
  · exact h1
end
end Go.Proofs.YtkkmageogkkchaaGreat
namespace Go.Proofs.YtkkmageogkkchaaGreat
set_option maxRecDepth 100000
open Go.RowKit Go.ChangeShapes Go.WideShapes
end Go.Proofs.YtkkmageogkkchaaGreat
namespace Go.Proofs.YtkkmageogkkchaaGreat
set_option maxRecDepth 100000
set_option maxRecDepth 100000
open Go.RowKit
def readsB (S : System) (i k : Int) : Bool := decide (roleI S i k = 1) && decide (0 < countI S i k false)
def aheadO (S : System) (i k : Int) : Bool := aheadB S.tasks (objD S k).writer i
theorem role_in {S : System} {i k : Int} (h : roleI S i k ≠ 0) : 0 ≤ i ∧ i < S.tasks.length ∧ 0 ≤ k ∧ k < S.objects.length := by
  unfold roleI at h
  split at h
  · exact absurd rfl h
  · omega
theorem reads_in {S : System} {i k : Int} (h : readsB S i k = true) : 0 ≤ i ∧ i < S.tasks.length ∧ 0 ≤ k ∧ k < S.objects.length := by
  rw [readsB, Bool.and_eq_true, decide_eq_true_eq] at h
  exact role_in (by omega)
def writesI (S : System) (i k r : Int) : Int := if readsB S i k = true ∧ aheadO S i k = true then mulI (ceilI r (tskD S (objD S k).writer).period) (countI S (objD S k).writer k true) else 0
def failsO (o : Object) (n : Int) : Int := if n = 0 then 0 else if o.kind = 3 ∨ o.kind = 5 then n else if o.kind = 4 then (if 2 < o.slots then n / (o.slots - 1) else n) else 0
def failsI (S : System) (i k r : Int) : Int := failsO (objD S k) (writesI S i k r)
def jobTo (S : System) (i r : Int) : Nat → Int
  | 0 => (demI S i 0).1
  | m + 1 => addI (jobTo S i r m) (mulI (failsI S i m r) (failI (S.objects.getD m default) 1))
def jobI (S : System) (i r : Int) : Int := if (demI S i 0).2 ≠ 0 then 0 else jobTo S i r S.objects.length
theorem writes_B (S : System) (i k r : Int) : 0 ≤ writesI S i k r ∧ writesI S i k r ≤ 1099511627776 := by
  unfold writesI; split
  · exact mulB _ _
  · omega
theorem fails_B (o : Object) {n : Int} (h : 0 ≤ n ∧ n ≤ 1099511627776) : 0 ≤ failsO o n ∧ failsO o n ≤ 1099511627776 := by
  unfold failsO
  split
  · omega
  · split
    · exact h
    · split
      · split
        · have h1 := Int.ediv_nonneg h.1 (show 0 ≤ o.slots - 1 by omega)
          have h2 := Int.ediv_le_self (o.slots - 1) h.1
          omega
        · exact h
      · omega
theorem reads_fn (S : System) (h : OkS S) (i k : Int) : Fn Tryz.prog 61 [.agg (eSystem S), .int .i64 i, .int .i64 k] (.bool (readsB S i k)) := by
  have c1 := role_fn S h i k
  have c2 := dreads_fn S h i k
  by_cases h1 : roleI S i k = 1
  · rw [readsB, decide_eq_true h1, Bool.true_and]
    refine fnb Tryz.func61 (entered_of (by kernel_rfl)) rfl rfl rfl ?_
    repeat' (first | refine sA ?_ | ((first | apply kM | apply kN); (iterate 3 (· exact rfl)); (· first | exact ya | exact q_c (c1) rfl | exact q_c (c2) rfl)) | refine sG ?_ | (refine sK ?_ ?_ <;> intro hc <;> (try simp only [KL, sL, reduceCtorEq] at hc) <;> (try (exfalso; omega))))
    all_goals first | (exfalso; omega) | exact retq rfl rfl
  · rw [readsB, decide_eq_false h1, Bool.false_and]
    refine fnb Tryz.func61 (entered_of (by kernel_rfl)) rfl rfl rfl ?_
    repeat' (first | refine sA ?_ | ((first | apply kM | apply kN); (iterate 3 (· exact rfl)); (· first | exact ya | exact q_c (c1) rfl | exact q_c (c2) rfl)) | refine sG ?_ | (refine sK ?_ ?_ <;> intro hc <;> (try simp only [KL, sL, reduceCtorEq] at hc) <;> (try (exfalso; omega))))
    all_goals first | (exfalso; omega) | exact retq rfl rfl
theorem ahead37_fn (S : System) (h : OkS S) (i k : Int) (hk : 0 ≤ k ∧ k < S.objects.length) : Fn Tryz.prog 62 [.agg (eSystem S), .int .i64 i, .int .i64 k] (.bool (aheadO S i k)) := by
  have h1 := h.tl
  have c1 := ahead_fn S.tasks (objD S k).writer i (by omega)
  refine fnb Tryz.func62 (entered_of (by kernel_rfl)) rfl rfl rfl ?_
  repeat' (first | refine sA ?_ | ((first | apply kM | apply kN); (iterate 3 (· exact rfl)); (· first | exact ya | exact q_c (c1) rfl)) | refine sG ?_ | (refine sK ?_ ?_ <;> intro hc <;> (try simp only [KL, sL, reduceCtorEq] at hc) <;> (try (exfalso; omega))))
  exact retq rfl rfl
theorem writes_fn (S : System) (h : OkS S) (i k r : Int) : Fn Tryz.prog 23 [.agg (eSystem S), .int .i64 i, .int .i64 k, .int .i64 r] (.int .i64 (writesI S i k r)) := by
  have c1 := reads_fn S h i k
  cases hr : readsB S i k
  · rw [hr] at c1
    rw [writesI, hr, if_neg (by simp)]
    refine fnb Tryz.func23 (entered_of (by kernel_rfl)) rfl rfl rfl ?_
    repeat' (first | refine sA ?_ | ((first | apply kM | apply kN); (iterate 3 (· exact rfl)); (· first | exact ya | exact q_c (c1) rfl)) | refine sG ?_ | (refine sK ?_ ?_ <;> intro hc <;> (try simp only [KL, sL, reduceCtorEq] at hc) <;> (try (exfalso; omega))))
    all_goals exact retq rfl rfl
  rw [hr] at c1
  have hin := reads_in hr
  have c2 := ahead37_fn S h i k (by omega)
  cases ha : aheadO S i k
  · rw [ha] at c2
    rw [writesI, ha, if_neg (by simp)]
    refine fnb Tryz.func23 (entered_of (by kernel_rfl)) rfl rfl rfl ?_
    repeat' (first | refine sA ?_ | ((first | apply kM | apply kN); (iterate 3 (· exact rfl)); (· first | exact ya | exact q_c (c1) rfl | exact q_c (c2) rfl)) | refine sG ?_ | (refine sK ?_ ?_ <;> intro hc <;> (try simp only [KL, sL, reduceCtorEq] at hc) <;> (try (exfalso; omega))))
    all_goals exact retq rfl rfl
  rw [ha] at c2
  rw [writesI, hr, ha, if_pos ⟨rfl, rfl⟩]
  have hw := (ahead_lt.1 ha).1
  have hw2 : 0 ≤ (S.objects.getD k.toNat default).writer ∧ (S.objects.getD k.toNat default).writer < S.tasks.length := ⟨hw.1, hw.2.1⟩
  have c3 := dwrites_fn S h (S.objects.getD k.toNat default).writer k
  refine fnb Tryz.func23 (entered_of (by kernel_rfl)) rfl rfl rfl ?_
  repeat' (first | refine sA ?_ | ((first | apply kM | apply kN); (iterate 3 (· exact rfl)); (· first | exact ya | exact q_c (c1) rfl | exact q_c (c2) rfl | exact q_c (c3) rfl | exact q_c (kCeil_fn _ _) rfl | exact q_c (kMul_fn _ _) rfl)) | refine sG ?_ | (refine sK ?_ ?_ <;> intro hc <;> (try simp only [KL, sL, reduceCtorEq] at hc) <;> (try (exfalso; omega))))
  all_goals exact retq rfl rfl
theorem fails_fn (S : System) (h : OkS S) (i k r : Int) : Fn Tryz.prog 25 [.agg (eSystem S), .int .i64 i, .int .i64 k, .int .i64 r] (.int .i64 (failsI S i k r)) := by
  have c1 := writes_fn S h i k r
  have hB := writes_B S i k r
  rw [failsI]
  by_cases h0 : writesI S i k r = 0
  · rw [failsO, if_pos h0]
    rw [h0] at c1
    refine fnb Tryz.func25 (entered_of (by kernel_rfl)) rfl rfl rfl ?_
    repeat' (first | refine sA ?_ | ((first | apply kM | apply kN); (iterate 3 (· exact rfl)); (· first | exact ya | exact q_c (c1) rfl)) | refine sG ?_ | (refine sK ?_ ?_ <;> intro hc <;> (try simp only [KL, sL, reduceCtorEq] at hc) <;> (try (exfalso; omega))))
    all_goals first | (exfalso; omega) | exact retq rfl rfl
  have hsl := h.sl k.toNat
  have hin : 0 ≤ k ∧ k < S.objects.length := by
    have : readsB S i k = true := by
      cases hq : readsB S i k with
      | true => rfl
      | false => exfalso; apply h0; rw [writesI, hq, if_neg (by simp)]
    have := reads_in this; omega
  obtain ⟨m, rfl⟩ : ∃ m : Nat, k = m := ⟨k.toNat, by omega⟩
  rw [objD, Int.toNat_natCast]
  generalize writesI S i m r = n at *
  rw [failsO, if_neg h0]
  obtain ⟨o, hod⟩ : ∃ o, S.objects.getD m default = o := ⟨_, rfl⟩
  rw [Int.toNat_natCast, hod] at hsl
  rw [hod]
  by_cases h35 : o.kind = 3 ∨ o.kind = 5
  · rw [if_pos h35]
    refine fnb Tryz.func25 (entered_of (by kernel_rfl)) rfl rfl rfl ?_
    repeat' (first | refine sA ?_ | (show O _ _ _ _ _ _ _; first | refine ao_alloc (id := 10) rfl rfl rfl rfl rfl rfl rfl ?_) | ((first | apply kM | apply kN); (iterate 3 (· exact rfl)); (· first | (show Y _ ⟨_, .indexAddr _ _ _, _, _, _, _⟩ _ _ _; first | exact Y.mk (ok_indexE (hod) rfl rfl rfl rfl rfl (by omega))) | exact ya | exact q_c (c1) rfl)) | refine sG ?_ | (refine sK ?_ ?_ <;> intro hc <;> (try simp only [KL, sL, reduceCtorEq] at hc) <;> (try (exfalso; omega))))
    all_goals first | (exfalso; omega) | exact retq rfl rfl
  rw [if_neg h35]
  by_cases h4 : o.kind = 4
  · rw [if_pos h4]
    by_cases h2 : 2 < o.slots
    · rw [if_pos h2]
      have h5 := Int.ediv_nonneg hB.1 (show 0 ≤ o.slots - 1 by omega)
      have h6 := Int.ediv_le_self (o.slots - 1) hB.1
      refine fnb Tryz.func25 (entered_of (by kernel_rfl)) rfl rfl rfl ?_
      repeat' (first | refine sA ?_ | (show O _ _ _ _ _ _ _; first | refine ao_alloc (id := 10) rfl rfl rfl rfl rfl rfl rfl ?_) | ((first | apply kM | apply kN); (iterate 3 (· exact rfl)); (· first | (show Y _ ⟨_, .indexAddr _ _ _, _, _, _, _⟩ _ _ _; first | exact Y.mk (ok_indexE (hod) rfl rfl rfl rfl rfl (by omega))) | exact ya | exact q_c (c1) rfl)) | refine sG ?_ | (refine sK ?_ ?_ <;> intro hc <;> (try simp only [KL, sL, reduceCtorEq] at hc) <;> (try (exfalso; omega))))
      all_goals first | (exfalso; omega) | exact retq rfl rfl
    · rw [if_neg h2]
      refine fnb Tryz.func25 (entered_of (by kernel_rfl)) rfl rfl rfl ?_
      repeat' (first | refine sA ?_ | (show O _ _ _ _ _ _ _; first | refine ao_alloc (id := 10) rfl rfl rfl rfl rfl rfl rfl ?_) | ((first | apply kM | apply kN); (iterate 3 (· exact rfl)); (· first | (show Y _ ⟨_, .indexAddr _ _ _, _, _, _, _⟩ _ _ _; first | exact Y.mk (ok_indexE (hod) rfl rfl rfl rfl rfl (by omega))) | exact ya | exact q_c (c1) rfl)) | refine sG ?_ | (refine sK ?_ ?_ <;> intro hc <;> (try simp only [KL, sL, reduceCtorEq] at hc) <;> (try (exfalso; omega))))
      all_goals first | (exfalso; omega) | exact retq rfl rfl
  · rw [if_neg h4]
    refine fnb Tryz.func25 (entered_of (by kernel_rfl)) rfl rfl rfl ?_
    repeat' (first | refine sA ?_ | (show O _ _ _ _ _ _ _; first | refine ao_alloc (id := 10) rfl rfl rfl rfl rfl rfl rfl ?_) | ((first | apply kM | apply kN); (iterate 3 (· exact rfl)); (· first | (show Y _ ⟨_, .indexAddr _ _ _, _, _, _, _⟩ _ _ _; first | exact Y.mk (ok_indexE (hod) rfl rfl rfl rfl rfl (by omega))) | exact ya | exact q_c (c1) rfl)) | refine sG ?_ | (refine sK ?_ ?_ <;> intro hc <;> (try simp only [KL, sL, reduceCtorEq] at hc) <;> (try (exfalso; omega))))
    all_goals first | (exfalso; omega) | exact retq rfl rfl
theorem job_fn (S : System) (h : OkS S) (i r : Int) : Fn Tryz.prog 27 [.agg (eSystem S), .int .i64 i, .int .i64 r] (.int .i64 (jobI S i r)) := by
  have h2 := h.ol
  have c1 := dclean_fn S h i
  by_cases he : (demI S i 0).2 ≠ 0
  · rw [jobI, if_pos he]
    refine fnb Tryz.func27 (entered_of (by kernel_rfl)) rfl rfl rfl ?_
    repeat' (first | refine sA ?_ | ((first | apply kM | apply kN); (iterate 3 (· exact rfl)); (· first | exact ya | exact q_c (c1) rfl)) | refine sG ?_ | (refine sK ?_ ?_ <;> intro hc <;> (try simp only [KL, sL, reduceCtorEq] at hc) <;> (try (exfalso; omega))))
    all_goals first | (exfalso; omega) | exact retq rfl rfl
  rw [jobI, if_neg he]
  refine fnb Tryz.func27 (entered_of (by kernel_rfl)) rfl rfl rfl ?_
  repeat' (first | refine sA ?_ | ((first | apply kM | apply kN); (iterate 3 (· exact rfl)); (· first | exact ya | exact q_c (c1) rfl)) | refine sG ?_ | (refine sK ?_ ?_ <;> intro hc <;> (try simp only [KL, sL, reduceCtorEq] at hc) <;> (try (exfalso; omega))))
  all_goals first | (exfalso; omega) | skip
  refine wloop (fun m : Nat => ([(1, .int .i64 i), (2, .int .i64 r), (3, .ref (eSystem S)), (7, .int .i64 (jobTo S i r m)), (20, .lst 8 (S.objects.map eObject)), (21, .int .i64 S.objects.length), (22, .int .i64 m)], [])) (fun m => m ≤ S.objects.length) (fun m => S.objects.length - m) 0 (Nat.zero_le _) les leh (fun m hm => ?_)
  rcases Nat.lt_or_eq_of_le hm with hml | hml
  · have c2 := fails_fn S h i m r
    obtain ⟨o, hod⟩ : ∃ o, S.objects.getD m default = o := ⟨_, rfl⟩
    have hnx : jobTo S i r (m + 1) = addI (jobTo S i r m) (mulI (failsI S i m r) (failI o 1)) := by rw [jobTo, hod]
    have c3 := fail_fn o 1
    repeat' (first | refine sA ?_ | (show O _ _ _ _ _ _ _; first | refine ao_alloc (id := 10) rfl rfl rfl rfl rfl rfl rfl ?_) | ((first | apply kM | apply kN); (iterate 3 (· exact rfl)); (· first | (show Y _ ⟨_, .indexAddr _ _ _, _, _, _, _⟩ _ _ _; first | exact Y.mk (ok_indexE (hod) rfl rfl rfl rfl rfl (by omega))) | exact ya | exact q_c (c2) rfl | exact q_c (c3) rfl | exact q_c (kMul_fn _ _) rfl | exact q_c (kAdd_fn _ _) rfl)) | refine sG ?_ | (refine sK ?_ ?_ <;> intro hc <;> (try simp only [KL, sL, reduceCtorEq] at hc) <;> (try (exfalso; omega))))
    all_goals first | (exfalso; omega) | exact ⟨m + 1, by omega, by omega, by simp only [hnx]; exact les, leh⟩
  · subst hml
    repeat' (first | refine sA ?_ | ((first | apply kM | apply kN); (iterate 3 (· exact rfl)); (· first | exact ya)) | refine sG ?_ | (refine sK ?_ ?_ <;> intro hc <;> (try simp only [KL, sL, reduceCtorEq] at hc) <;> (try (exfalso; omega))))
    all_goals first | (exfalso; omega) | exact retq rfl rfl
def hopeB (S : System) (i k : Int) : Bool := readsB S i k && (decide ((objD S k).kind = 3) && !aheadO S i k)
theorem hope_fn (S : System) (h : OkS S) (i k : Int) : Fn Tryz.prog 22 [.agg (eSystem S), .int .i64 i, .int .i64 k] (.bool (hopeB S i k)) := by
  have c1 := reads_fn S h i k
  cases hr : readsB S i k
  · rw [hr] at c1
    rw [hopeB, hr, Bool.false_and]
    refine fnb Tryz.func22 (entered_of (by kernel_rfl)) rfl rfl rfl ?_
    repeat' (first | refine sA ?_ | ((first | apply kM | apply kN); (iterate 3 (· exact rfl)); (· first | exact ya | exact q_c (c1) rfl)) | refine sG ?_ | (refine sK ?_ ?_ <;> intro hc <;> (try simp only [KL, sL, reduceCtorEq] at hc) <;> (try (exfalso; omega))))
    all_goals exact retq rfl rfl
  rw [hr] at c1
  rw [hopeB, hr, Bool.true_and]
  have hin := reads_in hr
  have c2 := ahead37_fn S h i k (by omega)
  have hb : (objD S k).kind = (S.objects.getD k.toNat default).kind := rfl
  rw [hb]
  by_cases h3 : (S.objects.getD k.toNat default).kind = 3
  · rw [decide_eq_true h3, Bool.true_and]
    refine fnb Tryz.func22 (entered_of (by kernel_rfl)) rfl rfl rfl ?_
    repeat' (first | refine sA ?_ | ((first | apply kM | apply kN); (iterate 3 (· exact rfl)); (· first | exact ya | exact q_c (c1) rfl | exact q_c (c2) rfl)) | refine sG ?_ | (refine sK ?_ ?_ <;> intro hc <;> (try simp only [KL, sL, reduceCtorEq] at hc) <;> (try (exfalso; omega))))
    all_goals first | (exfalso; omega) | exact retq rfl rfl
  · rw [decide_eq_false h3, Bool.false_and]
    refine fnb Tryz.func22 (entered_of (by kernel_rfl)) rfl rfl rfl ?_
    repeat' (first | refine sA ?_ | ((first | apply kM | apply kN); (iterate 3 (· exact rfl)); (· first | exact ya | exact q_c (c1) rfl | exact q_c (c2) rfl)) | refine sG ?_ | (refine sK ?_ ?_ <;> intro hc <;> (try simp only [KL, sL, reduceCtorEq] at hc) <;> (try (exfalso; omega))))
    all_goals first | (exfalso; omega) | exact retq rfl rfl
def pairS (o : Object) : System := ⟨[⟨1, 1, 10, 0, 10, 2, [⟨18, 0, 0, 0, 0⟩, ⟨21, 0, 0, 0, 0⟩]⟩, ⟨1, 0, 40, 0, 40, 2, [⟨17, 0, 0, 0, 0⟩, ⟨21, 0, 0, 0, 0⟩]⟩], [{ o with writer := 0, readers := [1] }]⟩
theorem pairC_fn (op : Int) : Fn Tryz.prog 90 [.int .i64 op] (.lst 5 (([⟨op, 0, 0, 0, 0⟩, ⟨21, 0, 0, 0, 0⟩] : List Instr).map eInstr)) := by
  refine fnb Tryz.func90 (entered_of (by kernel_rfl)) rfl rfl rfl ?_
  repeat' (first | refine sA ?_ | ((first | apply kM | apply kN); (iterate 3 (· exact rfl)); (· first | exact ya)) | refine sG ?_ | (refine sK ?_ ?_ <;> intro hc <;> (try simp only [KL, sL, reduceCtorEq] at hc) <;> (try (exfalso; omega))))
  exact retq rfl rfl
theorem pair_fn (o : Object) : Fn Tryz.prog 51 [.agg (eObject o)] (.agg (eSystem (pairS o))) := by
  refine fnb Tryz.func51 (entered_of (by kernel_rfl)) rfl rfl rfl ?_
  repeat' (first | refine sA ?_ | (show O _ _ _ _ _ _ _; first | (show O _ _ _ _ (⟨_, .box _ _, _, _, _, _⟩ :: _) _ _; first | refine ao_box (id := 9) rfl rfl rfl rfl rfl rfl rfl rfl ?_) | refine ao_alloc (id := 10) rfl rfl rfl rfl rfl rfl rfl ?_ | refine ao_alloc (id := 11) rfl rfl rfl rfl rfl rfl rfl ?_ | refine ao_alloc (id := 12) rfl rfl rfl rfl rfl rfl rfl ?_) | ((first | apply kM | apply kN); (iterate 3 (· exact rfl)); (· first | exact yab | exact q_c (pairC_fn _) rfl)) | refine sG ?_ | (refine sK ?_ ?_ <;> intro hc <;> (try simp only [KL, sL, reduceCtorEq] at hc) <;> (try (exfalso; omega))))
  exact retq rfl rfl
def ob37 : Object := ⟨3, 2, 0, 3, 0, [1, 2], 0, []⟩
theorem cost_B {p : List Instr} (hn : ∀ i, 0 ≤ (p.getD i default).n) (w : List Int) : 0 ≤ (costF max p w).1 ∧ (costF max p w).1 ≤ 1099511627776 := by
  unfold costF
  split
  · simp only; omega
  · split
    · simp only; omega
    · rename_i h1 h2
      have hf : fineB p = true := by rw [fineB]; exact decide_eq_true (by omega)
      exact ⟨mostI_pos hf hn w, (mostI_B p w).2⟩
theorem dem_B {S : System} (h : OkS S) (i fails : Int) : 0 ≤ (demI S i fails).1 ∧ (demI S i fails).1 ≤ 1099511627776 := by
  unfold demI
  split
  · simp only; omega
  · exact cost_B (h.n _) _
theorem job_B {S : System} (h : OkS S) (i r : Int) : ∀ m, 0 ≤ jobTo S i r m ∧ jobTo S i r m ≤ 1099511627776
  | 0 => dem_B h i 0
  | m + 1 => addB _ _
theorem jobI_B {S : System} (h : OkS S) (i r : Int) : 0 ≤ jobI S i r ∧ jobI S i r ≤ 1099511627776 := by
  unfold jobI; split
  · omega
  · exact job_B h i r _
def fstQ (S : System) (i : Int) (m : Nat) : Bool := (List.range m).all fun j => !aheadB S.tasks (j : Int) i
end Go.Proofs.YtkkmageogkkchaaGreat
namespace Go.Proofs.YtkkmageogkkchaaGreat
set_option maxRecDepth 100000
set_option maxRecDepth 100000
open Go.RowKit
theorem rmost36_fn (S : System) (h : OkS S) (i : Nat) (fails : Int) (hi : i < S.tasks.length) (hfl : 0 ≤ fails ∧ fails ≤ 1000) :
    Fn Tryz.prog 70 [.agg (eSystem S), .int .i64 i, .int .i64 fails] (.int .i64 (if (demI S i fails).2 = 0 then (demI S i fails).1 else -1)) := by
  have h1 := h.tl
  have h2 := h.ol
  have h3 := h.cl i
  have h4 := h.n i
  have ed : demI S i fails = costF max (S.tasks.getD i default).code (weightsL S.objects (S.tasks.getD i default).code fails) := by rw [demI, if_neg (by omega), Int.toNat_natCast]
  rw [ed]
  have c0 := rfine_fn (S.tasks.getD i default).code (by omega)
  cases hf : fineB (S.tasks.getD i default).code
  · rw [hf] at c0
    rw [costF_no hf]
    have he : ¬ (checkF (S.tasks.getD i default).code).2 = 0 := by rw [fineB] at hf; exact of_decide_eq_false hf
    rw [if_neg he]
    refine fnb Tryz.func70 (entered_of (by kernel_rfl)) rfl rfl rfl ?_
    repeat' (first | refine sA ?_ | ((first | apply kM | apply kN); (iterate 3 (· exact rfl)); (· first | exact ya | exact q_c (c0) rfl)) | refine sG ?_ | (refine sK ?_ ?_ <;> intro hc <;> (try simp only [KL, sL, reduceCtorEq] at hc) <;> (try (exfalso; omega))))
    all_goals first | (exfalso; omega) | exact retq rfl rfl
  · rw [hf] at c0
    rw [costF_fine hf (wts_len _ _ _), if_pos rfl]
    have c1 := rweights_fn S.tasks S.objects i fails hfl (by omega) hi (by omega)
    have c2 := most12_fn (S.tasks.getD i default).code (weightsL S.objects (S.tasks.getD i default).code fails) hf h4 (wts_len _ _ _)
    refine fnb Tryz.func70 (entered_of (by kernel_rfl)) rfl rfl rfl ?_
    repeat' (first | refine sA ?_ | ((first | apply kM | apply kN); (iterate 3 (· exact rfl)); (· first | exact ya | exact q_c (c0) rfl | exact q_c (c1) rfl | exact q_c (c2) rfl)) | refine sG ?_ | (refine sK ?_ ?_ <;> intro hc <;> (try simp only [KL, sL, reduceCtorEq] at hc) <;> (try (exfalso; omega))))
    all_goals first | (exfalso; omega) | exact retq rfl rfl
theorem rreads_fn (S : System) (h : OkS S) (i k : Int) : Fn Tryz.prog 20 [.agg (eSystem S), .int .i64 i, .int .i64 k] (.bool (readsB S i k)) := by
  have c1 := rrole_fn S h i k
  have c2 := rcalls36_fn S h i k false
  by_cases h1 : roleI S i k = 1
  · rw [readsB, decide_eq_true h1, Bool.true_and]
    refine fnb Tryz.func20 (entered_of (by kernel_rfl)) rfl rfl rfl ?_
    repeat' (first | refine sA ?_ | ((first | apply kM | apply kN); (iterate 3 (· exact rfl)); (· first | exact ya | exact q_c (c1) rfl | exact q_c (c2) rfl)) | refine sG ?_ | (refine sK ?_ ?_ <;> intro hc <;> (try simp only [KL, sL, reduceCtorEq] at hc) <;> (try (exfalso; omega))))
    all_goals first | (exfalso; omega) | exact retq rfl rfl
  · rw [readsB, decide_eq_false h1, Bool.false_and]
    refine fnb Tryz.func20 (entered_of (by kernel_rfl)) rfl rfl rfl ?_
    repeat' (first | refine sA ?_ | ((first | apply kM | apply kN); (iterate 3 (· exact rfl)); (· first | exact ya | exact q_c (c1) rfl | exact q_c (c2) rfl)) | refine sG ?_ | (refine sK ?_ ?_ <;> intro hc <;> (try simp only [KL, sL, reduceCtorEq] at hc) <;> (try (exfalso; omega))))
    all_goals first | (exfalso; omega) | exact retq rfl rfl
theorem rahead37_fn (S : System) (h : OkS S) (i k : Int) (hk : 0 ≤ k ∧ k < S.objects.length) : Fn Tryz.prog 21 [.agg (eSystem S), .int .i64 i, .int .i64 k] (.bool (aheadO S i k)) := by
  have h1 := h.tl
  have c1 := rahead_fn S.tasks (objD S k).writer i (by omega)
  refine fnb Tryz.func21 (entered_of (by kernel_rfl)) rfl rfl rfl ?_
  repeat' (first | refine sA ?_ | ((first | apply kM | apply kN); (iterate 3 (· exact rfl)); (· first | exact ya | exact q_c (c1) rfl)) | refine sG ?_ | (refine sK ?_ ?_ <;> intro hc <;> (try simp only [KL, sL, reduceCtorEq] at hc) <;> (try (exfalso; omega))))
  exact retq rfl rfl
theorem rwrites_fn (S : System) (h : OkS S) (i k r : Int) : Fn Tryz.prog 24 [.agg (eSystem S), .int .i64 i, .int .i64 k, .int .i64 r] (.int .i64 (writesI S i k r)) := by
  have c1 := rreads_fn S h i k
  cases hr : readsB S i k
  · rw [hr] at c1
    rw [writesI, hr, if_neg (by simp)]
    refine fnb Tryz.func24 (entered_of (by kernel_rfl)) rfl rfl rfl ?_
    repeat' (first | refine sA ?_ | ((first | apply kM | apply kN); (iterate 3 (· exact rfl)); (· first | exact ya | exact q_c (c1) rfl)) | refine sG ?_ | (refine sK ?_ ?_ <;> intro hc <;> (try simp only [KL, sL, reduceCtorEq] at hc) <;> (try (exfalso; omega))))
    all_goals exact retq rfl rfl
  rw [hr] at c1
  have hin := reads_in hr
  have c2 := rahead37_fn S h i k (by omega)
  cases ha : aheadO S i k
  · rw [ha] at c2
    rw [writesI, ha, if_neg (by simp)]
    refine fnb Tryz.func24 (entered_of (by kernel_rfl)) rfl rfl rfl ?_
    repeat' (first | refine sA ?_ | ((first | apply kM | apply kN); (iterate 3 (· exact rfl)); (· first | exact ya | exact q_c (c1) rfl | exact q_c (c2) rfl)) | refine sG ?_ | (refine sK ?_ ?_ <;> intro hc <;> (try simp only [KL, sL, reduceCtorEq] at hc) <;> (try (exfalso; omega))))
    all_goals exact retq rfl rfl
  rw [ha] at c2
  rw [writesI, hr, ha, if_pos ⟨rfl, rfl⟩]
  have hw := (ahead_lt.1 ha).1
  have hw2 : 0 ≤ (S.objects.getD k.toNat default).writer ∧ (S.objects.getD k.toNat default).writer < S.tasks.length := ⟨hw.1, hw.2.1⟩
  have c3 := rcalls36_fn S h (S.objects.getD k.toNat default).writer k true
  refine fnb Tryz.func24 (entered_of (by kernel_rfl)) rfl rfl rfl ?_
  repeat' (first | refine sA ?_ | ((first | apply kM | apply kN); (iterate 3 (· exact rfl)); (· first | exact ya | exact q_c (c1) rfl | exact q_c (c2) rfl | exact q_c (c3) rfl | exact q_c (rCeil_fn _ _) rfl | exact q_c (rMul_fn _ _) rfl)) | refine sG ?_ | (refine sK ?_ ?_ <;> intro hc <;> (try simp only [KL, sL, reduceCtorEq] at hc) <;> (try (exfalso; omega))))
  all_goals exact retq rfl rfl
theorem rfails_fn (S : System) (h : OkS S) (i k r : Int) : Fn Tryz.prog 26 [.agg (eSystem S), .int .i64 i, .int .i64 k, .int .i64 r] (.int .i64 (failsI S i k r)) := by
  have c1 := rwrites_fn S h i k r
  have hB := writes_B S i k r
  rw [failsI]
  by_cases h0 : writesI S i k r = 0
  · rw [failsO, if_pos h0]
    rw [h0] at c1
    refine fnb Tryz.func26 (entered_of (by kernel_rfl)) rfl rfl rfl ?_
    repeat' (first | refine sA ?_ | ((first | apply kM | apply kN); (iterate 3 (· exact rfl)); (· first | exact ya | exact q_c (c1) rfl)) | refine sG ?_ | (refine sK ?_ ?_ <;> intro hc <;> (try simp only [KL, sL, reduceCtorEq] at hc) <;> (try (exfalso; omega))))
    all_goals first | (exfalso; omega) | exact retq rfl rfl
  have hsl := h.sl k.toNat
  have hin : 0 ≤ k ∧ k < S.objects.length := by
    have : readsB S i k = true := by
      cases hq : readsB S i k with
      | true => rfl
      | false => exfalso; apply h0; rw [writesI, hq, if_neg (by simp)]
    have := reads_in this; omega
  obtain ⟨m, rfl⟩ : ∃ m : Nat, k = m := ⟨k.toNat, by omega⟩
  rw [objD, Int.toNat_natCast]
  generalize writesI S i m r = n at *
  rw [failsO, if_neg h0]
  obtain ⟨o, hod⟩ : ∃ o, S.objects.getD m default = o := ⟨_, rfl⟩
  rw [Int.toNat_natCast, hod] at hsl
  rw [hod]
  by_cases h35 : o.kind = 3 ∨ o.kind = 5
  · rw [if_pos h35]
    refine fnb Tryz.func26 (entered_of (by kernel_rfl)) rfl rfl rfl ?_
    repeat' (first | refine sA ?_ | ((first | apply kM | apply kN); (iterate 3 (· exact rfl)); (· first | (show Y _ ⟨_, .indexAddr _ _ _, _, _, _, _⟩ _ _ _; first | exact Y.mk (ok_indexE (hod) rfl rfl rfl rfl rfl (by omega))) | exact ya | exact q_c (c1) rfl)) | refine sG ?_ | (refine sK ?_ ?_ <;> intro hc <;> (try simp only [KL, sL, reduceCtorEq] at hc) <;> (try (exfalso; omega))))
    all_goals first | (exfalso; omega) | exact retq rfl rfl
  rw [if_neg h35]
  by_cases h4 : o.kind = 4
  · rw [if_pos h4]
    by_cases h2 : 2 < o.slots
    · rw [if_pos h2]
      have h5 := Int.ediv_nonneg hB.1 (show 0 ≤ o.slots - 1 by omega)
      have h6 := Int.ediv_le_self (o.slots - 1) hB.1
      refine fnb Tryz.func26 (entered_of (by kernel_rfl)) rfl rfl rfl ?_
      repeat' (first | refine sA ?_ | ((first | apply kM | apply kN); (iterate 3 (· exact rfl)); (· first | (show Y _ ⟨_, .indexAddr _ _ _, _, _, _, _⟩ _ _ _; first | exact Y.mk (ok_indexE (hod) rfl rfl rfl rfl rfl (by omega))) | exact ya | exact q_c (c1) rfl)) | refine sG ?_ | (refine sK ?_ ?_ <;> intro hc <;> (try simp only [KL, sL, reduceCtorEq] at hc) <;> (try (exfalso; omega))))
      all_goals first | (exfalso; omega) | exact retq rfl rfl
    · rw [if_neg h2]
      refine fnb Tryz.func26 (entered_of (by kernel_rfl)) rfl rfl rfl ?_
      repeat' (first | refine sA ?_ | ((first | apply kM | apply kN); (iterate 3 (· exact rfl)); (· first | (show Y _ ⟨_, .indexAddr _ _ _, _, _, _, _⟩ _ _ _; first | exact Y.mk (ok_indexE (hod) rfl rfl rfl rfl rfl (by omega))) | exact ya | exact q_c (c1) rfl)) | refine sG ?_ | (refine sK ?_ ?_ <;> intro hc <;> (try simp only [KL, sL, reduceCtorEq] at hc) <;> (try (exfalso; omega))))
      all_goals first | (exfalso; omega) | exact retq rfl rfl
  · rw [if_neg h4]
    refine fnb Tryz.func26 (entered_of (by kernel_rfl)) rfl rfl rfl ?_
    repeat' (first | refine sA ?_ | ((first | apply kM | apply kN); (iterate 3 (· exact rfl)); (· first | (show Y _ ⟨_, .indexAddr _ _ _, _, _, _, _⟩ _ _ _; first | exact Y.mk (ok_indexE (hod) rfl rfl rfl rfl rfl (by omega))) | exact ya | exact q_c (c1) rfl)) | refine sG ?_ | (refine sK ?_ ?_ <;> intro hc <;> (try simp only [KL, sL, reduceCtorEq] at hc) <;> (try (exfalso; omega))))
    all_goals first | (exfalso; omega) | exact retq rfl rfl
theorem noread_job {S : System} (h : OkS S) {i r : Int} {m : Nat} (hr : readsB S i m = false) : jobTo S i r (m + 1) = jobTo S i r m := by
  have h1 := job_B h i r m
  have e : failsI S i m r = 0 := by rw [failsI, writesI, hr, if_neg (by simp), failsO, if_pos rfl]
  rw [jobTo, e, mul_0 (.inl rfl), addI_0, insId h1.1 h1.2]
theorem rjob_fn (S : System) (h : OkS S) (i r : Int) : Fn Tryz.prog 28 [.agg (eSystem S), .int .i64 i, .int .i64 r] (.int .i64 (jobI S i r)) := by
  have h1 := h.tl
  have h2 := h.ol
  by_cases hi : i < 0 ∨ (S.tasks.length : Int) ≤ i
  · have e : (demI S i 0).2 = 1 := by rw [demI, if_pos hi]
    rw [jobI, if_pos (by omega)]
    refine fnb Tryz.func28 (entered_of (by kernel_rfl)) rfl rfl rfl ?_
    repeat' (first | refine sA ?_ | ((first | apply kM | apply kN); (iterate 3 (· exact rfl)); (· first | exact ya)) | refine sG ?_ | (refine sK ?_ ?_ <;> intro hc <;> (try simp only [KL, sL, reduceCtorEq] at hc) <;> (try (exfalso; omega))))
    all_goals first | (exfalso; omega) | exact retq rfl rfl
  obtain ⟨j, rfl⟩ : ∃ j : Nat, i = j := ⟨i.toNat, by omega⟩
  have c1 := rmost36_fn S h j 0 (by omega) (by omega)
  by_cases he : (demI S j 0).2 ≠ 0
  · rw [jobI, if_pos he]
    rw [if_neg he] at c1
    refine fnb Tryz.func28 (entered_of (by kernel_rfl)) rfl rfl rfl ?_
    repeat' (first | refine sA ?_ | ((first | apply kM | apply kN); (iterate 3 (· exact rfl)); (· first | exact ya | exact q_c (c1) rfl)) | refine sG ?_ | (refine sK ?_ ?_ <;> intro hc <;> (try simp only [KL, sL, reduceCtorEq] at hc) <;> (try (exfalso; omega))))
    all_goals first | (exfalso; omega) | exact retq rfl rfl
  rw [jobI, if_neg he]
  rw [if_pos (by omega)] at c1
  have hB := dem_B h j 0
  refine fnb Tryz.func28 (entered_of (by kernel_rfl)) rfl rfl rfl ?_
  repeat' (first | refine sA ?_ | ((first | apply kM | apply kN); (iterate 3 (· exact rfl)); (· first | exact ya | exact q_c (c1) rfl)) | refine sG ?_ | (refine sK ?_ ?_ <;> intro hc <;> (try simp only [KL, sL, reduceCtorEq] at hc) <;> (try (exfalso; omega))))
  all_goals first | (exfalso; omega) | skip
  refine wloop (fun m : Nat => ([(1, .int .i64 (j : Int)), (2, .int .i64 r), (3, .ref (eSystem S)), (7, .int .i64 (jobTo S j r m)), (25, .lst 8 (S.objects.map eObject)), (26, .int .i64 S.objects.length), (27, .int .i64 m)], [])) (fun m => m ≤ S.objects.length) (fun m => S.objects.length - m) 0 (Nat.zero_le _) les leh (fun m hm => ?_)
  rcases Nat.lt_or_eq_of_le hm with hml | hml
  · have c2 := rfails_fn S h j m r
    have c4 := rreads_fn S h j m
    obtain ⟨o, hod⟩ : ∃ o, S.objects.getD m default = o := ⟨_, rfl⟩
    have c3 := rfail_fn o 1
    cases hr : readsB S j m
    · rw [hr] at c4
      have hnx := noread_job h (r := r) hr
      repeat' (first | refine sA ?_ | (show O _ _ _ _ _ _ _; first | refine ao_alloc (id := 10) rfl rfl rfl rfl rfl rfl rfl ?_) | ((first | apply kM | apply kN); (iterate 3 (· exact rfl)); (· first | (show Y _ ⟨_, .indexAddr _ _ _, _, _, _, _⟩ _ _ _; first | exact Y.mk (ok_indexE (hod) rfl rfl rfl rfl rfl (by omega))) | exact ya | exact q_c (c4) rfl)) | refine sG ?_ | (refine sK ?_ ?_ <;> intro hc <;> (try simp only [KL, sL, reduceCtorEq] at hc) <;> (try (exfalso; omega))))
      all_goals first | (exfalso; omega) | exact ⟨m + 1, by omega, by omega, by simp only [hnx]; exact les, leh⟩
    · rw [hr] at c4
      have hnx : jobTo S j r (m + 1) = addI (jobTo S j r m) (mulI (failsI S j m r) (failI o 1)) := by rw [jobTo, hod]
      repeat' (first | refine sA ?_ | (show O _ _ _ _ _ _ _; first | refine ao_alloc (id := 10) rfl rfl rfl rfl rfl rfl rfl ?_) | ((first | apply kM | apply kN); (iterate 3 (· exact rfl)); (· first | (show Y _ ⟨_, .indexAddr _ _ _, _, _, _, _⟩ _ _ _; first | exact Y.mk (ok_indexE (hod) rfl rfl rfl rfl rfl (by omega))) | exact ya | exact q_c (c2) rfl | exact q_c (c3) rfl | exact q_c (c4) rfl | exact q_c (rMul_fn _ _) rfl | exact q_c (rAdd_fn _ _) rfl)) | refine sG ?_ | (refine sK ?_ ?_ <;> intro hc <;> (try simp only [KL, sL, reduceCtorEq] at hc) <;> (try (exfalso; omega))))
      all_goals first | (exfalso; omega) | exact ⟨m + 1, by omega, by omega, by simp only [hnx]; exact les, leh⟩
  · subst hml
    repeat' (first | refine sA ?_ | ((first | apply kM | apply kN); (iterate 3 (· exact rfl)); (· first | exact ya)) | refine sG ?_ | (refine sK ?_ ?_ <;> intro hc <;> (try simp only [KL, sL, reduceCtorEq] at hc) <;> (try (exfalso; omega))))
    all_goals first | (exfalso; omega) | exact retq rfl rfl
end Go.Proofs.YtkkmageogkkchaaGreat
