/- Registers (layer 22), the plain law: all orders tried, and of which write each read tells: the same. No program in sight. No condition. -/
import Derived.Test.YthmifkibfpcncaaLq
namespace Go.Proofs.Ythmifkibfpcncaa
set_option linter.unusedSimpArgs false
set_option linter.unusedVariables false
set_option maxRecDepth 100000
open Go.RowKit
def openB (c : Call) : Bool := decide (c.fin < 0)
def partP (c : Call) : Bool := decide (c.op = 2 ∨ 0 ≤ c.fin ∧ c.code = 0)
def partC (l : List Call) : List Call := l.filter partP
def firstB (rest : List Call) (c : Call) : Bool := rest.all fun d => !befB d c
def nextC (c : Call) (last : List Int) : List Int := if c.op = 2 then c.rc else last
def lessC (rest : List Call) (i : Nat) : List Call := rest.take i ++ rest.drop (i + 1)
/-- Can the rest be put in order, behind a record that was written last? -/
def ordB : Nat → List Call → List Int → Bool
  | 0, rest, _ => rest.all openB
  | n + 1, rest, last => (List.range rest.length).any (fun i => firstB rest (rest.getD i default) && (decide (¬ (rest.getD i default).op = 1 ∨ (rest.getD i default).rc = last) && ordB n (lessC rest i) (nextC (rest.getD i default) last))) || rest.all openB
theorem low_after {ws : List Call} {r : Call} : ∀ n k, lowTo ws r n ≤ k → k < n → befB (ws.getD k default) r = false
  | 0, k, _, h => by omega
  | n + 1, k, h1, h2 => by
    rw [lowTo] at h1
    split at h1
    · omega
    · rename_i hb
      rcases Nat.lt_or_eq_of_le (Nat.le_of_lt_succ h2) with q | q
      · exact low_after n k h1 q
      · subst q; simpa using hb
theorem low_at {ws : List Call} {r : Call} : ∀ n, 0 < lowTo ws r n → befB (ws.getD (lowTo ws r n - 1) default) r = true
  | 0, h => by rw [lowTo] at h; omega
  | n + 1, h => by
    rw [lowTo] at h ⊢
    split
    · rename_i hb; exact hb
    · rename_i hb; rw [if_neg hb] at h; exact low_at n h
theorem low_of {ws : List Call} {r : Call} {m n : Nat} (h : ∀ k, m ≤ k → k < n → befB (ws.getD k default) r = false) : lowTo ws r n ≤ m := by
  rcases Nat.lt_or_ge m (lowTo ws r n) with q | q
  · have h1 := low_at (ws := ws) (r := r) n (by omega)
    have h2 := lowTo_le ws r n
    rw [h (lowTo ws r n - 1) (by omega) (by omega)] at h1
    cases h1
  · exact q
theorem high_after {ws : List Call} {r : Call} : ∀ n k, highTo ws r n ≤ k → k < n → befB r (ws.getD k default) = true
  | 0, k, _, h => by omega
  | n + 1, k, h1, h2 => by
    rw [highTo] at h1
    split at h1
    · rename_i hb
      rcases Nat.lt_or_eq_of_le (Nat.le_of_lt_succ h2) with q | q
      · exact high_after n k h1 q
      · subst q; exact hb
    · omega
/-- Writes of one writer, in order. -/
structure Ws (ws : List Call) : Prop where
  ok : ∀ w ∈ ws, callOk w = true
  op : ∀ w ∈ ws, isW w = true
  bef : ws.Pairwise (fun a b => befB a b = true)
theorem Ws.at_ {ws : List Call} (h : Ws ws) {i j : Nat} (hij : i < j) (hj : j < ws.length) : befB (ws.getD i default) (ws.getD j default) = true := by
  have := List.pairwise_iff_getElem.1 h.bef i j (by omega) hj hij
  simpa [hj, show i < ws.length by omega] using this
theorem high_below {ws : List Call} {r : Call} (h : Ws ws) : ∀ n, n ≤ ws.length → ∀ k, k < highTo ws r n → befB r (ws.getD k default) = false
  | 0, _, k, hk => by rw [highTo] at hk; omega
  | n + 1, hn, k, hk => by
    rw [highTo] at hk
    split at hk
    · exact high_below h n (by omega) k hk
    · rename_i hb
      rcases Nat.lt_or_eq_of_le (Nat.le_of_lt_succ hk) with q | q
      · have h1 := bef_iff.1 (h.at_ q (by omega : n < ws.length))
        have h2 := ok_fin (h.ok _ (getD_memC (show k < ws.length by omega)))
        cases h3 : befB r (ws.getD k default) with
        | false => rfl
        | true => exact absurd (bef_iff.2 (by rw [bef_iff] at h3; omega)) hb
      · subst q; simpa using hb
/-- What is left: the writes from the m-th on, and reads that have ended. -/
structure Left (ws : List Call) (m : Nat) (rest : List Call) : Prop where
  hm : m ≤ ws.length
  hw : (rest.filter isW).Perm (ws.drop m)
  hr : ∀ r ∈ rest, isW r = false → r.op = 1 ∧ 0 ≤ r.fin
  hi : ∀ r ∈ rest, isW r = false → m ≤ highTo ws r ws.length
  hR : HR rest
def GoodS (init : List Int) (ws : List Call) (m : Nat) (rest : List Call) (g : Call → Nat) : Prop :=
  ∀ r ∈ rest, isW r = false → m ≤ g r ∧ lowTo ws r ws.length ≤ g r ∧ g r ≤ highTo ws r ws.length ∧ recQ init ws r (g r) = true ∧ ∀ q ∈ rest, isW q = false → befB q r = true → g q ≤ g r
theorem less_perm {rest : List Call} {i : Nat} (hi : i < rest.length) : rest.Perm (rest.getD i default :: lessC rest i) := by
  have h1 : rest = rest.take i ++ rest.getD i default :: rest.drop (i + 1) := by
    rw [List.getD_eq_getElem?_getD, List.getElem?_eq_getElem hi, Option.getD_some, ← List.drop_eq_getElem_cons hi, List.take_append_drop]
  have h2 : (rest.take i ++ rest.getD i default :: rest.drop (i + 1)).Perm (rest.getD i default :: lessC rest i) := List.perm_middle
  rw [← h1] at h2
  exact h2
theorem less_sub {rest : List Call} {i : Nat} (hi : i < rest.length) : (lessC rest i).Sublist rest := by
  have h1 : rest.take i ++ rest.getD i default :: rest.drop (i + 1) = rest := by
    rw [List.getD_eq_getElem?_getD, List.getElem?_eq_getElem hi, Option.getD_some, ← List.drop_eq_getElem_cons hi, List.take_append_drop]
  have h2 : (lessC rest i).Sublist (rest.take i ++ rest.getD i default :: rest.drop (i + 1)) := (List.sublist_cons_self _ _).append_left _
  rw [h1] at h2
  exact h2
theorem less_len {rest : List Call} {i : Nat} (hi : i < rest.length) : (lessC rest i).length = rest.length - 1 := by
  have := (less_perm hi).length_eq
  rw [List.length_cons] at this; omega
theorem HR.self {l : List Call} (h : HR l) {a : Call} (ha : a ∈ l) : befB a a = false := by
  have h1 := ok_fin (h.1 a ha)
  cases hb : befB a a with
  | false => rfl
  | true => rw [bef_iff] at hb; omega
theorem HR.notin {c : Call} {l : List Call} (h : HR (c :: l)) : c ∉ l := fun hc => by
  have h1 := (List.pairwise_cons.1 h.2).1 c hc
  have h2 := h.self (List.mem_cons_self (a := c) (l := l))
  rw [pairOk, decide_eq_true_eq] at h1
  rcases h1 rfl with q | q <;> rw [h2] at q <;> cases q
theorem Left.head {ws : List Call} {m : Nat} {rest : List Call} (h : Left ws m rest) (hm : m < ws.length) : ws.getD m default ∈ rest := by
  have h1 : ws.getD m default ∈ ws.drop m := by
    rw [List.drop_eq_getElem_cons hm, List.getD_eq_getElem?_getD, List.getElem?_eq_getElem hm, Option.getD_some]; exact List.mem_cons_self
  exact (List.mem_filter.1 (h.hw.mem_iff.2 h1)).1
theorem Left.write {ws : List Call} {m : Nat} {rest : List Call} (h : Left ws m rest) {c : Call} (hc : c ∈ rest) (hw : isW c = true) : ∃ k, m ≤ k ∧ k < ws.length ∧ c = ws.getD k default := by
  have h1 : c ∈ ws.drop m := h.hw.mem_iff.1 (List.mem_filter.2 ⟨hc, hw⟩)
  obtain ⟨j, hj, rfl⟩ := List.mem_iff_getElem.1 h1
  rw [List.length_drop] at hj
  exact ⟨m + j, by omega, by omega, by rw [List.getElem_drop, List.getD_eq_getElem?_getD, List.getElem?_eq_getElem (show m + j < ws.length by omega), Option.getD_some]⟩
/-- One less: the next write. -/
theorem Left.stepW {ws : List Call} (hws : Ws ws) {m : Nat} {rest : List Call} (h : Left ws m rest) {i : Nat} (hi : i < rest.length) (hm : m < ws.length) (hc : rest.getD i default = ws.getD m default) (hf : firstB rest (rest.getD i default) = true) : Left ws (m + 1) (lessC rest i) := by
  have hp := less_perm hi
  have hs := less_sub hi
  have hw : isW (rest.getD i default) = true := by rw [hc]; exact hws.op _ (getD_memC hm)
  refine ⟨hm, ?_, fun r hr => h.hr r (hs.subset hr), fun r hr hwr => ?_, h.hR.sub hs⟩
  · have h1 := (hp.filter isW).symm.trans h.hw
    rw [List.filter_cons, if_pos hw, List.drop_eq_getElem_cons hm, hc, List.getD_eq_getElem?_getD, List.getElem?_eq_getElem hm, Option.getD_some] at h1
    exact h1.cons_inv
  · have h1 := List.all_eq_true.1 hf r (hs.subset hr)
    rw [hc] at h1
    rcases Nat.lt_or_ge m (highTo ws r ws.length) with q | q
    · exact q
    · rw [high_after ws.length m q hm] at h1; cases h1
/-- One less: a read. -/
theorem Left.stepR {ws : List Call} {m : Nat} {rest : List Call} (h : Left ws m rest) {i : Nat} (hi : i < rest.length) (hw : isW (rest.getD i default) = false) : Left ws m (lessC rest i) := by
  have hp := less_perm hi
  have hs := less_sub hi
  refine ⟨h.hm, ?_, fun r hr => h.hr r (hs.subset hr), fun r hr => h.hi r (hs.subset hr), h.hR.sub hs⟩
  have h1 := (hp.filter isW).symm.trans h.hw
  rw [List.filter_cons, hw] at h1
  exact h1
theorem least_fin : ∀ (l : List Call), l ≠ [] → ∃ x ∈ l, ∀ y ∈ l, x.fin ≤ y.fin
  | [], h => absurd rfl h
  | [a], _ => ⟨a, by simp, fun y hy => by simp at hy; subst hy; omega⟩
  | a :: b :: l, _ => by
    obtain ⟨x, hx, hm⟩ := least_fin (b :: l) (by simp)
    by_cases h : a.fin ≤ x.fin
    · exact ⟨a, by simp, fun y hy => by
        rcases List.mem_cons.1 hy with rfl | q
        · omega
        · have := hm y q; omega⟩
    · exact ⟨x, List.mem_cons_of_mem _ hx, fun y hy => by
        rcases List.mem_cons.1 hy with rfl | q
        · omega
        · exact hm y q⟩
theorem recAt_succ {init : List Int} {ws : List Call} {m : Nat} : recAt init ws (m + 1) = (ws.getD m default).rc := by
  rw [recAt, if_neg (by omega), Nat.add_sub_cancel]
theorem mem_getD {rest : List Call} {c : Call} (h : c ∈ rest) : ∃ i, i < rest.length ∧ rest.getD i default = c := by
  obtain ⟨i, hi, rfl⟩ := List.mem_iff_getElem.1 h
  exact ⟨i, hi, by rw [List.getD_eq_getElem?_getD, List.getElem?_eq_getElem hi, Option.getD_some]⟩
theorem ord_to {init : List Int} {ws : List Call} (hws : Ws ws) : ∀ (n m : Nat) (rest : List Call), rest.length = n → Left ws m rest → ordB n rest (recAt init ws m) = true → ∃ g, GoodS init ws m rest g
  | 0, m, rest, hn, hl, h => by
    have : rest = [] := List.eq_nil_of_length_eq_zero hn
    subst this
    exact ⟨fun _ => 0, fun r hr => by cases hr⟩
  | n + 1, m, rest, hn, hl, h => by
    rw [ordB, Bool.or_eq_true] at h
    rcases h with h | h
    · obtain ⟨i, hi, h⟩ := List.any_eq_true.1 h
      rw [List.mem_range] at hi
      rw [Bool.and_eq_true, Bool.and_eq_true, decide_eq_true_eq] at h
      obtain ⟨h1, h2, h3⟩ := h
      have hp := less_perm hi
      have hs := less_sub hi
      have hll := less_len hi
      have hmem : rest.getD i default ∈ rest := getD_memC hi
      have hin : ∀ r ∈ rest, r ≠ rest.getD i default → r ∈ lessC rest i := fun r hr hne => (List.mem_cons.1 (hp.mem_iff.1 hr)).resolve_left hne
      cases hw : isW (rest.getD i default) with
      | true =>
        obtain ⟨k, k1, k2, k3⟩ := hl.write hmem hw
        have hkm : k = m := by
          rcases Nat.lt_or_eq_of_le k1 with q | q
          · have h4 := List.all_eq_true.1 h1 _ (hl.head (by omega))
            rw [k3, hws.at_ q k2] at h4
            cases h4
          · exact q.symm
        subst hkm
        have hw2 : (rest.getD i default).op = 2 := by rw [isW, decide_eq_true_eq] at hw; exact hw
        rw [nextC, if_pos hw2, k3, ← recAt_succ (init := init)] at h3
        obtain ⟨g, hg⟩ := ord_to hws n (k + 1) (lessC rest i) (by omega) (hl.stepW hws hi k2 k3 h1) h3
        refine ⟨g, fun r hr hwr => ?_⟩
        have hne : ∀ r, isW r = false → r ≠ rest.getD i default := fun r hwr e => by rw [e, hw] at hwr; cases hwr
        have h5 := hg r (hin r hr (hne r hwr)) hwr
        exact ⟨by omega, h5.2.1, h5.2.2.1, h5.2.2.2.1, fun q hq hwq => h5.2.2.2.2 q (hin q hq (hne q hwq)) hwq⟩
      | false =>
        have hop := hl.hr _ hmem hw
        have hw2 : ¬ (rest.getD i default).op = 2 := by omega
        rw [nextC, if_neg hw2] at h3
        obtain ⟨g, hg⟩ := ord_to hws n m (lessC rest i) (by omega) (hl.stepR hi hw) h3
        have hrc : (rest.getD i default).rc = recAt init ws m := h2.resolve_left (fun e => e hop.1)
        generalize hcc : rest.getD i default = c at *
        refine ⟨fun r => if r = c then m else g r, fun r hr hwr => ?_⟩
        dsimp only
        by_cases e : r = c
        · subst e
          rw [if_pos rfl]
          refine ⟨Nat.le_refl _, low_of fun k hk1 hk2 => ?_, hl.hi _ hr hwr, by rw [recQ, hrc, decide_eq_true rfl], fun q hq hwq hb => ?_⟩
          · have h4 : ws.getD k default ∈ rest := by
              refine (List.mem_filter.1 (hl.hw.mem_iff.2 (List.mem_iff_getElem.2 ⟨k - m, by rw [List.length_drop]; omega, ?_⟩))).1
              rw [List.getElem_drop, List.getD_eq_getElem?_getD, List.getElem?_eq_getElem hk2, Option.getD_some]
              simp only [show m + (k - m) = k by omega]
            have h5 := List.all_eq_true.1 h1 _ h4
            simpa using h5
          · have h5 := List.all_eq_true.1 h1 _ hq
            rw [hb] at h5; cases h5
        · rw [if_neg e]
          have h5 := hg r (hin r hr e) hwr
          refine ⟨h5.1, h5.2.1, h5.2.2.1, h5.2.2.2.1, fun q hq hwq hb => ?_⟩
          by_cases e2 : q = c
          · rw [if_pos e2]; exact h5.1
          · rw [if_neg e2]; exact h5.2.2.2.2 q (hin q hq e2) hwq hb
    · refine ⟨fun _ => 0, fun r hr hwr => ?_⟩
      have h1 := List.all_eq_true.1 h r hr
      have h2 := (hl.hr r hr hwr).2
      rw [openB, decide_eq_true_eq] at h1
      omega
theorem ord_from {init : List Int} {ws : List Call} (hws : Ws ws) {g : Call → Nat} : ∀ (n m : Nat) (rest : List Call), rest.length = n → Left ws m rest → GoodS init ws m rest g → ordB n rest (recAt init ws m) = true
  | 0, m, rest, hn, hl, h => by
    have : rest = [] := List.eq_nil_of_length_eq_zero hn
    subst this
    rfl
  | n + 1, m, rest, hn, hl, h => by
    rw [ordB, Bool.or_eq_true]
    refine .inl (List.any_eq_true.2 ?_)
    by_cases hA : rest.filter (fun r => !isW r && decide (g r = m)) = []
    · -- the next write
      have hgt : ∀ r ∈ rest, isW r = false → m + 1 ≤ g r := fun r hr hwr => by
        have h1 := (h r hr hwr).1
        rcases Nat.lt_or_eq_of_le h1 with q | q
        · exact q
        · have : r ∈ rest.filter (fun r => !isW r && decide (g r = m)) := List.mem_filter.2 ⟨hr, by rw [hwr, ← q]; simp⟩
          rw [hA] at this; cases this
      have hm : m < ws.length := by
        obtain ⟨x, hx⟩ : ∃ x, x ∈ rest := ⟨rest.getD 0 default, getD_memC (by omega)⟩
        cases hw : isW x with
        | true => obtain ⟨k, k1, k2, _⟩ := hl.write hx hw; omega
        | false =>
          have h1 := hgt x hx hw
          have h2 := (h x hx hw).2.2.1
          have h3 := highTo_le ws x ws.length
          omega
      obtain ⟨i, hi, hic⟩ := mem_getD (hl.head hm)
      have hf : firstB rest (rest.getD i default) = true := by
        refine List.all_eq_true.2 fun d hd => ?_
        rw [hic]
        cases hw : isW d with
        | true =>
          obtain ⟨k, k1, k2, k3⟩ := hl.write hd hw
          have o1 := ok_fin (hws.ok _ (getD_memC hm))
          have o2 := ok_fin (hws.ok _ (getD_memC k2))
          cases hb : befB d (ws.getD m default) with
          | false => rfl
          | true =>
            rw [k3] at hb
            rw [bef_iff] at hb
            rcases Nat.lt_or_eq_of_le k1 with q | q
            · have := bef_iff.1 (hws.at_ q k2); omega
            · subst q; omega
        | false =>
          have h1 := hgt d hd hw
          have h2 := (h d hd hw).2.2.1
          rw [high_below hws ws.length (Nat.le_refl _) m (by omega)]; rfl
      have hw2 : (rest.getD i default).op = 2 := by
        have := hws.op _ (getD_memC hm); rw [isW, decide_eq_true_eq] at this; rw [hic]; exact this
      refine ⟨i, List.mem_range.2 hi, ?_⟩
      rw [hf, Bool.true_and, decide_eq_true (.inl (by omega)), Bool.true_and, nextC, if_pos hw2, hic, ← recAt_succ (init := init)]
      have hll := less_len hi
      have hs := less_sub hi
      exact ord_from hws n (m + 1) _ (by omega) (hl.stepW hws hi hm hic hf) fun r hr hwr => by
        have h1 := h r (hs.subset hr) hwr
        exact ⟨hgt r (hs.subset hr) hwr, h1.2.1, h1.2.2.1, h1.2.2.2.1, fun q hq => h1.2.2.2.2 q (hs.subset hq)⟩
    · obtain ⟨c, hc, hmin⟩ := least_fin _ hA
      obtain ⟨hcr, hc2⟩ := List.mem_filter.1 hc
      rw [Bool.and_eq_true, decide_eq_true_eq] at hc2
      have hwc : isW c = false := by simpa using hc2.1
      obtain ⟨i, hi, hic⟩ := mem_getD hcr
      have hgc := h c hcr hwc
      have hop := hl.hr c hcr hwc
      have hf : firstB rest c = true := by
        refine List.all_eq_true.2 fun d hd => ?_
        cases hb : befB d c with
        | false => rfl
        | true =>
          exfalso
          cases hw : isW d with
          | true =>
            obtain ⟨k, k1, k2, k3⟩ := hl.write hd hw
            have := low_after (ws := ws) (r := c) ws.length k (by omega) k2
            rw [← k3, hb] at this; cases this
          | false =>
            have h1 := hgc.2.2.2.2 d hd hw hb
            have h2 := (h d hd hw).1
            have h3 := hmin d (List.mem_filter.2 ⟨hd, by rw [hw, decide_eq_true (by omega)]; rfl⟩)
            have h4 := ok_fin (hl.hR.1 c hcr)
            rw [bef_iff] at hb
            omega
      refine ⟨i, List.mem_range.2 hi, ?_⟩
      have hrc : c.rc = recAt init ws m := by
        have := hgc.2.2.2.1; rw [hc2.2, recQ, decide_eq_true_eq] at this; exact this.symm
      rw [hic, hf, Bool.true_and, decide_eq_true (.inr hrc), Bool.true_and, nextC, if_neg (by omega)]
      have hll := less_len hi
      have hs := less_sub hi
      exact ord_from hws n m _ (by omega) (hl.stepR hi (by rw [hic]; exact hwc)) fun r hr hwr => by
        have h1 := h r (hs.subset hr) hwr
        exact ⟨h1.1, h1.2.1, h1.2.2.1, h1.2.2.2.1, fun q hq => h1.2.2.2.2 q (hs.subset hq)⟩
/-- The writes of calls that fit. -/
theorem ws_of {l : List Call} (h : FitP l) : Ws (wrC l) := by
  have hs : (wrC l).Sublist (sortC l) := List.filter_sublist
  have hR : HR (sortC l) := h.1.perm (sortC_perm l)
  have hin : ∀ a ∈ wrC l, a ∈ l ∧ a.op = 2 := fun a ha => by
    obtain ⟨h1, h2⟩ := List.mem_filter.1 ha
    rw [isW, decide_eq_true_eq] at h2
    exact ⟨(sortC_perm l).mem_iff.1 h1, h2⟩
  refine ⟨fun w hw => h.1.1 w (hin w hw).1, fun w hw => (List.mem_filter.1 hw).2, ?_⟩
  have hb : (sortC l).Pairwise (fun a b => pairOk a b = true ∧ kleB a b = true) := List.pairwise_and_iff.2 ⟨hR.2, sortC_srt l⟩ 
  refine (hb.sublist hs).imp_of_mem fun {a b} ha hb2 hab => ?_
  have h1 := h.2.2 a (hin a ha).1 b (hin b hb2).1 (hin a ha).2 (hin b hb2).2
  have h2 := hab.1
  have h3 := kle_iff.1 hab.2
  rw [pairOk, decide_eq_true_eq] at h2
  rcases h2 h1 with q | q
  · exact q
  · have o1 := ok_fin (h.1.1 a (hin a ha).1)
    have o2 := ok_fin (h.1.1 b (hin b hb2).1)
    rw [bef_iff] at q
    omega
theorem left_0 {l : List Call} (h : FitP l) : Left (wrC l) 0 (partC l) := by
  have hs : (partC l).Sublist l := List.filter_sublist
  refine ⟨Nat.zero_le _, ?_, fun r hr hw => ?_, fun _ _ _ => Nat.zero_le _, h.1.sub hs⟩
  · rw [List.drop_zero, wrC, partC, List.filter_filter]
    have : l.filter (fun a => isW a && partP a) = l.filter isW := by
      congr 1; funext a
      rw [isW, partP, Bool.eq_iff_iff, Bool.and_eq_true, decide_eq_true_eq, decide_eq_true_eq]
      exact ⟨fun h => h.1, fun h => ⟨h, .inl h⟩⟩
    rw [this]
    exact ((sortC_perm l).filter isW).symm
  · obtain ⟨h1, h2⟩ := List.mem_filter.1 hr
    have h3 := h.2.1 r h1
    rw [isW, decide_eq_false_iff_not] at hw
    rw [partP, decide_eq_true_eq] at h2
    rw [fit1, decide_eq_true_eq] at h3
    omega
theorem part_rd {l : List Call} {r : Call} : r ∈ rdC l ↔ r ∈ partC l ∧ isW r = false := by
  rw [rdC, partC, List.mem_filter, List.mem_filter, (sortC_perm l).mem_iff, isR, partP, isW, decide_eq_true_eq, decide_eq_true_eq, decide_eq_false_iff_not]
  exact ⟨fun ⟨a, b, c, d⟩ => ⟨⟨a, .inr ⟨c, d⟩⟩, b⟩, fun ⟨⟨a, b⟩, c⟩ => ⟨a, c, (b.resolve_left c).1, (b.resolve_left c).2⟩⟩
/-- All orders tried, or of which write each read tells: the same. -/
theorem orders_iff {init : List Int} {l : List Call} (h : FitP l) : ordB (partC l).length (partC l) init = (asgTo init (wrC l) (rdC l) (rdC l).length).isSome := by
  have hws := ws_of h
  have hl := left_0 h
  have hR : HR (rdC l) := (h.1.perm (sortC_perm l)).sub List.filter_sublist
  have hk : (rdC l).Pairwise (fun a b => kleB a b = true) := (sortC_srt l).sublist List.filter_sublist
  have hkat : ∀ i j, i < (rdC l).length → j < (rdC l).length → befB ((rdC l).getD i default) ((rdC l).getD j default) = true → i < j := fun i j hi hj hb => by
    rcases Nat.lt_or_ge i j with q | q
    · exact q
    · exfalso
      have o1 := ok_fin (hR.1 _ (getD_memC hi))
      rw [bef_iff] at hb
      rcases Nat.lt_or_eq_of_le q with q | q
      · have h1 := List.pairwise_iff_getElem.1 hk j i hj hi q
        rw [kle_iff] at h1
        rw [List.getD_eq_getElem?_getD, List.getD_eq_getElem?_getD, List.getElem?_eq_getElem hi, List.getElem?_eq_getElem hj, Option.getD_some, Option.getD_some] at *
        omega
      · subst q; omega
  rw [Bool.eq_iff_iff, asg_iff]
  constructor
  · intro ho
    obtain ⟨g, hg⟩ := ord_to (init := init) hws _ 0 (partC l) rfl hl ho
    refine ⟨fun i => g ((rdC l).getD i default), fun i hi => ?_⟩
    have hm := part_rd.1 (getD_memC hi)
    have h1 := hg _ hm.1 hm.2
    exact ⟨h1.2.1, h1.2.2.1, h1.2.2.2.1, fun j hj hb => by
      have hm2 := part_rd.1 (getD_memC (show j < (rdC l).length by omega))
      exact h1.2.2.2.2 _ hm2.1 hm2.2 hb⟩
  · intro ⟨g, hg⟩
    have hidx : ∀ r ∈ rdC l, (rdC l).idxOf r < (rdC l).length ∧ (rdC l).getD ((rdC l).idxOf r) default = r := fun r hr => by
      have h1 := List.idxOf_lt_length_iff.2 hr
      exact ⟨h1, by rw [List.getD_eq_getElem?_getD, List.getElem?_eq_getElem h1, Option.getD_some, List.getElem_idxOf h1]⟩
    refine ord_from (init := init) hws (g := fun r => g ((rdC l).idxOf r)) _ 0 (partC l) rfl hl fun r hr hw => ?_
    obtain ⟨h1, h2⟩ := hidx r (part_rd.2 ⟨hr, hw⟩)
    have h3 := hg _ h1
    rw [h2] at h3
    refine ⟨Nat.zero_le _, h3.1, h3.2.1, h3.2.2.1, fun q hq hwq hb => ?_⟩
    obtain ⟨h4, h5⟩ := hidx q (part_rd.2 ⟨hq, hwq⟩)
    refine h3.2.2.2 _ (hkat _ _ h4 h1 (by rw [h2, h5]; exact hb)) (by rw [h5]; exact hb)
end Go.Proofs.Ythmifkibfpcncaa
