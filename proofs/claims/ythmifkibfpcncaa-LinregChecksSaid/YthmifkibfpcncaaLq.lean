/- Registers (layer 22), the plain law: calls that fit, their order, and of which write each read tells. No program in sight. No condition. -/
import Derived.Test.YthmifkibfpcncaaHq
namespace Go.Proofs.Ythmifkibfpcncaa
set_option linter.unusedSimpArgs false
set_option linter.unusedVariables false
set_option maxRecDepth 100000
open Go.RowKit
/-- What a history is, told of all pairs. -/
def HR (l : List Call) : Prop := (∀ a ∈ l, callOk a = true) ∧ l.Pairwise (fun a b => pairOk a b = true)
theorem pw_iff {α : Type} [Inhabited α] {R : α → α → Prop} (hs : ∀ a b, R a b → R b a) {l : List α} : l.Pairwise R ↔ ∀ i, i < l.length → ∀ k, k < i → R (l.getD i default) (l.getD k default) := by
  rw [List.pairwise_iff_getElem]
  constructor
  · intro h i hi k hk
    have hk' : k < l.length := by omega
    have := hs _ _ (h k i hk' hi hk)
    simpa [hi, hk'] using this
  · intro h i j hi hj hij
    have := hs _ _ (h j hj i hij)
    simpa [hi, hj] using this
theorem getD_memC {l : List Call} {i : Nat} (hi : i < l.length) : l.getD i default ∈ l := by
  rw [List.getD_eq_getElem?_getD, List.getElem?_eq_getElem hi]; exact List.getElem_mem hi
theorem hist_HR {l : List Call} : histB l = true ↔ HR l := by
  rw [histB, hist_iff, HR, pw_iff (fun a b h => by rw [pair_sym]; exact h)]
  constructor
  · intro h
    refine ⟨fun a ha => ?_, fun i hi => (h i hi).2⟩
    obtain ⟨i, hi, rfl⟩ := List.mem_iff_getElem.1 ha
    have := (h i hi).1
    simpa [hi] using this
  · intro h i hi
    exact ⟨h.1 _ (getD_memC hi), h.2 i hi⟩
theorem HR.perm {l r : List Call} (h : HR l) (hp : r.Perm l) : HR r :=
  ⟨fun a ha => h.1 a (hp.mem_iff.1 ha), (hp.pairwise_iff (fun {a b} hab => by rw [pair_sym]; exact hab)).2 h.2⟩
theorem HR.sub {l r : List Call} (h : HR l) (hs : r.Sublist l) : HR r := ⟨fun a ha => h.1 a (hs.subset ha), h.2.sublist hs⟩
theorem HR.ne {l : List Call} (h : HR l) {a b : Call} (ha : a ∈ l) (hb : b ∈ l) (hne : a ≠ b) : pairOk a b = true := by
  obtain ⟨i, hi, rfl⟩ := List.mem_iff_getElem.1 ha
  obtain ⟨j, hj, rfl⟩ := List.mem_iff_getElem.1 hb
  have hp := List.pairwise_iff_getElem.1 h.2
  rcases Nat.lt_trichotomy i j with q | q | q
  · exact hp i j hi hj q
  · subst q; exact absurd rfl hne
  · rw [pair_sym]; exact hp j i hj hi q
theorem ok_fin {a : Call} (h : callOk a = true) : a.fin = -1 ∨ a.begin_ ≤ a.fin := by
  rw [callOk, decide_eq_true_eq] at h
  rcases h.2.2.2.2.2.1 with q | q
  · exact .inl q
  · exact .inr q.1
theorem ok_num {a : Call} (h : callOk a = true) : 0 ≤ a.proc ∧ 0 ≤ a.begin_ := by
  rw [callOk, decide_eq_true_eq] at h
  exact ⟨h.1.1, h.2.2.1.1⟩
theorem bef_iff {a b : Call} : befB a b = true ↔ 0 ≤ a.fin ∧ a.fin < b.begin_ := by rw [befB, decide_eq_true_eq]
/-- The order by beginnings. -/
def kleB (x y : Call) : Bool := decide (x.begin_ < y.begin_ ∨ x.begin_ = y.begin_ ∧ x.proc ≤ y.proc)
theorem kle_iff {x y : Call} : kleB x y = true ↔ (x.begin_ < y.begin_ ∨ x.begin_ = y.begin_ ∧ x.proc ≤ y.proc) := by rw [kleB, decide_eq_true_eq]
theorem HR.anti {l : List Call} (h : HR l) {a b : Call} (ha : a ∈ l) (hb : b ∈ l) (h1 : kleB a b = true) (h2 : kleB b a = true) : a = b := by
  refine Classical.byContradiction fun hne => ?_
  have hp := h.ne ha hb hne
  rw [kle_iff] at h1 h2
  rw [pairOk, decide_eq_true_eq] at hp
  have f1 := ok_fin (h.1 a ha)
  have f2 := ok_fin (h.1 b hb)
  rcases hp (by omega) with q | q
  · rw [bef_iff] at q; omega
  · rw [bef_iff] at q; omega
def atC (o : List Call) (c : Call) : Nat → Nat
  | 0 => 0
  | n + 1 => if kleB (o.getD n default) c = true then n + 1 else atC o c n
theorem atC_le (o : List Call) (c : Call) : ∀ n, atC o c n ≤ n
  | 0 => Nat.le_refl _
  | n + 1 => by
    have := atC_le o c n
    rw [atC]; split <;> omega
def insC (o : List Call) (c : Call) : List Call := o.take (atC o c o.length) ++ c :: o.drop (atC o c o.length)
def sortC (l : List Call) : List Call := l.foldl insC []
theorem sortC_next (l : List Call) (k : Nat) (h : k < l.length) : sortC (l.take (k + 1)) = insC (sortC (l.take k)) (l.getD k default) := by
  rw [List.take_succ_eq_append_getElem h, sortC, List.foldl_append]
  simp [sortC, h]
theorem insC_perm (o : List Call) (c : Call) : (insC o c).Perm (c :: o) := by
  have h : (o.take (atC o c o.length) ++ o.drop (atC o c o.length)) = o := List.take_append_drop _ _
  unfold insC
  refine List.perm_middle.trans ?_
  rw [h]
theorem atC_spec (o : List Call) (c : Call) : ∀ n, (0 < atC o c n → kleB (o.getD (atC o c n - 1) default) c = true) ∧ ∀ j, atC o c n ≤ j → j < n → kleB (o.getD j default) c = false
  | 0 => ⟨fun h => by rw [atC] at h; omega, fun j h1 h2 => by omega⟩
  | n + 1 => by
    have ih := atC_spec o c n
    rw [atC]
    split
    · rename_i h
      exact ⟨fun _ => h, fun j h1 h2 => by omega⟩
    · rename_i h
      refine ⟨ih.1, fun j h1 h2 => ?_⟩
      rcases Nat.lt_or_eq_of_le (Nat.le_of_lt_succ h2) with q | q
      · exact ih.2 j h1 q
      · subst q; simpa using h
theorem kle_tr {x y z : Call} (h1 : kleB x y = true) (h2 : kleB y z = true) : kleB x z = true := by rw [kle_iff] at *; omega
theorem kle_tot {x y : Call} (h1 : kleB x y = false) : kleB y x = true := by
  rw [kle_iff]; rw [kleB, decide_eq_false_iff_not] at h1; omega
theorem insC_srt {o : List Call} (c : Call) (ho : o.Pairwise (fun a b => kleB a b = true)) : (insC o c).Pairwise (fun a b => kleB a b = true) := by
  have hs := atC_spec o c o.length
  have hle := atC_le o c o.length
  have hp := List.pairwise_iff_getElem.1 ho
  unfold insC
  generalize atC o c o.length = a at *
  have h1 : ∀ x ∈ o.take a, kleB x c = true := fun x hx => by
    obtain ⟨i, hi, rfl⟩ := List.mem_iff_getElem.1 hx
    rw [List.length_take] at hi
    rw [List.getElem_take]
    have hl := hs.1 (by omega)
    have ha1 : a - 1 < o.length := by omega
    rw [List.getD_eq_getElem?_getD, List.getElem?_eq_getElem ha1, Option.getD_some] at hl
    rcases Nat.lt_or_eq_of_le (show i ≤ a - 1 by omega) with q | q
    · exact kle_tr (hp i (a - 1) (by omega) ha1 q) hl
    · subst q; exact hl
  have h2 : ∀ x ∈ o.drop a, kleB c x = true := fun x hx => by
    obtain ⟨i, hi, rfl⟩ := List.mem_iff_getElem.1 hx
    rw [List.length_drop] at hi
    rw [List.getElem_drop]
    have hl := hs.2 (a + i) (by omega) (by omega)
    rw [List.getD_eq_getElem?_getD, List.getElem?_eq_getElem (show a + i < o.length by omega), Option.getD_some] at hl
    exact kle_tot hl
  refine List.pairwise_append.2 ⟨ho.sublist (List.take_sublist _ _), List.pairwise_cons.2 ⟨h2, ho.sublist (List.drop_sublist _ _)⟩, fun x hx y hy => ?_⟩
  rcases List.mem_cons.1 hy with rfl | hy
  · exact h1 x hx
  · exact kle_tr (h1 x hx) (h2 y hy)
theorem sortC_fold : ∀ (l o : List Call), o.Pairwise (fun a b => kleB a b = true) → (l.foldl insC o).Perm (o ++ l) ∧ (l.foldl insC o).Pairwise (fun a b => kleB a b = true)
  | [], o, h => ⟨by simp, h⟩
  | c :: l, o, h => by
    have ih := sortC_fold l (insC o c) (insC_srt c h)
    rw [List.foldl_cons]
    refine ⟨ih.1.trans ?_, ih.2⟩
    refine (List.Perm.append_right l (insC_perm o c)).trans ?_
    simpa using (List.perm_middle (a := c) (l₁ := o) (l₂ := l)).symm
theorem sortC_perm (l : List Call) : (sortC l).Perm l := by simpa [sortC] using (sortC_fold l [] List.Pairwise.nil).1
theorem sortC_srt (l : List Call) : (sortC l).Pairwise (fun a b => kleB a b = true) := (sortC_fold l [] List.Pairwise.nil).2
theorem sortC_len (l : List Call) : (sortC l).length = l.length := (sortC_perm l).length_eq
theorem sortC_eq {l r : List Call} (h : HR l) (h1 : r.Perm l) (h2 : r.Pairwise (fun a b => kleB a b = true)) : r = sortC l :=
  List.Perm.eq_of_pairwise (le := fun a b => kleB a b = true) (fun a b ha hb h3 h4 => h.anti (h1.mem_iff.1 ha) ((sortC_perm l).mem_iff.1 hb) h3 h4) h2 (sortC_srt l) (h1.trans (sortC_perm l).symm)
/-- Do calls fit a register? -/
def fit1 (c : Call) : Bool := decide (c.op = 1 ∧ (c.code = 0 ∨ c.code = 1) ∨ c.op = 2 ∧ c.code = 0)
def wrN (w : Int) (c : Call) : Option Int := if fit1 c = true then (if c.op = 2 then (if 0 ≤ w ∧ c.proc ≠ w then none else some c.proc) else some w) else none
def wrTo (l : List Call) : Nat → Option Int
  | 0 => some (-1)
  | k + 1 => (wrTo l k).bind fun w => wrN w (l.getD k default)
def fitsB (l : List Call) : Bool := histB l && (wrTo l l.length).isSome
/-- One writer. -/
def OneW (l : List Call) : Prop := ∀ a ∈ l, ∀ b ∈ l, a.op = 2 → b.op = 2 → a.proc = b.proc
theorem getD_takeC {l : List Call} {n i : Nat} (h : i < n) : (l.take n).getD i default = l.getD i default := by
  rw [List.getD_eq_getElem?_getD, List.getD_eq_getElem?_getD, List.getElem?_take, if_pos h]
theorem wrTo_spec {l : List Call} (hp : ∀ a ∈ l, 0 ≤ a.proc) : ∀ n, n ≤ l.length →
    ((wrTo l n).isSome = true ↔ (∀ a ∈ l.take n, fit1 a = true) ∧ OneW (l.take n)) ∧ (∀ w, wrTo l n = some w → (w = -1 ∧ ∀ a ∈ l.take n, a.op ≠ 2) ∨ (0 ≤ w ∧ (∃ a ∈ l.take n, a.op = 2) ∧ ∀ a ∈ l.take n, a.op = 2 → a.proc = w))
  | 0, _ => ⟨⟨fun _ => ⟨fun a ha => by simp at ha, fun a ha => by simp at ha⟩, fun _ => rfl⟩, fun w hw => by
      rw [wrTo] at hw; cases hw; exact .inl ⟨rfl, fun a ha => by simp at ha⟩⟩
  | n + 1, hn => by
    have ih := wrTo_spec hp n (by omega)
    have hx : l.getD n default ∈ l := getD_memC (by omega)
    have he : l.take (n + 1) = l.take n ++ [l.getD n default] := by
      rw [List.take_succ_eq_append_getElem (show n < l.length by omega), List.getD_eq_getElem?_getD, List.getElem?_eq_getElem (show n < l.length by omega), Option.getD_some]
    have hpx := hp _ hx
    rw [he, wrTo]
    generalize l.getD n default = c at *
    generalize l.take n = t at *
    cases hw : wrTo l n with
    | none =>
      rw [hw] at ih
      refine ⟨⟨fun h => by simp at h, fun h => ?_⟩, fun w hw => by simp at hw⟩
      have h1 := ih.1.2 ⟨fun a ha => h.1 a (List.mem_append_left _ ha), fun a ha b hb => h.2 a (List.mem_append_left _ ha) b (List.mem_append_left _ hb)⟩
      simp at h1
    | some w =>
      rw [hw] at ih
      have h1 := ih.1.1 rfl
      have h2 := ih.2 w rfl
      rw [Option.bind_some, wrN]
      by_cases hf : fit1 c = true
      case neg =>
        rw [if_neg hf]
        exact ⟨⟨fun h => by simp at h, fun h => absurd (h.1 c (by simp)) hf⟩, fun w hw => by simp at hw⟩
      rw [if_pos hf]
      by_cases ho : c.op = 2
      case neg =>
        rw [if_neg ho]
        refine ⟨⟨fun _ => ⟨fun a ha => ?_, fun a ha b hb ha2 hb2 => ?_⟩, fun _ => rfl⟩, fun w' hw' => ?_⟩
        · rcases List.mem_append.1 ha with q | q
          · exact h1.1 a q
          · rw [List.mem_singleton] at q; subst q; exact hf
        · rcases List.mem_append.1 ha with q | q
          · rcases List.mem_append.1 hb with r | r
            · exact h1.2 a q b r ha2 hb2
            · rw [List.mem_singleton] at r; subst r; exact absurd hb2 ho
          · rw [List.mem_singleton] at q; subst q; exact absurd ha2 ho
        · cases hw'
          rcases h2 with ⟨q1, q2⟩ | ⟨q1, ⟨a, ha, ha2⟩, q3⟩
          · refine .inl ⟨q1, fun a ha => ?_⟩
            rcases List.mem_append.1 ha with q | q
            · exact q2 a q
            · rw [List.mem_singleton] at q; subst q; exact ho
          · refine .inr ⟨q1, ⟨a, List.mem_append_left _ ha, ha2⟩, fun b hb hb2 => ?_⟩
            rcases List.mem_append.1 hb with q | q
            · exact q3 b q hb2
            · rw [List.mem_singleton] at q; subst q; exact absurd hb2 ho
      rw [if_pos ho]
      by_cases hc : 0 ≤ w ∧ c.proc ≠ w
      · rw [if_pos hc]
        refine ⟨⟨fun h => by simp at h, fun h => ?_⟩, fun w hw => by simp at hw⟩
        rcases h2 with ⟨q1, q2⟩ | ⟨q1, ⟨a, ha, ha2⟩, q3⟩
        · omega
        · have := h.2 a (List.mem_append_left _ ha) c (by simp) ha2 ho
          have := q3 a ha ha2
          omega
      · rw [if_neg hc]
        have hall : ∀ a ∈ t, a.op = 2 → a.proc = c.proc := fun a ha ha2 => by
          rcases h2 with ⟨q1, q2⟩ | ⟨q1, _, q3⟩
          · exact absurd ha2 (q2 a ha)
          · have := q3 a ha ha2; omega
        have hall2 : ∀ a ∈ t ++ [c], a.op = 2 → a.proc = c.proc := fun a ha ha2 => by
          rcases List.mem_append.1 ha with q | q
          · exact hall a q ha2
          · rw [List.mem_singleton] at q; subst q; rfl
        refine ⟨⟨fun _ => ⟨fun a ha => ?_, fun a ha b hb ha2 hb2 => (hall2 a ha ha2).trans (hall2 b hb hb2).symm⟩, fun _ => rfl⟩, fun w' hw' => ?_⟩
        · rcases List.mem_append.1 ha with q | q
          · exact h1.1 a q
          · rw [List.mem_singleton] at q; subst q; exact hf
        · cases hw'
          exact .inr ⟨hpx, ⟨c, by simp, ho⟩, hall2⟩
/-- Calls that fit, told of all. -/
def FitP (l : List Call) : Prop := HR l ∧ (∀ a ∈ l, fit1 a = true) ∧ OneW l
theorem fits_iff {l : List Call} : fitsB l = true ↔ FitP l := by
  rw [fitsB, Bool.and_eq_true, hist_HR, FitP]
  constructor
  · intro ⟨h1, h2⟩
    have := (wrTo_spec (fun a ha => (ok_num (h1.1 a ha)).1) l.length (Nat.le_refl _)).1.1 h2
    rw [List.take_length] at this
    exact ⟨h1, this⟩
  · intro ⟨h1, h2⟩
    refine ⟨h1, (wrTo_spec (fun a ha => (ok_num (h1.1 a ha)).1) l.length (Nat.le_refl _)).1.2 ?_⟩
    rw [List.take_length]; exact h2
theorem FitP.sub {l r : List Call} (h : FitP l) (hs : r.Sublist l) : FitP r :=
  ⟨h.1.sub hs, fun a ha => h.2.1 a (hs.subset ha), fun a ha b hb => h.2.2 a (hs.subset ha) b (hs.subset hb)⟩
/-- The writes, and the reads that tell. -/
def isW (c : Call) : Bool := decide (c.op = 2)
def isR (c : Call) : Bool := decide (¬ c.op = 2 ∧ 0 ≤ c.fin ∧ c.code = 0)
def wrC (l : List Call) : List Call := (sortC l).filter isW
def rdC (l : List Call) : List Call := (sortC l).filter isR
def lowTo (ws : List Call) (r : Call) : Nat → Nat
  | 0 => 0
  | k + 1 => if befB (ws.getD k default) r = true then k + 1 else lowTo ws r k
def highTo (ws : List Call) (r : Call) : Nat → Nat
  | 0 => 0
  | k + 1 => if befB r (ws.getD k default) = true then highTo ws r k else k + 1
theorem lowTo_le (ws : List Call) (r : Call) : ∀ n, lowTo ws r n ≤ n
  | 0 => Nat.le_refl _
  | n + 1 => by have := lowTo_le ws r n; rw [lowTo]; split <;> omega
theorem highTo_le (ws : List Call) (r : Call) : ∀ n, highTo ws r n ≤ n
  | 0 => Nat.le_refl _
  | n + 1 => by have := highTo_le ws r n; rw [highTo]; split <;> omega
def recAt (init : List Int) (ws : List Call) (k : Nat) : List Int := if k = 0 then init else (ws.getD (k - 1) default).rc
def lowR (rs : List Call) (r : Call) (out : List Nat) (lo : Nat) : Nat → Nat
  | 0 => lo
  | k + 1 => if befB (rs.getD k default) r = true then max (lowR rs r out lo k) (out.getD k default) else lowR rs r out lo k
theorem lowR_iff {rs : List Call} {r : Call} {out : List Nat} {lo m : Nat} : ∀ n, lowR rs r out lo n ≤ m ↔ lo ≤ m ∧ ∀ j, j < n → befB (rs.getD j default) r = true → out.getD j default ≤ m
  | 0 => ⟨fun h => ⟨h, fun j hj => by omega⟩, fun h => h.1⟩
  | n + 1 => by
    have ih := lowR_iff (rs := rs) (r := r) (out := out) (lo := lo) (m := m) n
    rw [lowR]
    split
    · rename_i hb
      rw [Nat.max_le, ih]
      exact ⟨fun h => ⟨h.1.1, fun j hj hbj => (Nat.lt_or_eq_of_le (Nat.le_of_lt_succ hj)).elim (fun q => h.1.2 j q hbj) (fun q => by subst q; exact h.2)⟩, fun h => ⟨⟨h.1, fun j hj => h.2 j (by omega)⟩, h.2 n (by omega) hb⟩⟩
    · rename_i hb
      rw [ih]
      exact ⟨fun h => ⟨h.1, fun j hj hbj => (Nat.lt_or_eq_of_le (Nat.le_of_lt_succ hj)).elim (fun q => h.2 j q hbj) (fun q => by subst q; exact absurd hbj hb)⟩, fun h => ⟨h.1, fun j hj => h.2 j (by omega)⟩⟩
/-- The first of n numbers from lo on of which something is so. -/
def findQ (p : Nat → Bool) (lo : Nat) : Nat → Option Nat
  | 0 => none
  | n + 1 => if p lo = true then some lo else findQ p (lo + 1) n
theorem findQ_some {p : Nat → Bool} {k : Nat} : ∀ (n lo : Nat), findQ p lo n = some k ↔ lo ≤ k ∧ k < lo + n ∧ p k = true ∧ ∀ j, lo ≤ j → j < k → p j = false
  | 0, lo => ⟨fun h => (by cases h), fun h => (by omega)⟩
  | n + 1, lo => by
    rw [findQ]
    split
    · rename_i hp
      refine ⟨fun h => (by cases h; exact ⟨Nat.le_refl _, by omega, hp, fun j h1 h2 => by omega⟩), fun h => ?_⟩
      rcases Nat.lt_or_eq_of_le h.1 with q | q
      · have := h.2.2.2 lo (Nat.le_refl _) q; rw [hp] at this; cases this
      · rw [q]
    · rename_i hp
      rw [findQ_some n (lo + 1)]
      refine ⟨fun h => ⟨by omega, by omega, h.2.2.1, fun j h1 h2 => ?_⟩, fun h => ?_⟩
      · rcases Nat.lt_or_eq_of_le h1 with q | q
        · exact h.2.2.2 j q h2
        · subst q; simpa using hp
      · rcases Nat.lt_or_eq_of_le h.1 with q | q
        · exact ⟨q, by omega, h.2.2.1, fun j h1 h2 => h.2.2.2 j (by omega) h2⟩
        · subst q; exact absurd h.2.2.1 hp
theorem findQ_none {p : Nat → Bool} : ∀ (n lo : Nat), findQ p lo n = none ↔ ∀ j, lo ≤ j → j < lo + n → p j = false
  | 0, lo => ⟨fun _ j h1 h2 => by omega, fun _ => rfl⟩
  | n + 1, lo => by
    rw [findQ]
    split
    · rename_i hp
      exact ⟨fun h => (by cases h), fun h => by have := h lo (Nat.le_refl _) (by omega); rw [hp] at this; cases this⟩
    · rename_i hp
      rw [findQ_none n (lo + 1)]
      refine ⟨fun h j h1 h2 => ?_, fun h j h1 h2 => h j (by omega) (by omega)⟩
      rcases Nat.lt_or_eq_of_le h1 with q | q
      · exact h j q (by omega)
      · subst q; simpa using hp
def recQ (init : List Int) (ws : List Call) (r : Call) (k : Nat) : Bool := decide (recAt init ws k = r.rc)
def pickQ (init : List Int) (ws rs : List Call) (out : List Nat) (i : Nat) : Option Nat :=
  findQ (recQ init ws (rs.getD i default)) (lowR rs (rs.getD i default) out (lowTo ws (rs.getD i default) ws.length) i)
    (highTo ws (rs.getD i default) ws.length + 1 - lowR rs (rs.getD i default) out (lowTo ws (rs.getD i default) ws.length) i)
def asgTo (init : List Int) (ws rs : List Call) : Nat → Option (List Nat)
  | 0 => some []
  | i + 1 => (asgTo init ws rs i).bind fun out => (pickQ init ws rs out i).bind fun k => some (out ++ [k])
/-- Numbers of writes, of which all reads may tell together. -/
def Good (init : List Int) (ws rs : List Call) (n : Nat) (g : Nat → Nat) : Prop :=
  ∀ i, i < n → lowTo ws (rs.getD i default) ws.length ≤ g i ∧ g i ≤ highTo ws (rs.getD i default) ws.length ∧ recQ init ws (rs.getD i default) (g i) = true ∧ ∀ j, j < i → befB (rs.getD j default) (rs.getD i default) = true → g j ≤ g i
theorem asg_good {init : List Int} {ws rs : List Call} : ∀ (n : Nat) (out : List Nat), asgTo init ws rs n = some out → out.length = n ∧ Good init ws rs n (fun i => out.getD i default)
  | 0, out, h => by rw [asgTo] at h; cases h; exact ⟨rfl, fun i hi => by omega⟩
  | n + 1, out, h => by
    rw [asgTo] at h
    cases ho : asgTo init ws rs n with
    | none => rw [ho] at h; cases h
    | some o =>
      rw [ho, Option.bind_some] at h
      cases hk : pickQ init ws rs o n with
      | none => rw [hk] at h; cases h
      | some k =>
        rw [hk, Option.bind_some] at h
        cases h
        obtain ⟨ih1, ih2⟩ := asg_good n o ho
        have hs := (findQ_some _ _).1 hk
        have hq := (lowR_iff n).1 hs.1
        have hg : ∀ j, j < n → (o ++ [k]).getD j default = o.getD j default := fun j hj => by
          rw [List.getD_eq_getElem?_getD, List.getD_eq_getElem?_getD, List.getElem?_append, if_pos (by omega)]
        have hn : (o ++ [k]).getD n default = k := by
          rw [List.getD_eq_getElem?_getD, List.getElem?_append, if_neg (by omega), ih1, Nat.sub_self]; rfl
        refine ⟨by simp [ih1], fun i hi => ?_⟩
        dsimp only
        rcases Nat.lt_or_eq_of_le (Nat.le_of_lt_succ hi) with q | q
        · rw [hg i q]
          have := ih2 i q
          exact ⟨this.1, this.2.1, this.2.2.1, fun j hj hb => by rw [hg j (by omega)]; exact this.2.2.2 j hj hb⟩
        · subst q
          rw [hn]
          exact ⟨hq.1, by omega, hs.2.2.1, fun j hj hb => by rw [hg j hj]; exact hq.2 j hj hb⟩
theorem asg_min {init : List Int} {ws rs : List Call} {g : Nat → Nat} : ∀ (n : Nat), Good init ws rs n g → ∃ out, asgTo init ws rs n = some out ∧ out.length = n ∧ ∀ i, i < n → out.getD i default ≤ g i
  | 0, _ => ⟨[], rfl, rfl, fun i hi => by omega⟩
  | n + 1, h => by
    obtain ⟨o, ho, h1, h2⟩ := asg_min n (fun i hi => h i (by omega))
    have hg := h n (by omega)
    have hlow : lowR rs (rs.getD n default) o (lowTo ws (rs.getD n default) ws.length) n ≤ g n := (lowR_iff n).2 ⟨hg.1, fun j hj hb => Nat.le_trans (h2 j hj) (hg.2.2.2 j hj hb)⟩
    cases hk : pickQ init ws rs o n with
    | none =>
      have := (findQ_none _ _).1 hk (g n) hlow (by omega)
      rw [hg.2.2.1] at this; cases this
    | some k =>
      have hs := (findQ_some _ _).1 hk
      refine ⟨o ++ [k], by rw [asgTo, ho, Option.bind_some, hk, Option.bind_some], by simp [h1], fun i hi => ?_⟩
      rcases Nat.lt_or_eq_of_le (Nat.le_of_lt_succ hi) with q | q
      · rw [List.getD_eq_getElem?_getD, List.getElem?_append, if_pos (by omega), ← List.getD_eq_getElem?_getD]; exact h2 i q
      · subst q
        rw [List.getD_eq_getElem?_getD, List.getElem?_append, if_neg (by omega), h1, Nat.sub_self]
        show k ≤ g i
        rcases Nat.lt_or_ge (g i) k with r | r
        · have := hs.2.2.2 (g i) hlow r; rw [hg.2.2.1] at this; cases this
        · exact r
theorem asg_iff {init : List Int} {ws rs : List Call} {n : Nat} : (asgTo init ws rs n).isSome = true ↔ ∃ g, Good init ws rs n g := by
  constructor
  · intro h
    obtain ⟨out, ho⟩ := Option.isSome_iff_exists.1 h
    exact ⟨_, (asg_good n out ho).2⟩
  · intro ⟨g, hg⟩
    obtain ⟨out, ho, _⟩ := asg_min n hg
    rw [ho]; rfl
/-- The words: do they linearize? -/
def checkB (init : List Int) (l : List Call) : Bool := fitsB l && (asgTo init (wrC l) (rdC l) (rdC l).length).isSome
theorem good_less {init : List Int} {ws A B : List Call} {r : Call} {g : Nat → Nat} (h : Good init ws (A ++ r :: B) (A ++ r :: B).length g) : Good init ws (A ++ B) (A ++ B).length (fun i => if i < A.length then g i else g (i + 1)) := by
  have e1 : ∀ i, i < A.length → (A ++ B).getD i default = (A ++ r :: B).getD i default := fun i hi => by
    simp [List.getD_eq_getElem?_getD, List.getElem?_append, hi]
  have e2 : ∀ i, A.length ≤ i → (A ++ B).getD i default = (A ++ r :: B).getD (i + 1) default := fun i hi => by
    simp [List.getD_eq_getElem?_getD, List.getElem?_append, show ¬ i < A.length by omega, show ¬ i + 1 < A.length by omega, show i + 1 - A.length = (i - A.length) + 1 by omega]
  intro i hi
  rw [List.length_append] at hi
  have hl : (A ++ r :: B).length = A.length + B.length + 1 := by simp; omega
  dsimp only
  by_cases hi1 : i < A.length
  · rw [if_pos hi1, e1 i hi1]
    have h1 := h i (by omega)
    refine ⟨h1.1, h1.2.1, h1.2.2.1, fun j hj hb => ?_⟩
    rw [if_pos (show j < A.length by omega)]
    rw [e1 j (by omega)] at hb
    exact h1.2.2.2 j hj hb
  · rw [if_neg hi1, e2 i (by omega)]
    have h1 := h (i + 1) (by omega)
    refine ⟨h1.1, h1.2.1, h1.2.2.1, fun j hj hb => ?_⟩
    by_cases hj1 : j < A.length
    · rw [if_pos hj1]
      rw [e1 j hj1] at hb
      exact h1.2.2.2 j (by omega) hb
    · rw [if_neg hj1]
      rw [e2 j (by omega)] at hb
      exact h1.2.2.2 (j + 1) (by omega) hb
/-- Whatever read is left out, what linearizes still does. -/
theorem check_less {init : List Int} {A B : List Call} {r : Call} (hr : r.op ≠ 2) (h : checkB init (A ++ r :: B) = true) : checkB init (A ++ B) = true := by
  rw [checkB, Bool.and_eq_true, fits_iff, asg_iff] at h
  obtain ⟨hf, g, hg⟩ := h
  have hsub : (A ++ B).Sublist (A ++ r :: B) := (List.sublist_cons_self r B).append_left A
  have hf2 := hf.sub hsub
  rw [checkB, Bool.and_eq_true, fits_iff, asg_iff]
  refine ⟨hf2, ?_⟩
  obtain ⟨X, Y, hXY⟩ := List.append_of_mem ((sortC_perm (A ++ r :: B)).mem_iff.2 (by simp : r ∈ A ++ r :: B))
  have hs : sortC (A ++ B) = X ++ Y := by
    refine (sortC_eq hf2.1 ?_ ?_).symm
    · have h1 : (X ++ r :: Y).Perm (A ++ r :: B) := hXY ▸ sortC_perm _
      exact ((List.perm_middle.symm.trans h1).trans List.perm_middle).cons_inv
    · have h1 := sortC_srt (A ++ r :: B)
      rw [hXY] at h1
      exact h1.sublist ((List.sublist_cons_self r Y).append_left X)
  have hw : wrC (A ++ B) = wrC (A ++ r :: B) := by
    have : isW r = false := by rw [isW, decide_eq_false hr]
    rw [wrC, wrC, hs, hXY, List.filter_append, List.filter_append, List.filter_cons, this]; rfl
  rw [hw]
  rw [rdC, hXY, List.filter_append, List.filter_cons] at hg
  rw [rdC, hs, List.filter_append]
  split at hg
  · exact ⟨_, good_less hg⟩
  · exact ⟨g, hg⟩
end Go.Proofs.Ythmifkibfpcncaa
