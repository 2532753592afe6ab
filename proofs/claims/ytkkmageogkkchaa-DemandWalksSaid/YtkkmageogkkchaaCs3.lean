/- What walks through a program weigh: part by part, reckoned from behind, and from ahead; both are the same. No condition. -/
import Derived.Test.YtkkmageogkkchaaFlF
import Derived.Test.YtkkmageogkkchaaWd
import Derived.Test.YtkkmageogkkchaaAvI2
import Derived.Test.YtkkmageogkkchaaAvDrN
namespace Go.Proofs.Ytkkmageogkkchaa
set_option linter.unusedSimpArgs false
set_option linter.unusedVariables false
set_option maxRecDepth 100000
set_option linter.unusedSimpArgs false
set_option linter.unusedVariables false
set_option maxRecDepth 100000
open Go.RowKit
structure Way where
  thr : Int
  fin : Int
instance : Inhabited Way := ⟨⟨-1, -1⟩⟩
def moreI (a b : Int) : Int := if a < 0 ∨ b < 0 then -1 else addI a b
def oftI (n x : Int) : Int := if x < 0 then -1 else mulI n x
def bestI (bt : Int → Int → Int) (a b : Int) : Int := if a < 0 then b else if b < 0 then a else bt a b
def inQ (part s : Span) : Bool := decide (s ≠ part ∧ part.frm ≤ s.frm ∧ s.to ≤ part.to)
def outQ (pc : Int) (part s : Span) : Bool := decide (s ≠ part ∧ part.frm ≤ s.frm ∧ s.to ≤ part.to ∧ s.frm ≤ pc ∧ pc ≤ s.to)
def outL (L : List Span) (pc : Int) (part : Span) : Option Span := L.reverse.find? (outQ pc part)
def wAt (w : List Int) (pc : Nat) : Int := insI (w.getD pc default)
def edge (bt : Int → Int → Int) (v : Int) (at_ : List Way) (o : Way) (to : Int) : Way := ⟨bestI bt o.thr (moreI v (at_.getD to.toNat default).thr), bestI bt o.fin (moreI v (at_.getD to.toNat default).fin)⟩
def nodeW (bt : Int → Int → Int) (p : List Instr) (w : List Int) (at_ : List Way) (pc : Nat) : Way :=
  if (p.getD pc default).op = 21 then ⟨-1, wAt w pc⟩ else if (p.getD pc default).op = 16 then ⟨wAt w pc, -1⟩ else (nextL p pc).foldl (edge bt (wAt w pc) at_) ⟨-1, -1⟩
def rndW (bt : Int → Int → Int) (one on : Way) (turns : Int) : Way :=
  ⟨moreI (oftI (turns + 1) one.thr) on.thr, bestI bt (bestI bt one.fin (moreI (oftI turns one.thr) one.fin)) (moreI (oftI (turns + 1) one.thr) on.fin)⟩
def valW (bt : Int → Int → Int) (p : List Instr) (w : List Int) (L : List Span) (rec : Span → Way) (part : Span) (at_ : List Way) (pc : Nat) : Way :=
  match outL L pc part with
  | none => nodeW bt p w at_ pc
  | some s => if s.frm = pc then rndW bt (rec s) (at_.getD (s.to + 1).toNat default) (p.getD s.to.toNat default).c else ⟨-1, -1⟩
def atTo (bt : Int → Int → Int) (p : List Instr) (w : List Int) (L : List Span) (rec : Span → Way) (part : Span) : Nat → List Way
  | 0 => List.replicate (p.length + 1) ⟨-1, -1⟩
  | k + 1 => (atTo bt p w L rec part k).set (part.to - k).toNat (valW bt p w L rec part (atTo bt p w L rec part k) (part.to - k).toNat)
def sizeS (part : Span) : Nat := (part.to + 1 - part.frm).toNat
def partW (bt : Int → Int → Int) (p : List Instr) (w : List Int) (L : List Span) : Nat → Span → Way
  | 0, _ => ⟨-1, -1⟩
  | f + 1, part => (atTo bt p w L (partW bt p w L f) part (sizeS part)).getD part.frm.toNat default
/-- From ahead. -/
structure FW where
  at_ : List Int
  thr : Int
  fin : Int
def innL (l : List Span) (part : Span) : List Span := l.filter (inQ part)
def lstS (l : List Span) (pc : Int) : Span := l.foldl (fun o s => if s.frm = pc then s else o) ⟨-1, 0⟩
def push (sum : Int) (at_ : List Int) (to : Int) : List Int := at_.set to.toNat (max (at_.getD to.toNat default) sum)
def fLoop (x : FW) (pc : Nat) (one : Way) (t : Nat) (c : Int) : FW :=
  if 0 ≤ one.thr then
    { at_ := x.at_.set t (max (x.at_.getD t default) (moreI (x.at_.getD pc default) (mulI (c + 1) one.thr))), thr := x.thr,
      fin := max (max x.fin (moreI (moreI (x.at_.getD pc default) (mulI c one.thr)) one.fin)) (moreI (x.at_.getD pc default) one.fin) }
  else { x with fin := max x.fin (moreI (x.at_.getD pc default) one.fin) }
def fNode (x : FW) (p : List Instr) (w : List Int) (pc : Nat) : FW :=
  if (p.getD pc default).op = 21 then { x with fin := max x.fin (moreI (x.at_.getD pc default) (wAt w pc)) }
  else if (p.getD pc default).op = 16 then { x with thr := moreI (x.at_.getD pc default) (wAt w pc) }
  else { x with at_ := (nextL p pc).foldl (push (moreI (x.at_.getD pc default) (wAt w pc))) x.at_ }
def fStep (rec : List Span → Span → Way) (p : List Instr) (w : List Int) (l : List Span) (part : Span) (x : FW) (pc : Nat) : FW :=
  if x.at_.getD pc default < 0 then x else
  if 0 ≤ (lstS (innL l part) pc).frm then fLoop x pc (rec (innL l (lstS (innL l part) pc)) (lstS (innL l part) pc)) ((lstS (innL l part) pc).to + 1).toNat (p.getD (lstS (innL l part) pc).to.toNat default).c
  else fNode x p w pc
def fTo (rec : List Span → Span → Way) (p : List Instr) (w : List Int) (l : List Span) (part : Span) : Nat → FW
  | 0 => ⟨(List.replicate (p.length + 1) (-1)).set part.frm.toNat 0, -1, -1⟩
  | k + 1 => fStep rec p w l part (fTo rec p w l part k) (part.frm + k).toNat
def partR (p : List Instr) (w : List Int) : Nat → List Span → Span → Way
  | 0, _, _ => ⟨-1, -1⟩
  | f + 1, l, part => ⟨(fTo (partR p w f) p w l part (sizeS part)).thr, (fTo (partR p w f) p w l part (sizeS part)).fin⟩

/-! The numbers' laws. -/
def okI (a : Int) : Prop := -1 ≤ a ∧ a ≤ 1099511627776
def okW (x : Way) : Prop := okI x.thr ∧ okI x.fin
theorem more_ok (a b : Int) : okI (moreI a b) := by
  unfold moreI okI; split
  · omega
  · have := addB a b; omega
theorem more_neg {a b : Int} (h : a < 0 ∨ b < 0) : moreI a b = -1 := by rw [moreI, if_pos h]
theorem more_pos {a b : Int} (ha : 0 ≤ a) (hb : 0 ≤ b) : moreI a b = addI a b := by rw [moreI, if_neg (by omega)]
theorem more_assoc (a b c : Int) : moreI (moreI a b) c = moreI a (moreI b c) := by
  by_cases ha : a < 0
  · rw [more_neg (.inl ha), more_neg (.inl ha), more_neg (.inl (by omega))]
  by_cases hb : b < 0
  · rw [more_neg (.inr hb), more_neg (.inl hb), more_neg (.inl (by omega)), more_neg (.inr (by omega))]
  by_cases hc : c < 0
  · rw [more_neg (a := b) (.inr hc), more_neg (.inr hc), more_neg (.inr (by omega))]
  have h1 := addB a b
  have h2 := addB b c
  rw [more_pos (a := a) (b := b) (by omega) (by omega), more_pos (a := b) (b := c) (by omega) (by omega), more_pos (a := addI a b) (b := c) (by omega) (by omega), more_pos (a := a) (b := addI b c) (by omega) (by omega)]
  unfold addI insI at *; omega
theorem more_zero {a : Int} (h : okI a) : moreI 0 a = a := by
  unfold okI at h
  by_cases ha : a < 0
  · rw [more_neg (.inr ha)]; omega
  · rw [more_pos (by omega) (by omega)]; unfold addI insI; omega
theorem more_mono {a b c : Int} (h : a ≤ b) : moreI c a ≤ moreI c b := by
  have := more_ok c b
  unfold okI at this
  by_cases hc : c < 0
  · rw [more_neg (.inl hc), more_neg (.inl hc)]; omega
  by_cases ha : a < 0
  · rw [more_neg (.inr ha)]; omega
  · rw [more_pos (by omega) (by omega), more_pos (by omega) (by omega)]; unfold addI insI; omega
theorem more_max (a b c : Int) : moreI a (max b c) = max (moreI a b) (moreI a c) := by
  rcases Int.le_total b c with h | h
  · have := more_mono (c := a) h; rw [Int.max_eq_right h, Int.max_eq_right this]
  · have := more_mono (c := a) h; rw [Int.max_eq_left h, Int.max_eq_left this]
theorem more_comm (a b : Int) : moreI a b = moreI b a := by
  unfold moreI addI; rw [Int.add_comm]; by_cases h : a < 0 ∨ b < 0
  · rw [if_pos h, if_pos h.symm]
  · rw [if_neg h, if_neg (fun e => h e.symm)]
theorem best_le {a b y : Int} (hy : -1 ≤ y) : bestI max a b ≤ y ↔ a ≤ y ∧ b ≤ y := by
  unfold bestI; split
  · omega
  · split
    · omega
    · omega
theorem more_best_le {a b c y : Int} (hy : -1 ≤ y) : moreI a (bestI max b c) ≤ y ↔ moreI a b ≤ y ∧ moreI a c ≤ y := by
  have e : moreI a (bestI max b c) = moreI a (max b c) := by
    unfold bestI
    by_cases hb : b < 0
    · rw [if_pos hb]
      by_cases hc : c < 0
      · rw [more_neg (.inr hc), more_neg (.inr (by omega))]
      · rw [Int.max_eq_right (by omega)]
    · rw [if_neg hb]
      by_cases hc : c < 0
      · rw [if_pos hc, Int.max_eq_left (by omega)]
      · rw [if_neg hc]
  rw [e, more_max]; omega
theorem more_oft (a n x b : Int) (h : 0 ≤ x) : oftI n x = mulI n x := by rw [oftI, if_neg (by omega)]
theorem best_ok {bt : Int → Int → Int} (hbt : ∀ a b, okI a → okI b → okI (bt a b)) {a b : Int} (ha : okI a) (hb : okI b) : okI (bestI bt a b) := by
  unfold bestI; split
  · exact hb
  · split
    · exact ha
    · exact hbt a b ha hb
theorem max_ok (a b : Int) (ha : okI a) (hb : okI b) : okI (max a b) := by unfold okI at *; omega
theorem min_ok (a b : Int) (ha : okI a) (hb : okI b) : okI (min a b) := by unfold okI at *; omega
theorem wAt_ok (w : List Int) (pc : Nat) : 0 ≤ wAt w pc ∧ wAt w pc ≤ 1099511627776 := insB _
theorem none_ok : okW ⟨-1, -1⟩ := ⟨⟨by decide, by decide⟩, ⟨by decide, by decide⟩⟩
theorem edge_ok {bt : Int → Int → Int} (hbt : ∀ a b, okI a → okI b → okI (bt a b)) (v : Int) (at_ : List Way) : ∀ (l : List Int) (o : Way), okW o → okW (l.foldl (edge bt v at_) o)
  | [], o, h => h
  | t :: l, o, h => edge_ok hbt v at_ l _ ⟨best_ok hbt h.1 (more_ok _ _), best_ok hbt h.2 (more_ok _ _)⟩
theorem oft_ok (n x : Int) : okI (oftI n x) := by
  unfold oftI okI; split
  · omega
  · have := mulB n x; omega
theorem nodeW_ok {bt : Int → Int → Int} (hbt : ∀ a b, okI a → okI b → okI (bt a b)) (p : List Instr) (w : List Int) (at_ : List Way) (pc : Nat) : okW (nodeW bt p w at_ pc) := by
  have h := wAt_ok w pc
  have h' : okI (wAt w pc) := ⟨by omega, h.2⟩
  unfold nodeW; split
  · exact ⟨none_ok.1, h'⟩
  · split
    · exact ⟨h', none_ok.1⟩
    · exact edge_ok hbt _ _ _ _ none_ok
theorem valW_ok {bt : Int → Int → Int} (hbt : ∀ a b, okI a → okI b → okI (bt a b)) (p : List Instr) (w : List Int) (L : List Span) (rec : Span → Way) (hrec : ∀ s, okW (rec s)) (part : Span) (at_ : List Way) (pc : Nat) : okW (valW bt p w L rec part at_ pc) := by
  unfold valW; split
  · exact nodeW_ok hbt p w at_ pc
  · split
    · exact ⟨more_ok _ _, best_ok hbt (best_ok hbt (hrec _).2 (more_ok _ _)) (more_ok _ _)⟩
    · exact none_ok
theorem atTo_len (bt : Int → Int → Int) (p : List Instr) (w : List Int) (L : List Span) (rec : Span → Way) (part : Span) : ∀ k, (atTo bt p w L rec part k).length = p.length + 1
  | 0 => by simp [atTo]
  | k + 1 => by rw [atTo, List.length_set]; exact atTo_len bt p w L rec part k
theorem getD_setG {α : Type} {l : List α} {k j : Nat} {v d : α} : (l.set k v).getD j d = if k = j ∧ k < l.length then v else l.getD j d := by
  simp only [List.getD_eq_getElem?_getD, List.getElem?_set]
  by_cases h : k = j
  · subst h
    by_cases h2 : k < l.length
    · simp [h2]
    · simp [h2]
  · simp [h]
theorem getD_rep {α : Type} {n j : Nat} {v d : α} : (List.replicate n v).getD j d = if j < n then v else d := by
  rw [List.getD_eq_getElem?_getD, List.getElem?_replicate]; split <;> rfl
theorem atTo_ok {bt : Int → Int → Int} (hbt : ∀ a b, okI a → okI b → okI (bt a b)) (p : List Instr) (w : List Int) (L : List Span) (rec : Span → Way) (hrec : ∀ s, okW (rec s)) (part : Span) : ∀ k j, okW ((atTo bt p w L rec part k).getD j default)
  | 0, j => by
    rw [atTo, getD_rep]; split <;> exact none_ok
  | k + 1, j => by
    rw [atTo, getD_setG]; split
    · exact valW_ok hbt p w L rec hrec part _ _
    · exact atTo_ok hbt p w L rec hrec part k j
theorem partW_ok {bt : Int → Int → Int} (hbt : ∀ a b, okI a → okI b → okI (bt a b)) (p : List Instr) (w : List Int) (L : List Span) : ∀ f part, okW (partW bt p w L f part)
  | 0, part => none_ok
  | f + 1, part => atTo_ok hbt p w L _ (partW_ok hbt p w L f) part _ _

/-! Loops. -/
section
variable {p : List Instr}
/-- A loop's place among all. -/
theorem loop_at {s : Span} (h : s ∈ loopsL p) : ∃ k, k < (loopsL p).length ∧ (loopsL p).getD k default = s := getD_of h
theorem loop_sound (hf : FineP p) (hn : ∀ i, 0 ≤ (p.getD i default).n) {s : Span} (h : s ∈ loopsL p) : 0 ≤ s.frm ∧ s.frm < s.to ∧ s.to + 1 < p.length ∧ (p.getD s.to.toNat default).op = 16 ∧ (p.getD s.to.toNat default).n = s.frm := by
  obtain ⟨i, hi, h1, h2, h3⟩ := loops_mem h
  have h4 := leads_to hf hn hi (by omega) (by omega)
  have h5 := inner_lt hf hi (by omega)
  have h6 := hn i
  rw [h3]
  simp only [Int.toNat_natCast]
  exact ⟨by omega, by omega, by omega, h1, h2.symm⟩
/-- Loops that end at the same place are one. -/
theorem loop_same {s s' : Span} (h : s ∈ loopsL p) (h' : s' ∈ loopsL p) (he : s.to = s'.to) : s = s' := by
  obtain ⟨i, hi, h1, h2, h3⟩ := loops_mem h
  obtain ⟨j, hj, g1, g2, g3⟩ := loops_mem h'
  obtain rfl : i = j := by omega
  exact Span.ext_ ⟨by rw [h2, g2], he⟩
/-- Of two loops that end in order the first one lies within the other one, or ahead of it. -/
theorem loop_nest (hf : FineP p) {s s' : Span} (h : s ∈ loopsL p) (h' : s' ∈ loopsL p) (hlt : s.to < s'.to) : s'.frm ≤ s.frm ∨ s.to < s'.frm := by
  obtain ⟨j, hj, rfl⟩ := loop_at h
  obtain ⟨k, hk, rfl⟩ := loop_at h'
  have hjk : j < k := by
    rcases Nat.lt_trichotomy j k with q | q | q
    · exact q
    · subst q; omega
    · have := loops_lt q hj; omega
  have := no_over hf hjk hk
  omega
theorem edge_loop (hf : FineP p) (hn : ∀ i, 0 ≤ (p.getD i default).n) {i j : Nat} (hi : i < p.length) (hm : mayB p i j = true) {s : Span} (h : s ∈ loopsL p) :
    ((s.frm ≤ j ∧ j ≤ s.to) → ¬ (s.frm ≤ i ∧ i ≤ s.to) → (j : Int) = s.frm) ∧ ((s.frm ≤ i ∧ i ≤ s.to) → ¬ (s.frm ≤ j ∧ j ≤ s.to) → (i : Int) = s.to) := by
  obtain ⟨k, hk, rfl⟩ := loop_at h
  have h1 := ends_loop hf hn hi hm hk
  rw [hasB, hasB, decide_eq_true_eq, decide_eq_true_eq, decide_eq_false_iff_not, decide_eq_false_iff_not] at h1
  exact h1
/-- What a part is: a loop, or the whole. -/
def isPart (p : List Instr) (part : Span) : Prop := part ∈ loopsL p ∨ part = ⟨0, (p.length : Int) - 1⟩
theorem part_sound (hf : FineP p) (hn : ∀ i, 0 ≤ (p.getD i default).n) {part : Span} (h : isPart p part) : 0 ≤ part.frm ∧ part.frm ≤ part.to ∧ part.to < p.length := by
  have hpos := hf.pos
  rcases h with h | rfl
  · have := loop_sound hf hn h; omega
  · simp only; omega
/-- A loop within a part ends ahead of the part's end. -/
theorem in_part (hf : FineP p) (hn : ∀ i, 0 ≤ (p.getD i default).n) {part s : Span} (h : isPart p part) (hs : s ∈ loopsL p) (hq : inQ part s = true) : part.frm ≤ s.frm ∧ s.to < part.to := by
  rw [inQ, decide_eq_true_eq] at hq
  have h2 := loop_sound hf hn hs
  refine ⟨hq.2.1, ?_⟩
  rcases Int.lt_or_eq_of_le hq.2.2 with h3 | h3
  · exact h3
  · rcases h with h | rfl
    · exact absurd (loop_same hs h h3) hq.1
    · simp only at h3; omega
theorem outQ_iff {pc : Int} {part s : Span} : outQ pc part s = true ↔ inQ part s = true ∧ s.frm ≤ pc ∧ pc ≤ s.to := by
  rw [outQ, inQ, decide_eq_true_eq, decide_eq_true_eq]
  constructor
  · rintro ⟨a, b, c, d, e⟩; exact ⟨⟨a, b, c⟩, d, e⟩
  · rintro ⟨⟨a, b, c⟩, d, e⟩; exact ⟨a, b, c, d, e⟩
theorem outL_none {pc : Int} {part : Span} : outL (loopsL p) pc part = none ↔ ∀ s ∈ loopsL p, inQ part s = true → ¬ (s.frm ≤ pc ∧ pc ≤ s.to) := by
  rw [outL, List.find?_eq_none]
  constructor
  · intro h s hs hq hc
    exact h s (List.mem_reverse.2 hs) (outQ_iff.2 ⟨hq, hc⟩)
  · intro h s hs hq
    obtain ⟨a, b⟩ := outQ_iff.1 hq
    exact h s (List.mem_reverse.1 hs) a b
/-- What is found from behind ends last. -/
theorem find_last : ∀ (l : List Span), l.Pairwise (fun a b => b.to < a.to) → ∀ (q : Span → Bool) (s : Span), l.find? q = some s ↔ s ∈ l ∧ q s = true ∧ ∀ x ∈ l, q x = true → x.to ≤ s.to
  | [], _, q, s => by simp
  | a :: l, h, q, s => by
    rw [List.pairwise_cons] at h
    rw [List.find?_cons]
    by_cases hq : q a = true
    · rw [hq]
      simp only [Option.some.injEq]
      constructor
      · rintro rfl
        refine ⟨List.mem_cons_self, hq, fun x hx _ => ?_⟩
        rcases List.mem_cons.1 hx with rfl | hx
        · exact Int.le_refl _
        · exact Int.le_of_lt (h.1 x hx)
      · rintro ⟨h1, h2, h3⟩
        rcases List.mem_cons.1 h1 with rfl | h1
        · rfl
        · have := h.1 s h1
          have := h3 a List.mem_cons_self hq
          omega
    · rw [Bool.not_eq_true] at hq
      rw [hq]
      simp only
      rw [find_last l h.2 q s]
      constructor
      · rintro ⟨h1, h2, h3⟩
        refine ⟨List.mem_cons_of_mem _ h1, h2, fun x hx hqx => ?_⟩
        rcases List.mem_cons.1 hx with rfl | hx
        · rw [hq] at hqx; cases hqx
        · exact h3 x hx hqx
      · rintro ⟨h1, h2, h3⟩
        rcases List.mem_cons.1 h1 with rfl | h1
        · rw [hq] at h2; cases h2
        · exact ⟨h1, h2, fun x hx => h3 x (List.mem_cons_of_mem _ hx)⟩
theorem rev_inc : (loopsL p).reverse.Pairwise (fun a b => b.to < a.to) := by
  rw [List.pairwise_reverse]; exact loops_inc
theorem outL_some {pc : Int} {part s : Span} : outL (loopsL p) pc part = some s ↔ s ∈ loopsL p ∧ (inQ part s = true ∧ s.frm ≤ pc ∧ pc ≤ s.to) ∧ ∀ x ∈ loopsL p, inQ part x = true → x.frm ≤ pc → pc ≤ x.to → x.to ≤ s.to := by
  rw [outL, find_last _ rev_inc, List.mem_reverse, outQ_iff]
  constructor
  · rintro ⟨h1, h2, h3⟩
    exact ⟨h1, h2, fun x hx hq a b => h3 x (List.mem_reverse.2 hx) (outQ_iff.2 ⟨hq, a, b⟩)⟩
  · rintro ⟨h1, h2, h3⟩
    exact ⟨h1, h2, fun x hx hq => by obtain ⟨a, b, c⟩ := outQ_iff.1 hq; exact h3 x (List.mem_reverse.1 hx) a b c⟩
theorem lst_fold : ∀ (l : List Span) (pc : Int) (o : Span), l.foldl (fun o s => if s.frm = pc then s else o) o = (l.reverse.find? fun s => decide (s.frm = pc)).getD o
  | [], pc, o => rfl
  | a :: l, pc, o => by
    rw [List.foldl_cons, lst_fold l pc, List.reverse_cons, List.find?_append]
    cases hq : l.reverse.find? fun s => decide (s.frm = pc) with
    | some x => rfl
    | none =>
      by_cases h : a.frm = pc
      · simp [h, List.find?_cons]
      · simp [h, List.find?_cons]
theorem lst_eq (part : Span) (pc : Int) : lstS (innL (loopsL p) part) pc = ((loopsL p).reverse.find? fun s => inQ part s && decide (s.frm = pc)).getD ⟨-1, 0⟩ := by
  rw [lstS, lst_fold, innL, ← List.filter_reverse, List.find?_filter]
  congr 2
  funext a
  rw [Bool.eq_iff_iff]; simp
theorem inn_inn (l : List Span) (part s : Span) (h : inQ part s = true) : innL (innL l part) s = innL l s := by
  rw [innL, innL, innL, List.filter_filter]
  refine List.filter_congr fun x hx => ?_
  cases hq : inQ s x with
  | false => rw [Bool.false_and]
  | true =>
    rw [Bool.true_and]
    rw [inQ, decide_eq_true_eq] at hq h ⊢
    refine ⟨fun e => ?_, by omega, by omega⟩
    subst e
    exact h.1 (Span.ext_ ⟨by omega, by omega⟩)
end
/-! What is reckoned from behind. -/
section
variable {p : List Instr}
theorem next_up (hf : FineP p) (hn : ∀ i, 0 ≤ (p.getD i default).n) {i : Nat} (hi : i < p.length) (h : (p.getD i default).op ≠ 16) {x : Int} (hx : x ∈ nextL p i) : ∃ j : Nat, x = j ∧ i < j ∧ j < p.length ∧ mayB p i j = true := by
  obtain ⟨j, h1, h2, h3⟩ := (next_iff hf hn hi).1 hx
  have h4 := ends_ne hf hn hi h3
  refine ⟨j, h1, ?_, h2, h3⟩
  rcases Nat.lt_trichotomy i j with q | q | q
  · exact q
  · exact absurd q.symm h4.1
  · exact absurd (h4.2 q) h
theorem edge_congr {bt : Int → Int → Int} {v : Int} {a b : List Way} : ∀ (l : List Int) (o : Way), (∀ x ∈ l, a.getD x.toNat default = b.getD x.toNat default) → l.foldl (edge bt v a) o = l.foldl (edge bt v b) o
  | [], o, h => rfl
  | t :: l, o, h => by
    rw [List.foldl_cons, List.foldl_cons, edge, edge, h t List.mem_cons_self]
    exact edge_congr l _ fun x hx => h x (List.mem_cons_of_mem _ hx)
theorem valW_congr {bt : Int → Int → Int} {w : List Int} {rec : Span → Way} {part : Span} (hf : FineP p) (hn : ∀ i, 0 ≤ (p.getD i default).n) {a b : List Way} {pc : Nat} (hpc : pc < p.length) (h : ∀ q : Nat, pc < q → a.getD q default = b.getD q default) :
    valW bt p w (loopsL p) rec part a pc = valW bt p w (loopsL p) rec part b pc := by
  unfold valW
  cases ho : outL (loopsL p) pc part with
  | none =>
    simp only
    unfold nodeW
    split
    · rfl
    · split
      · rfl
      · rename_i h16
        exact edge_congr _ _ fun x hx => by
          obtain ⟨j, rfl, h1, _, _⟩ := next_up hf hn hpc h16 hx
          exact h _ (by simpa using h1)
  | some s =>
    simp only
    split
    · obtain ⟨h1, ⟨_, _, h2⟩, _⟩ := outL_some.1 ho
      have := loop_sound hf hn h1
      rw [h _ (by omega)]
    · rfl
section
variable {bt : Int → Int → Int} {w : List Int} {rec : Span → Way} {part : Span}
theorem atTo_keep (h0 : 0 ≤ part.frm) {k : Nat} {q : Nat} (hq : part.to - k < q) : ∀ (m : Nat), k ≤ m → (m : Int) ≤ part.to + 1 → (atTo bt p w (loopsL p) rec part m).getD q default = (atTo bt p w (loopsL p) rec part k).getD q default
  | 0, h, _ => by rw [show k = 0 by omega]
  | m + 1, h, hm => by
    rcases Nat.lt_or_ge m k with h1 | h1
    · rw [show k = m + 1 by omega]
    · rw [atTo, getD_setG, if_neg (by omega)]
      exact atTo_keep h0 hq m h1 (by omega)
theorem back_no (h0 : 0 ≤ part.frm) {q : Nat} (hq : part.to < q) (m : Nat) (hm : (m : Int) ≤ part.to + 1) : (atTo bt p w (loopsL p) rec part m).getD q default = ⟨-1, -1⟩ := by
  rw [atTo_keep h0 (k := 0) (by omega) m (Nat.zero_le _) hm, atTo, getD_rep]
  split <;> rfl
theorem back_eq (hf : FineP p) (hn : ∀ i, 0 ≤ (p.getD i default).n) (hp : isPart p part) {pc : Nat} (h1 : part.frm ≤ pc) (h2 : (pc : Int) ≤ part.to) :
    (atTo bt p w (loopsL p) rec part (sizeS part)).getD pc default = valW bt p w (loopsL p) rec part (atTo bt p w (loopsL p) rec part (sizeS part)) pc := by
  have hs := part_sound hf hn hp
  obtain ⟨j, hj⟩ : ∃ j : Nat, (j : Int) = part.to - pc := ⟨(part.to - pc).toNat, by omega⟩
  have e : (part.to - j).toNat = pc := by omega
  have hsz : (sizeS part : Int) = part.to + 1 - part.frm := by unfold sizeS; omega
  rw [atTo_keep (k := j + 1) hs.1 (by omega) (sizeS part) (by omega) (by omega), atTo, e, getD_setG, if_pos ⟨rfl, by rw [atTo_len]; omega⟩]
  refine valW_congr hf hn (by omega) fun q hq => ?_
  rw [atTo_keep (k := j) hs.1 (by omega) (sizeS part) (by omega) (by omega)]
end
/-! What is reckoned from ahead. -/
def UQ (N : Nat) (o : Int) (at_ : List Int) (h : Nat → Int) (pc : Nat) (y : Int) : Prop := o ≤ y ∧ ∀ q, pc ≤ q → q ≤ N → moreI (at_.getD q default) (h q) ≤ y
section
variable {N : Nat} {o : Int} {at_ : List Int} {h : Nat → Int} {pc : Nat} {y : Int}
theorem U_split (hpc : pc ≤ N) : UQ N o at_ h pc y ↔ moreI (at_.getD pc default) (h pc) ≤ y ∧ UQ N o at_ h (pc + 1) y := by
  constructor
  · rintro ⟨a, b⟩
    exact ⟨b pc (Nat.le_refl _) hpc, a, fun q h1 h2 => b q (by omega) h2⟩
  · rintro ⟨a, b, c⟩
    refine ⟨b, fun q h1 h2 => ?_⟩
    rcases Nat.lt_or_eq_of_le h1 with h3 | h3
    · exact c q (by omega) h2
    · subst h3; exact a
theorem U_out {v : Int} : UQ N (max o v) at_ h pc y ↔ UQ N o at_ h pc y ∧ v ≤ y := by
  unfold UQ
  constructor
  · rintro ⟨a, b⟩; exact ⟨⟨by omega, b⟩, by omega⟩
  · rintro ⟨⟨a, b⟩, c⟩; exact ⟨by omega, b⟩
theorem U_set {t : Nat} {v : Int} (hl : at_.length = N + 1) (ht : t ≤ N) (hpc : pc ≤ t) : UQ N o (at_.set t (max (at_.getD t default) v)) h pc y ↔ UQ N o at_ h pc y ∧ moreI v (h t) ≤ y := by
  have e : ∀ q, (at_.set t (max (at_.getD t default) v)).getD q default = if t = q then max (at_.getD t default) v else at_.getD q default := fun q => by
    rw [getD_setG]
    by_cases hq : t = q
    · rw [if_pos ⟨hq, by omega⟩, if_pos hq]
    · rw [if_neg (fun hh => hq hh.1), if_neg hq]
  have m : ∀ a b c, moreI (max a b) c = max (moreI a c) (moreI b c) := fun a b c => by rw [more_comm, more_max, more_comm c a, more_comm c b]
  unfold UQ
  constructor
  · rintro ⟨a, b⟩
    have b1 := b t hpc ht
    rw [e, if_pos rfl, m] at b1
    refine ⟨⟨a, fun q h1 h2 => ?_⟩, by omega⟩
    by_cases hq : t = q
    · subst hq; omega
    · have b2 := b q h1 h2
      rw [e, if_neg hq] at b2
      exact b2
  · rintro ⟨⟨a, b⟩, c⟩
    refine ⟨a, fun q h1 h2 => ?_⟩
    rw [e]
    have := b q h1 h2
    split
    · rename_i hq; subst hq; rw [m]; omega
    · exact this
theorem push_len (sum : Int) : ∀ (l : List Int) (at_ : List Int), (l.foldl (push sum) at_).length = at_.length
  | [], _ => rfl
  | t :: l, at_ => by rw [List.foldl_cons, push_len sum l, push, List.length_set]
theorem push_other (sum : Int) {q : Nat} : ∀ (l : List Int) (at_ : List Int), (∀ x ∈ l, x.toNat ≠ q) → (l.foldl (push sum) at_).getD q default = at_.getD q default
  | [], _, _ => rfl
  | t :: l, at_, hq => by
    rw [List.foldl_cons, push_other sum l _ (fun x hx => hq x (List.mem_cons_of_mem _ hx)), push, getD_setG, if_neg (fun e => hq t List.mem_cons_self e.1)]
theorem U_fold (sum : Int) : ∀ (l : List Int) (at_ : List Int), at_.length = N + 1 → (∀ x ∈ l, pc ≤ x.toNat ∧ x.toNat ≤ N) → (UQ N o (l.foldl (push sum) at_) h pc y ↔ UQ N o at_ h pc y ∧ ∀ x ∈ l, moreI sum (h x.toNat) ≤ y)
  | [], at_, _, _ => by simp
  | t :: l, at_, hl, hx => by
    have ht := hx t List.mem_cons_self
    rw [List.foldl_cons, U_fold sum l _ (by rw [push, List.length_set]; exact hl) (fun x hm => hx x (List.mem_cons_of_mem _ hm)), push, U_set hl ht.2 ht.1]
    constructor
    · rintro ⟨⟨a, b⟩, c⟩
      refine ⟨a, fun x hm => ?_⟩
      rcases List.mem_cons.1 hm with rfl | hm
      · exact b
      · exact c x hm
    · rintro ⟨a, b⟩
      exact ⟨⟨a, b t List.mem_cons_self⟩, fun x hm => b x (List.mem_cons_of_mem _ hm)⟩
end
theorem fold_fin (a v : Int) (G : List Way) {y : Int} (hy : -1 ≤ y) : ∀ (l : List Int) (o : Way), moreI a (l.foldl (edge max v G) o).fin ≤ y ↔ moreI a o.fin ≤ y ∧ ∀ x ∈ l, moreI (moreI a v) (G.getD x.toNat default).fin ≤ y
  | [], o => by simp
  | t :: l, o => by
    rw [List.foldl_cons, fold_fin a v G hy l, edge]
    simp only
    rw [more_best_le hy]
    constructor
    · rintro ⟨⟨h1, h2⟩, h3⟩
      refine ⟨h1, fun x hm => ?_⟩
      rcases List.mem_cons.1 hm with rfl | hm
      · rw [more_assoc]; exact h2
      · exact h3 x hm
    · rintro ⟨h1, h2⟩
      have := h2 t List.mem_cons_self
      rw [more_assoc] at this
      exact ⟨⟨h1, this⟩, fun x hm => h2 x (List.mem_cons_of_mem _ hm)⟩
theorem fold_thr (a v : Int) (G : List Way) {y : Int} (hy : -1 ≤ y) : ∀ (l : List Int) (o : Way), moreI a (l.foldl (edge max v G) o).thr ≤ y ↔ moreI a o.thr ≤ y ∧ ∀ x ∈ l, moreI (moreI a v) (G.getD x.toNat default).thr ≤ y
  | [], o => by simp
  | t :: l, o => by
    rw [List.foldl_cons, fold_thr a v G hy l, edge]
    simp only
    rw [more_best_le hy]
    constructor
    · rintro ⟨⟨h1, h2⟩, h3⟩
      refine ⟨h1, fun x hm => ?_⟩
      rcases List.mem_cons.1 hm with rfl | hm
      · rw [more_assoc]; exact h2
      · exact h3 x hm
    · rintro ⟨h1, h2⟩
      have := h2 t List.mem_cons_self
      rw [more_assoc] at this
      exact ⟨⟨h1, this⟩, fun x hm => h2 x (List.mem_cons_of_mem _ hm)⟩
/-- A place that lies in a loop, but is not its first one. -/
def deep (p : List Instr) (part : Span) (q : Nat) : Prop := ∃ s, outL (loopsL p) q part = some s ∧ s.frm ≠ q
structure FInv (p : List Instr) (part : Span) (g : Nat → Way) (pc : Nat) (x : FW) : Prop where
  len : x.at_.length = p.length + 1
  z : ∀ q : Nat, pc ≤ q → deep p part q → x.at_.getD q default = -1
  t0 : (pc : Int) ≤ part.to → x.thr = -1
  ge : -1 ≤ x.thr ∧ -1 ≤ x.fin
  ft : ∀ y, -1 ≤ y → (UQ p.length x.thr x.at_ (fun q => (g q).thr) pc y ↔ (g part.frm.toNat).thr ≤ y)
  ff : ∀ y, -1 ≤ y → (UQ p.length x.fin x.at_ (fun q => (g q).fin) pc y ↔ (g part.frm.toNat).fin ≤ y)
theorem f_start (hf : FineP p) (hn : ∀ i, 0 ≤ (p.getD i default).n) {part : Span} (hp : isPart p part) {g : Nat → Way} (hg : ∀ q, okW (g q)) :
    FInv p part g part.frm.toNat ⟨(List.replicate (p.length + 1) (-1)).set part.frm.toNat 0, -1, -1⟩ := by
  have hs := part_sound hf hn hp
  have e : ∀ q, q ≤ p.length → ((List.replicate (p.length + 1) (-1 : Int)).set part.frm.toNat 0).getD q default = if part.frm.toNat = q then 0 else -1 := fun q hq => by
    rw [getD_setG, getD_rep]
    by_cases h : part.frm.toNat = q
    · rw [if_pos ⟨h, by simp; omega⟩, if_pos h]
    · rw [if_neg (fun hh => h hh.1), if_pos (by omega), if_neg h]
  have key : ∀ (sel : Way → Int), okI (sel (g part.frm.toNat)) → ∀ y, -1 ≤ y → (UQ p.length (-1) ((List.replicate (p.length + 1) (-1 : Int)).set part.frm.toNat 0) (fun q => sel (g q)) part.frm.toNat y ↔ sel (g part.frm.toNat) ≤ y) := fun sel hok y hy => by
    constructor
    · rintro ⟨_, h⟩
      have h1 := h part.frm.toNat (Nat.le_refl _) (by omega)
      rw [e _ (by omega), if_pos rfl, more_zero hok] at h1
      exact h1
    · intro h
      refine ⟨hy, fun q h1 h2 => ?_⟩
      rw [e q h2]
      split
      · rename_i hq; rw [← hq, more_zero hok]; exact h
      · rw [more_neg (.inl (by decide))]; exact hy
  refine ⟨by simp, fun q hq ⟨s, h1, h2⟩ => ?_, fun _ => rfl, ⟨Int.le_refl _, Int.le_refl _⟩, key Way.thr (hg _).1, key Way.fin (hg _).2⟩
  obtain ⟨h3, ⟨h4, h5, h6⟩, _⟩ := outL_some.1 h1
  have h7 := loop_sound hf hn h3
  have h8 := in_part hf hn hp h3 h4
  rw [e q (by omega), if_neg (fun hh => ?_)]
  omega
theorem f_step (hf : FineP p) (hn : ∀ i, 0 ≤ (p.getD i default).n) {w : List Int} {part : Span} (hp : isPart p part) {rec : Span → Way} {G : List Way} (hG : ∀ pc : Nat, part.frm ≤ pc → (pc : Int) ≤ part.to → G.getD pc default = valW max p w (loopsL p) rec part G pc)
    {recR : List Span → Span → Way} {l : List Span} (hl : innL l part = innL (loopsL p) part) (hrec : ∀ s ∈ loopsL p, inQ part s = true → recR (innL l s) s = rec s)
    {pc : Nat} {x : FW} (h1 : part.frm ≤ pc) (h2 : (pc : Int) ≤ part.to) (h : FInv p part (fun q => G.getD q default) pc x) :
    FInv p part (fun q => G.getD q default) (pc + 1) (fStep recR p w l part x pc) := by
  have hs := part_sound hf hn hp
  have hN : pc ≤ p.length := by omega
  have hpl : pc < p.length := by omega
  have hg := hG pc h1 h2
  have h0 := h.t0 h2
  unfold fStep
  by_cases ha : x.at_.getD pc default < 0
  · rw [if_pos ha]
    refine ⟨h.len, fun q hq => h.z q (by omega), fun hh => h.t0 (by omega), h.ge, fun y hy => ?_, fun y hy => ?_⟩
    · rw [← h.ft y hy, U_split hN (pc := pc), more_neg (.inl ha)]
      exact ⟨fun a => ⟨hy, a⟩, fun a => a.2⟩
    · rw [← h.ff y hy, U_split hN (pc := pc), more_neg (.inl ha)]
      exact ⟨fun a => ⟨hy, a⟩, fun a => a.2⟩
  rw [if_neg ha, hl, lst_eq]
  cases ho : outL (loopsL p) pc part with
  | none =>
    have hno := outL_none.1 ho
    have e1 : ((loopsL p).reverse.find? fun s => inQ part s && decide (s.frm = (pc : Int))) = none := List.find?_eq_none.2 fun s hm hq => by
      rw [Bool.and_eq_true, decide_eq_true_eq] at hq
      have h3 := List.mem_reverse.1 hm
      have h4 := loop_sound hf hn h3
      exact hno s h3 hq.1 ⟨by omega, by omega⟩
    rw [e1, Option.getD_none, if_neg (by simp)]
    have hg2 : G.getD pc default = nodeW max p w G pc := by rw [hg, valW, ho]
    unfold nodeW at hg2
    unfold fNode
    by_cases h21 : (p.getD pc default).op = 21
    · rw [if_pos h21] at hg2 ⊢
      refine ⟨h.len, fun q hq => h.z q (by omega), fun hh => h.t0 (by omega), ⟨h.ge.1, by simp only; have := h.ge.2; omega⟩, fun y hy => ?_, fun y hy => ?_⟩
      · rw [← h.ft y hy, U_split hN (pc := pc)]
        simp only [hg2]
        rw [more_neg (.inr (by decide))]
        exact ⟨fun a => ⟨hy, a⟩, fun a => a.2⟩
      · rw [← h.ff y hy, U_split hN (pc := pc), U_out]
        simp only [hg2]
        exact And.comm
    · rw [if_neg h21] at hg2 ⊢
      by_cases h16 : (p.getD pc default).op = 16
      · rw [if_pos h16] at hg2 ⊢
        have hT : (pc : Int) = part.to := by
          have hm : (⟨(p.getD pc default).n, pc⟩ : Span) ∈ loopsL p := by
            rw [loopsL, loopsTo, List.mem_map]
            exact ⟨pc, List.mem_filter.2 ⟨List.mem_range.2 hpl, decide_eq_true h16⟩, rfl⟩
          have h3 := loop_sound hf hn hm
          simp only at h3
          rcases Int.lt_or_eq_of_le h2 with h4 | h4
          · exfalso
            refine hno _ hm ?_ ⟨by simp only; omega, by simp only; omega⟩
            rw [inQ, decide_eq_true_eq]
            refine ⟨fun e => ?_, ?_, by simp only; omega⟩
            · rw [← e] at h4; simp only at h4; omega
            · rcases hp with hp | rfl
              · have := loop_nest hf hm hp h4
                simp only at this ⊢
                omega
              · simp only; omega
          · exact h4
        refine ⟨h.len, fun q hq => h.z q (by omega), fun hh => by omega, ⟨(more_ok _ _).1, h.ge.2⟩, fun y hy => ?_, fun y hy => ?_⟩
        · rw [← h.ft y hy, U_split hN (pc := pc)]
          simp only [hg2, h0]
          unfold UQ
          exact ⟨fun a => ⟨a.1, hy, a.2⟩, fun a => ⟨a.1, a.2.2⟩⟩
        · rw [← h.ff y hy, U_split hN (pc := pc)]
          simp only [hg2]
          rw [more_neg (.inr (by decide))]
          exact ⟨fun a => ⟨hy, a⟩, fun a => a.2⟩
      · rw [if_neg h16] at hg2 ⊢
        have hup : ∀ x ∈ nextL p pc, pc + 1 ≤ x.toNat ∧ x.toNat ≤ p.length := fun x hx => by
          obtain ⟨j, rfl, q1, q2, _⟩ := next_up hf hn hpl h16 hx
          rw [Int.toNat_natCast]; omega
        refine ⟨by simp only; rw [push_len]; exact h.len, fun q hq hd => ?_, fun hh => h.t0 (by omega), h.ge, fun y hy => ?_, fun y hy => ?_⟩
        · simp only
          rw [push_other _ _ _ (fun x hx e => ?_)]
          · exact h.z q (by omega) hd
          · obtain ⟨j, rfl, q1, q2, q3⟩ := next_up hf hn hpl h16 hx
            rw [Int.toNat_natCast] at e
            subst e
            obtain ⟨s, s1, s2⟩ := hd
            obtain ⟨s3, ⟨s4, s5, s6⟩, _⟩ := outL_some.1 s1
            have := (edge_loop hf hn hpl q3 s3).1 ⟨s5, s6⟩ (hno s s3 s4)
            exact s2 this.symm
        · rw [← h.ft y hy, U_split hN (pc := pc), U_fold _ _ _ h.len hup]
          simp only [hg2]
          rw [fold_thr _ _ _ hy, more_neg (b := -1) (.inr (by decide))]
          exact ⟨fun a => ⟨⟨hy, a.2⟩, a.1⟩, fun a => ⟨a.2, a.1.2⟩⟩
        · rw [← h.ff y hy, U_split hN (pc := pc), U_fold _ _ _ h.len hup]
          simp only [hg2]
          rw [fold_fin _ _ _ hy, more_neg (b := -1) (.inr (by decide))]
          exact ⟨fun a => ⟨⟨hy, a.2⟩, a.1⟩, fun a => ⟨a.2, a.1.2⟩⟩
  | some s =>
    have hsp : s.frm = pc := by
      rcases Int.lt_trichotomy s.frm pc with q | q | q
      · exact absurd (h.z pc (Nat.le_refl _) ⟨s, ho, by omega⟩) (by omega)
      · exact q
      · exact absurd (h.z pc (Nat.le_refl _) ⟨s, ho, by omega⟩) (by omega)
    obtain ⟨s1, ⟨s2, s3, s4⟩, s5⟩ := outL_some.1 ho
    have e1 : ((loopsL p).reverse.find? fun s => inQ part s && decide (s.frm = (pc : Int))) = some s := by
      rw [find_last _ rev_inc, List.mem_reverse, Bool.and_eq_true, decide_eq_true_eq]
      refine ⟨s1, ⟨s2, hsp⟩, fun x hx hq => ?_⟩
      rw [Bool.and_eq_true, decide_eq_true_eq] at hq
      have h3 := List.mem_reverse.1 hx
      have h4 := loop_sound hf hn h3
      exact s5 x h3 hq.1 (by omega) (by omega)
    have hso := loop_sound hf hn s1
    have hin := in_part hf hn hp s1 s2
    rw [e1, Option.getD_some, if_pos (by omega), hrec s s1 s2]
    have hg2 : G.getD pc default = rndW max (rec s) (G.getD (s.to + 1).toNat default) (p.getD s.to.toNat default).c := by rw [hg, valW, ho]; simp only; rw [if_pos hsp]
    generalize rec s = one at *
    generalize (p.getD s.to.toNat default).c = c at *
    obtain ⟨t, ht⟩ : ∃ t : Nat, (t : Int) = s.to + 1 := ⟨(s.to + 1).toNat, by omega⟩
    rw [show (s.to + 1).toNat = t by omega] at hg2 ⊢
    have htN : t ≤ p.length := by omega
    have htp : pc + 1 ≤ t := by omega
    unfold rndW at hg2
    unfold fLoop
    have hzt : ∀ q : Nat, pc + 1 ≤ q → deep p part q → q ≠ t := fun q hq ⟨s', d1, d2⟩ e => by
      subst e
      obtain ⟨d3, ⟨d4, d5, d6⟩, _⟩ := outL_some.1 d1
      have d7 : s'.frm ≤ s.to := by omega
      have d8 : s.to < s'.to := by omega
      have d9 := loop_nest hf s1 d3 d8
      have := s5 s' d3 d4 (by omega) (by omega)
      omega
    by_cases hthr : 0 ≤ one.thr
    · rw [if_pos hthr]
      have o1 : ∀ n, oftI n one.thr = mulI n one.thr := fun n => by rw [oftI, if_neg (by omega)]
      rw [o1, o1] at hg2
      refine ⟨by simp only [List.length_set]; exact h.len, fun q hq hd => ?_, fun hh => h.t0 (by omega), ⟨h.ge.1, by simp only; have := h.ge.2; omega⟩, fun y hy => ?_, fun y hy => ?_⟩
      · simp only
        rw [getD_setG, if_neg (fun e => hzt q hq hd e.1.symm)]
        exact h.z q (by omega) hd
      · rw [← h.ft y hy, U_split hN (pc := pc), U_set h.len htN htp]
        simp only [hg2]
        rw [more_assoc]
        exact And.comm
      · rw [← h.ff y hy, U_split hN (pc := pc), U_out, U_out, U_set h.len htN htp]
        simp only [hg2]
        rw [more_best_le hy, more_best_le hy, more_assoc, more_assoc]
        constructor
        · rintro ⟨⟨⟨a, b⟩, c⟩, d⟩; exact ⟨⟨⟨d, c⟩, b⟩, a⟩
        · rintro ⟨⟨⟨d, c⟩, b⟩, a⟩; exact ⟨⟨⟨a, b⟩, c⟩, d⟩
    · rw [if_neg hthr]
      have o1 : ∀ n, oftI n one.thr = -1 := fun n => by rw [oftI, if_pos (by omega)]
      rw [o1, o1] at hg2
      have m1 : ∀ b, moreI (-1) b = -1 := fun b => more_neg (.inl (by decide))
      rw [m1, m1, m1] at hg2
      refine ⟨h.len, fun q hq => h.z q (by omega), fun hh => h.t0 (by omega), ⟨h.ge.1, by simp only; have := h.ge.2; omega⟩, fun y hy => ?_, fun y hy => ?_⟩
      · rw [← h.ft y hy, U_split hN (pc := pc)]
        simp only [hg2]
        rw [more_neg (.inr (by decide))]
        exact ⟨fun a => ⟨hy, a⟩, fun a => a.2⟩
      · rw [← h.ff y hy, U_split hN (pc := pc), U_out]
        simp only [hg2]
        rw [more_best_le hy, more_best_le hy, more_neg (b := -1) (.inr (by decide))]
        exact ⟨fun ⟨a, b⟩ => ⟨⟨⟨b, hy⟩, hy⟩, a⟩, fun ⟨⟨⟨b, _⟩, _⟩, a⟩ => ⟨a, b⟩⟩
/-- Both are the same. -/
theorem partR_eq (hf : FineP p) (hn : ∀ i, 0 ≤ (p.getD i default).n) (w : List Int) : ∀ (f : Nat) (l : List Span) (part : Span), isPart p part → innL l part = innL (loopsL p) part → partR p w f l part = partW max p w (loopsL p) f part
  | 0, l, part, _, _ => rfl
  | f + 1, l, part, hp, hl => by
    have hs := part_sound hf hn hp
    have hrec : ∀ s ∈ loopsL p, inQ part s = true → partR p w f (innL l s) s = partW max p w (loopsL p) f s := fun s h1 h2 => by
      refine partR_eq hf hn w f _ s (.inl h1) ?_
      have e : innL l s = innL (loopsL p) s := by rw [← inn_inn l part s h2, hl, inn_inn _ _ _ h2]
      rw [e, innL, innL, List.filter_filter]
      simp
    have hsz : (sizeS part : Int) = part.to + 1 - part.frm := by unfold sizeS; omega
    have hok := partW_ok max_ok p w (loopsL p) f
    have key : ∀ k : Nat, k ≤ sizeS part → FInv p part (fun q => (atTo max p w (loopsL p) (partW max p w (loopsL p) f) part (sizeS part)).getD q default) (part.frm + k).toNat (fTo (partR p w f) p w l part k) := by
      intro k
      induction k with
      | zero => intro _; rw [fTo, show part.frm + ((0 : Nat) : Int) = part.frm by omega]; exact f_start hf hn hp fun q => atTo_ok max_ok p w _ _ hok part _ q
      | succ k ih =>
        intro hk
        have h1 := f_step hf hn hp (w := w) (rec := partW max p w (loopsL p) f) (fun pc a b => back_eq hf hn hp a b) hl hrec (pc := (part.frm + k).toNat) (by omega) (by omega) (ih (by omega))
        rw [show (part.frm + (k + 1 : Nat)).toNat = (part.frm + k).toNat + 1 by omega, fTo]
        exact h1
    have h1 := key (sizeS part) (Nat.le_refl _)
    rw [show (part.frm + (sizeS part : Int)).toNat = (part.to + 1).toNat by omega] at h1
    rw [partR, partW]
    have fin : ∀ (o : Int) (at_ : List Int) (sel : Way → Int) (a : Int), sel ⟨-1, -1⟩ = -1 → -1 ≤ o → okI a → (∀ y, -1 ≤ y → (UQ p.length o at_ (fun q => sel ((atTo max p w (loopsL p) (partW max p w (loopsL p) f) part (sizeS part)).getD q default)) (part.to + 1).toNat y ↔ a ≤ y)) → o = a := fun o at_ sel a h2 h3 h4 h5 => by
      have h6 : ∀ y, -1 ≤ y → (o ≤ y ↔ a ≤ y) := fun y hy => by
        rw [← h5 y hy]
        refine ⟨fun h => ⟨h, fun q g1 g2 => ?_⟩, fun h => h.1⟩
        simp only
        rw [back_no hs.1 (by omega) _ (by omega), h2, more_neg (.inr (by decide))]
        exact hy
      have h7 := (h6 o h3).1 (Int.le_refl _)
      have h8 := (h6 a h4.1).2 (Int.le_refl _)
      omega
    have hw := atTo_ok max_ok p w (loopsL p) _ hok part (sizeS part) part.frm.toNat
    have e1 := fin _ _ Way.thr _ rfl h1.ge.1 hw.1 h1.ft
    have e2 := fin _ _ Way.fin _ rfl h1.ge.2 hw.2 h1.ff
    rw [e1, e2]
end
end Go.Proofs.Ytkkmageogkkchaa
namespace Go.Proofs.Ytkkmageogkkchaa
set_option linter.unusedSimpArgs false
set_option linter.unusedVariables false
set_option maxRecDepth 100000
set_option linter.unusedSimpArgs false
set_option linter.unusedVariables false
set_option maxRecDepth 100000
open Go.RowKit
def eWay (x : Way) : List AV := [.int .i64 x.thr, .int .i64 x.fin]
def mA (p : List Instr) (w : List Int) (L : List Span) (fc : FuncId) : List AV := [.lst 5 (p.map eInstr), .lst 1 (w.map eI), .lst 2 (L.map eSpan), .fn (.func fc) [] []]
theorem addI_0 (a : Int) : addI a 0 = insI a := by have := insB a; unfold addI insI at *; omega
theorem both_fn (a b : Int) : Fn Try.prog 211 [.int .i64 a, .int .i64 b] (.int .i64 (moreI a b)) := by
  by_cases h : a < 0 ∨ b < 0
  · rw [moreI, if_pos h]
    refine fnb Try.func211 (entered_of (by kernel_rfl)) rfl rfl rfl ?_
    repeat' (first | (show W _ _ _ _ _ _; first | apply kA | refine kB rfl ?_ | refine kC rfl rfl ?_ | refine kD rfl rfl ?_ | apply kE | apply kF | apply kG | apply kH | refine kI (by kernel_rfl) (by kernel_rfl) ?_) | (show O _ _ _ _ _ _ _; first | (show O _ _ _ _ (⟨_, .store _ _ _, _, _, _, _⟩ :: _) _ _; refine kJ rfl rfl rfl rfl rfl rfl rfl rfl rfl rfl rfl ?_) | apply kK) | apply kL | ((first | apply kM | apply kN); (iterate 3 (· exact rfl)); (· first | exact ya)) | refine kO rfl rfl rfl rfl rfl ?_ | refine kP rfl rfl rfl ?_ | ((first | refine kQ rfl rfl ?_ ?_ | refine kR rfl rfl rfl rfl rfl ?_ ?_ | refine kS rfl rfl rfl ?_ ?_) <;> intro hc <;> (try simp only [KL, cond_true, cond_false, beq_iff_eq, bne_iff_ne, ne_eq, reduceCtorEq] at hc) <;> (try (have hT : True := hc; clear hT hc)) <;> (try (exfalso; omega))) | apply kT | apply kU | apply kV | apply kW | refine kX rfl ?_ | apply kY | apply kZ)
    all_goals first | (exfalso; omega) | exact retq rfl rfl
  · rw [moreI, if_neg h]
    refine fnb Try.func211 (entered_of (by kernel_rfl)) rfl rfl rfl ?_
    repeat' (first | (show W _ _ _ _ _ _; first | apply kA | refine kB rfl ?_ | refine kC rfl rfl ?_ | refine kD rfl rfl ?_ | apply kE | apply kF | apply kG | apply kH | refine kI (by kernel_rfl) (by kernel_rfl) ?_) | (show O _ _ _ _ _ _ _; first | (show O _ _ _ _ (⟨_, .store _ _ _, _, _, _, _⟩ :: _) _ _; refine kJ rfl rfl rfl rfl rfl rfl rfl rfl rfl rfl rfl ?_) | apply kK) | apply kL | ((first | apply kM | apply kN); (iterate 3 (· exact rfl)); (· first | (show Y _ ⟨_, .call ⟨.value _, _, _⟩, _, _, _, _⟩ _ _ _; first | exact q_c (kAdd_fn _ _) rfl) | exact ya)) | refine kO rfl rfl rfl rfl rfl ?_ | refine kP rfl rfl rfl ?_ | ((first | refine kQ rfl rfl ?_ ?_ | refine kR rfl rfl rfl rfl rfl ?_ ?_ | refine kS rfl rfl rfl ?_ ?_) <;> intro hc <;> (try simp only [KL, cond_true, cond_false, beq_iff_eq, bne_iff_ne, ne_eq, reduceCtorEq] at hc) <;> (try (have hT : True := hc; clear hT hc)) <;> (try (exfalso; omega))) | apply kT | apply kU | apply kV | apply kW | refine kX rfl ?_ | apply kY | apply kZ)
    all_goals first | (exfalso; omega) | exact retq rfl rfl
theorem often_fn (n x : Int) : Fn Try.prog 212 [.int .i64 n, .int .i64 x] (.int .i64 (oftI n x)) := by
  by_cases h : x < 0
  · rw [oftI, if_pos h]
    refine fnb Try.func212 (entered_of (by kernel_rfl)) rfl rfl rfl ?_
    repeat' (first | (show W _ _ _ _ _ _; first | apply kA | refine kB rfl ?_ | refine kC rfl rfl ?_ | refine kD rfl rfl ?_ | apply kE | apply kF | apply kG | apply kH | refine kI (by kernel_rfl) (by kernel_rfl) ?_) | (show O _ _ _ _ _ _ _; first | (show O _ _ _ _ (⟨_, .store _ _ _, _, _, _, _⟩ :: _) _ _; refine kJ rfl rfl rfl rfl rfl rfl rfl rfl rfl rfl rfl ?_) | apply kK) | apply kL | ((first | apply kM | apply kN); (iterate 3 (· exact rfl)); (· first | exact ya)) | refine kO rfl rfl rfl rfl rfl ?_ | refine kP rfl rfl rfl ?_ | ((first | refine kQ rfl rfl ?_ ?_ | refine kR rfl rfl rfl rfl rfl ?_ ?_ | refine kS rfl rfl rfl ?_ ?_) <;> intro hc <;> (try simp only [KL, cond_true, cond_false, beq_iff_eq, bne_iff_ne, ne_eq, reduceCtorEq] at hc) <;> (try (have hT : True := hc; clear hT hc)) <;> (try (exfalso; omega))) | apply kT | apply kU | apply kV | apply kW | refine kX rfl ?_ | apply kY | apply kZ)
    all_goals first | (exfalso; omega) | exact retq rfl rfl
  · rw [oftI, if_neg h]
    refine fnb Try.func212 (entered_of (by kernel_rfl)) rfl rfl rfl ?_
    repeat' (first | (show W _ _ _ _ _ _; first | apply kA | refine kB rfl ?_ | refine kC rfl rfl ?_ | refine kD rfl rfl ?_ | apply kE | apply kF | apply kG | apply kH | refine kI (by kernel_rfl) (by kernel_rfl) ?_) | (show O _ _ _ _ _ _ _; first | (show O _ _ _ _ (⟨_, .store _ _ _, _, _, _, _⟩ :: _) _ _; refine kJ rfl rfl rfl rfl rfl rfl rfl rfl rfl rfl rfl ?_) | apply kK) | apply kL | ((first | apply kM | apply kN); (iterate 3 (· exact rfl)); (· first | (show Y _ ⟨_, .call ⟨.value _, _, _⟩, _, _, _, _⟩ _ _ _; first | exact q_c (kMul_fn _ _) rfl) | exact ya)) | refine kO rfl rfl rfl rfl rfl ?_ | refine kP rfl rfl rfl ?_ | ((first | refine kQ rfl rfl ?_ ?_ | refine kR rfl rfl rfl rfl rfl ?_ ?_ | refine kS rfl rfl rfl ?_ ?_) <;> intro hc <;> (try simp only [KL, cond_true, cond_false, beq_iff_eq, bne_iff_ne, ne_eq, reduceCtorEq] at hc) <;> (try (have hT : True := hc; clear hT hc)) <;> (try (exfalso; omega))) | apply kT | apply kU | apply kV | apply kW | refine kX rfl ?_ | apply kY | apply kZ)
    all_goals first | (exfalso; omega) | exact retq rfl rfl
section
variable {p : List Instr} {w : List Int} {L : List Span} {fc : FuncId} {bt : Int → Int → Int}
theorem best_fn (hF : ∀ a b, Fn Try.prog fc [.int .i64 a, .int .i64 b] (.int .i64 (bt a b))) (a b : Int) : Fn Try.prog 210 [.ref (mA p w L fc), .int .i64 a, .int .i64 b] (.int .i64 (bestI bt a b)) := by
  by_cases h : a < 0
  · rw [bestI, if_pos h]
    refine fnb Try.func210 (entered_of (by kernel_rfl)) rfl rfl rfl ?_
    repeat' (first | (show W _ _ _ _ _ _; first | apply kA | refine kB rfl ?_ | refine kC rfl rfl ?_ | refine kD rfl rfl ?_ | apply kE | apply kF | apply kG | apply kH | refine kI (by kernel_rfl) (by kernel_rfl) ?_) | (show O _ _ _ _ _ _ _; first | (show O _ _ _ _ (⟨_, .store _ _ _, _, _, _, _⟩ :: _) _ _; refine kJ rfl rfl rfl rfl rfl rfl rfl rfl rfl rfl rfl ?_) | apply kK) | apply kL | ((first | apply kM | apply kN); (iterate 3 (· exact rfl)); (· first | exact ya)) | refine kO rfl rfl rfl rfl rfl ?_ | refine kP rfl rfl rfl ?_ | ((first | refine kQ rfl rfl ?_ ?_ | refine kR rfl rfl rfl rfl rfl ?_ ?_ | refine kS rfl rfl rfl ?_ ?_) <;> intro hc <;> (try simp only [KL, cond_true, cond_false, beq_iff_eq, bne_iff_ne, ne_eq, reduceCtorEq] at hc) <;> (try (have hT : True := hc; clear hT hc)) <;> (try (exfalso; omega))) | apply kT | apply kU | apply kV | apply kW | refine kX rfl ?_ | apply kY | apply kZ)
    all_goals first | (exfalso; omega) | exact retq rfl rfl
  by_cases h2 : b < 0
  · rw [bestI, if_neg h, if_pos h2]
    refine fnb Try.func210 (entered_of (by kernel_rfl)) rfl rfl rfl ?_
    repeat' (first | (show W _ _ _ _ _ _; first | apply kA | refine kB rfl ?_ | refine kC rfl rfl ?_ | refine kD rfl rfl ?_ | apply kE | apply kF | apply kG | apply kH | refine kI (by kernel_rfl) (by kernel_rfl) ?_) | (show O _ _ _ _ _ _ _; first | (show O _ _ _ _ (⟨_, .store _ _ _, _, _, _, _⟩ :: _) _ _; refine kJ rfl rfl rfl rfl rfl rfl rfl rfl rfl rfl rfl ?_) | apply kK) | apply kL | ((first | apply kM | apply kN); (iterate 3 (· exact rfl)); (· first | exact ya)) | refine kO rfl rfl rfl rfl rfl ?_ | refine kP rfl rfl rfl ?_ | ((first | refine kQ rfl rfl ?_ ?_ | refine kR rfl rfl rfl rfl rfl ?_ ?_ | refine kS rfl rfl rfl ?_ ?_) <;> intro hc <;> (try simp only [KL, cond_true, cond_false, beq_iff_eq, bne_iff_ne, ne_eq, reduceCtorEq] at hc) <;> (try (have hT : True := hc; clear hT hc)) <;> (try (exfalso; omega))) | apply kT | apply kU | apply kV | apply kW | refine kX rfl ?_ | apply kY | apply kZ)
    all_goals first | (exfalso; omega) | exact retq rfl rfl
  · rw [bestI, if_neg h, if_neg h2]
    refine fnb Try.func210 (entered_of (by kernel_rfl)) rfl rfl rfl ?_
    repeat' (first | (show W _ _ _ _ _ _; first | apply kA | refine kB rfl ?_ | refine kC rfl rfl ?_ | refine kD rfl rfl ?_ | apply kE | apply kF | apply kG | apply kH | refine kI (by kernel_rfl) (by kernel_rfl) ?_) | (show O _ _ _ _ _ _ _; first | (show O _ _ _ _ (⟨_, .store _ _ _, _, _, _, _⟩ :: _) _ _; refine kJ rfl rfl rfl rfl rfl rfl rfl rfl rfl rfl rfl ?_) | apply kK) | apply kL | ((first | apply kM | apply kN); (iterate 3 (· exact rfl)); (· first | (show Y _ ⟨_, .call ⟨.value _, _, _⟩, _, _, _, _⟩ _ _ _; first | exact q_c (hF _ _) rfl) | exact ya)) | refine kO rfl rfl rfl rfl rfl ?_ | refine kP rfl rfl rfl ?_ | ((first | refine kQ rfl rfl ?_ ?_ | refine kR rfl rfl rfl rfl rfl ?_ ?_ | refine kS rfl rfl rfl ?_ ?_) <;> intro hc <;> (try simp only [KL, cond_true, cond_false, beq_iff_eq, bne_iff_ne, ne_eq, reduceCtorEq] at hc) <;> (try (have hT : True := hc; clear hT hc)) <;> (try (exfalso; omega))) | apply kT | apply kU | apply kV | apply kW | refine kX rfl ?_ | apply kY | apply kZ)
    all_goals first | (exfalso; omega) | exact retq rfl rfl
theorem rounds_fn (hF : ∀ a b, Fn Try.prog fc [.int .i64 a, .int .i64 b] (.int .i64 (bt a b))) (one on : Way) (t : Int) (ht : 0 ≤ t ∧ t ≤ 1000000) : Fn Try.prog 202 [.ref (mA p w L fc), .agg (eWay one), .agg (eWay on), .int .i64 t] (.agg (eWay (rndW bt one on t))) := by
  refine fnb Try.func202 (entered_of (by kernel_rfl)) rfl rfl rfl ?_
  repeat' (first | (show W _ _ _ _ _ _; first | apply kA | refine kB rfl ?_ | refine kC rfl rfl ?_ | refine kD rfl rfl ?_ | apply kE | apply kF | apply kG | apply kH) | (show O _ _ _ _ _ _ _; first | (show O _ _ _ _ (⟨_, .alloc _, _, _, _, _⟩ :: _) _ _; first | refine ao_alloc (id := 20) rfl rfl rfl rfl rfl rfl rfl ?_) | (show O _ _ _ _ (⟨_, .store _ _ _, _, _, _, _⟩ :: _) _ _; refine kJ rfl rfl rfl rfl rfl rfl rfl rfl rfl rfl rfl ?_) | apply kK) | apply kL | ((first | apply kM | apply kN); (iterate 3 (· exact rfl)); (· first | (show Y _ ⟨_, .call ⟨.value _, _, _⟩, _, _, _, _⟩ _ _ _; first | exact q_c (often_fn _ _) rfl | exact q_c (both_fn _ _) rfl | exact q_c (best_fn hF _ _) rfl) | exact ya)) | refine kO rfl rfl rfl rfl rfl ?_ | refine kP rfl rfl rfl ?_ | ((first | refine kQ rfl rfl ?_ ?_ | refine kR rfl rfl rfl rfl rfl ?_ ?_ | refine kS rfl rfl rfl ?_ ?_) <;> intro hc <;> (try simp only [KL, cond_true, cond_false, beq_iff_eq, bne_iff_ne, ne_eq, reduceCtorEq] at hc) <;> (try (have hT : True := hc; clear hT hc)) <;> (try (exfalso; omega))) | apply kT | apply kU | apply kV | apply kW | refine kX rfl ?_ | apply kY | apply kZ)
  refine wdraw (by kernel_rfl) (by kernel_rfl) ?_
  repeat' (first | (show W _ _ _ _ _ _; first | apply kA | refine kB rfl ?_ | refine kC rfl rfl ?_ | refine kD rfl rfl ?_ | apply kE | apply kF | apply kG | apply kH) | (show O _ _ _ _ _ _ _; first | (show O _ _ _ _ (⟨_, .store _ _ _, _, _, _, _⟩ :: _) _ _; refine kJ rfl rfl rfl rfl rfl rfl rfl rfl rfl rfl rfl ?_) | apply kK) | apply kL | ((first | apply kM | apply kN); (iterate 3 (· exact rfl)); (· first | (show Y _ ⟨_, .call ⟨.value _, _, _⟩, _, _, _, _⟩ _ _ _; first | exact q_c (often_fn _ _) rfl | exact q_c (both_fn _ _) rfl | exact q_c (best_fn hF _ _) rfl) | exact ya)) | refine kO rfl rfl rfl rfl rfl ?_ | refine kP rfl rfl rfl ?_ | ((first | refine kQ rfl rfl ?_ ?_ | refine kR rfl rfl rfl rfl rfl ?_ ?_ | refine kS rfl rfl rfl ?_ ?_) <;> intro hc <;> (try simp only [KL, cond_true, cond_false, beq_iff_eq, bne_iff_ne, ne_eq, reduceCtorEq] at hc) <;> (try (have hT : True := hc; clear hT hc)) <;> (try (exfalso; omega))) | apply kT | apply kU | apply kV | apply kW | refine kX rfl ?_ | apply kY | apply kZ)
  refine wdrawC (H := fun y : Way => [(20, .blk 182 (eWay y))]) (ok := fun _ => True) (tn := [12]) (ln := []) (⟨0, 0⟩ : Way) leh (by kernel_rfl) (by kernel_rfl) (by kernel_rfl) trivial ?_
  repeat' (first | (show W _ _ _ _ _ _; first | apply kA | refine kB rfl ?_ | refine kC rfl rfl ?_ | refine kD rfl rfl ?_ | apply kE | apply kF | apply kG | apply kH) | (show O _ _ _ _ _ _ _; first | (show O _ _ _ _ (⟨_, .store _ _ _, _, _, _, _⟩ :: _) _ _; refine kJ rfl rfl rfl rfl rfl rfl rfl rfl rfl rfl rfl ?_) | apply kK) | apply kL | ((first | apply kM | apply kN); (iterate 3 (· exact rfl)); (· first | (show Y _ ⟨_, .call ⟨.value _, _, _⟩, _, _, _, _⟩ _ _ _; first | exact q_c (both_fn _ _) rfl | exact q_c (best_fn hF _ _) rfl) | exact ya)) | (show C _ _ _ _ _ _ _ _ _ _ _; first | refine cnil ?_ | (apply c_any; (· exact rfl); (· exact rfl); (· intro y' hy'; first | (show Y _ ⟨_, .call ⟨.value _, _, _⟩, _, _, _, _⟩ _ _ _; first | exact q_c (both_fn _ _) rfl | exact q_c (best_fn hF _ _) rfl) | exact ya)) | (apply c_ld; (· exact rfl); (· exact rfl); (· exact rfl); (· first | (show Y _ ⟨_, .call ⟨.value _, _, _⟩, _, _, _, _⟩ _ _ _; first | exact q_c (both_fn _ _) rfl | exact q_c (best_fn hF _ _) rfl) | exact ya)) | refine c_grdN rfl rfl rfl ?_) | refine kO rfl rfl rfl rfl rfl ?_ | refine kP rfl rfl rfl ?_ | ((first | refine kQ rfl rfl ?_ ?_ | refine kR rfl rfl rfl rfl rfl ?_ ?_ | refine kS rfl rfl rfl ?_ ?_ | refine c_grd rfl rfl rfl ?_ ?_) <;> intro hc <;> (try simp only [KL, cond_true, cond_false, beq_iff_eq, bne_iff_ne, ne_eq, reduceCtorEq] at hc) <;> (try (have hT : True := hc; clear hT hc)) <;> (try (exfalso; omega))) | apply kT | apply kU | apply kV | apply kW | refine kX rfl ?_ | apply kY | apply kZ)
  refine c_tu (x' := rndW bt one on t) rfl rfl trivial (TuO.post (tu_st (sto_B rfl rfl rfl rfl rfl rfl (Nat.le_of_ble_eq_true rfl)) rfl) leh) ?_
  repeat' (first | (show W _ _ _ _ _ _; first | apply kA | refine kB rfl ?_ | refine kC rfl rfl ?_ | refine kD rfl rfl ?_ | apply kE | apply kF | apply kG | apply kH) | (show O _ _ _ _ _ _ _; first | (show O _ _ _ _ (⟨_, .store _ _ _, _, _, _, _⟩ :: _) _ _; refine kJ rfl rfl rfl rfl rfl rfl rfl rfl rfl rfl rfl ?_) | apply kK) | apply kL | ((first | apply kM | apply kN); (iterate 3 (· exact rfl)); (· first | exact ya)) | (show C _ _ _ _ _ _ _ _ _ _ _; first | refine cnil ?_ | (apply c_any; (· exact rfl); (· exact rfl); (· intro y' hy'; first | exact ya)) | (apply c_ld; (· exact rfl); (· exact rfl); (· exact rfl); (· first | exact ya)) | refine c_grdN rfl rfl rfl ?_) | refine kO rfl rfl rfl rfl rfl ?_ | refine kP rfl rfl rfl ?_ | ((first | refine kQ rfl rfl ?_ ?_ | refine kR rfl rfl rfl rfl rfl ?_ ?_ | refine kS rfl rfl rfl ?_ ?_ | refine c_grd rfl rfl rfl ?_ ?_) <;> intro hc <;> (try simp only [KL, cond_true, cond_false, beq_iff_eq, bne_iff_ne, ne_eq, reduceCtorEq] at hc) <;> (try (have hT : True := hc; clear hT hc)) <;> (try (exfalso; omega))) | apply kT | apply kU | apply kV | apply kW | refine kX rfl ?_ | apply kY | apply kZ)
  exact retq rfl rfl
end
theorem backw_fn (L : List Span) : Fn Try.prog 208 [.lst 2 (L.map eSpan)] (.fn (.func 213) [] [.ref [.lst 2 (L.map eSpan)]]) := by
  refine fnb Try.func208 (entered_of (by kernel_rfl)) rfl rfl rfl ?_
  repeat' (first | (show W _ _ _ _ _ _; first | apply kA | refine kB rfl ?_ | refine kC rfl rfl ?_ | refine kD rfl rfl ?_ | apply kE | apply kF | apply kG | apply kH | refine kI (by kernel_rfl) (by kernel_rfl) ?_) | (show O _ _ _ _ _ _ _; first | (show O _ _ _ _ (⟨_, .store _ _ _, _, _, _, _⟩ :: _) _ _; refine kJ rfl rfl rfl rfl rfl rfl rfl rfl rfl rfl rfl ?_) | apply kK) | apply kL | ((first | apply kM | apply kN); (iterate 3 (· exact rfl)); (· first | exact ya)) | refine kO rfl rfl rfl rfl rfl ?_ | refine kP rfl rfl rfl ?_ | ((first | refine kQ rfl rfl ?_ ?_ | refine kR rfl rfl rfl rfl rfl ?_ ?_ | refine kS rfl rfl rfl ?_ ?_) <;> intro hc <;> (try simp only [KL, cond_true, cond_false, beq_iff_eq, bne_iff_ne, ne_eq, reduceCtorEq] at hc) <;> (try (have hT : True := hc; clear hT hc)) <;> (try (exfalso; omega))) | apply kT | apply kU | apply kV | apply kW | refine kX rfl ?_ | apply kY | apply kZ)
  exact retq rfl rfl
abbrev outH (l : Nat) (r : Loop) (σ0 : Sig) (a : Span) (b : Bool) : Heap := (8, .sem (objC l (.loop r))) :: (9, .sem (knowC σ0)) :: [(0, .blk 135 (eSpan a)), (1, .blk 4 [.bool b])]
theorem outer_rd (l : Nat) (r : Loop) (σ0 : Sig) (pins : List (Nat × Value)) (pc : Int) (part s a : Span) (i : Int) (hr : r.state = .ready) (hpd : r.pending = none) (hab : rfOf Try.f200.body = some (r.params, r.assign, r.body)) (hk : r.tmps.size = Try.f200.ntmps)
    (hs : SlotsOk σ0 pins [(4, .ref [.int .i64 pc]), (5, .ref (eSpan part)), (6, .ptr 0 0), (7, .ptr 1 0)] r.tmps) :
    YF Try.prog l pins [.int .i64 i, .agg (eSpan s)] (outH l r σ0 a false) (fun b h' => (b = true ∧ outQ pc part s = false ∧ h' = outH l { r with state := .ready, pending := none } σ0 a false) ∨ (b = false ∧ outQ pc part s = true ∧ h' = outH l { r with state := .done, pending := some .ret } σ0 s true)) := by
  change Option.some (_, _, _) = some _ at hab
  injection hab with hab
  injection hab with h1 hab
  injection hab with h2 h3
  refine yf_le (yf_body2 (R := fun b h' => (b = true ∧ outQ pc part s = false ∧ LeH h' (outH l { r with state := .ready, pending := none } σ0 a false)) ∨ (b = false ∧ outQ pc part s = true ∧ LeH h' (outH l { r with state := .done, pending := some .ret } σ0 s true))) (idL := 8) (idK := 9) (σ0 := σ0) rfl rfl hr h1.symm hk (by decide) (by decide) (by decide) hs ?_) ?_
  · refine wcode h2 ?_
    repeat' (first | (show W _ _ _ _ _ _; first | apply kA | refine kB rfl ?_ | refine kC rfl rfl ?_ | refine kD rfl rfl ?_ | apply kE | apply kF | apply kG | apply kH | refine kI (by kernel_rfl) (by kernel_rfl) ?_) | (show O _ _ _ _ _ _ _; first | (show O _ _ _ _ (⟨_, .alloc _, _, _, _, _⟩ :: _) _ _; first | refine ao_alloc (id := 20) rfl rfl rfl rfl rfl rfl rfl ?_) | (show O _ _ _ _ (⟨_, .store _ _ _, _, _, _, _⟩ :: _) _ _; refine kJ rfl rfl rfl rfl rfl rfl rfl rfl rfl rfl rfl ?_) | apply kK) | apply kL | ((first | apply kM | apply kN); (iterate 3 (· exact rfl)); (· first | exact ya)) | refine kO rfl rfl rfl rfl rfl ?_ | refine kP rfl rfl rfl ?_ | ((first | refine kQ rfl rfl ?_ ?_ | refine kR rfl rfl rfl rfl rfl ?_ ?_ | refine kS rfl rfl rfl ?_ ?_) <;> intro hc <;> (try simp only [KL, cond_true, cond_false, beq_iff_eq, bne_iff_ne, ne_eq, reduceCtorEq] at hc) <;> (try (have hT : True := hc; clear hT hc)) <;> (try (exfalso; omega))) | apply kT | apply kU | apply kV | apply kW | refine kX rfl ?_ | apply kY | apply kZ)
    refine ⟨rfl, ?_⟩
    refine wcode h3 ?_
    repeat' (first | (show W _ _ _ _ _ _; first | apply kA | refine kB rfl ?_ | refine kC rfl rfl ?_ | refine kD rfl rfl ?_ | apply kE | apply kF | apply kG | apply kH | refine kI (by kernel_rfl) (by kernel_rfl) ?_) | (show O _ _ _ _ _ _ _; first | (show O _ _ _ _ (⟨_, .store _ _ _, _, _, _, _⟩ :: _) _ _; refine kJ rfl rfl rfl rfl rfl rfl rfl rfl rfl rfl rfl ?_) | apply kK) | apply kL | ((first | apply kM | apply kN); (iterate 3 (· exact rfl)); (· first | exact ya | exact Y.mk (neq_Span rfl rfl rfl))) | refine kO rfl rfl rfl rfl rfl ?_ | refine kP rfl rfl rfl ?_ | ((first | refine kQ rfl rfl ?_ ?_ | refine kR rfl rfl rfl rfl rfl ?_ ?_ | refine kS rfl rfl rfl ?_ ?_) <;> intro hc <;> (try simp only [KL, cond_true, cond_false, beq_iff_eq, bne_iff_ne, ne_eq, reduceCtorEq] at hc) <;> (try (have hT : True := hc; clear hT hc)) <;> (try (exfalso; omega))) | apply kT | apply kU | apply kV | apply kW | refine kX rfl ?_ | apply kY | apply kZ)
    all_goals first
      | exact ⟨rfl, .inr ⟨rfl, decide_eq_true ⟨by assumption, by omega, by omega, by omega, by omega⟩, leh⟩⟩
      | exact ⟨rfl, .inl ⟨rfl, decide_eq_false (fun e => by first | omega | exact e.1 (by assumption)), leh⟩⟩
      | trace_state
  · rintro b h' (⟨rfl, h4, h5⟩ | ⟨rfl, h4, h5⟩)
    · exact ⟨_, h5, .inl ⟨rfl, h4, rfl⟩⟩
    · exact ⟨_, h5, .inr ⟨rfl, h4, rfl⟩⟩
theorem outer_it (L : List Span) (pc : Int) (part a : Span) (hn : L.length ≤ 1000000) (l : Nat) (r : Loop) (σ0 : Sig) (pins : List (Nat × Value)) (hr : r.state = .ready) (hpd : r.pending = none) (hab : rfOf Try.f200.body = some (r.params, r.assign, r.body)) (hk : r.tmps.size = Try.f200.ntmps)
    (hs : SlotsOk σ0 pins [(4, .ref [.int .i64 pc]), (5, .ref (eSpan part)), (6, .ptr 0 0), (7, .ptr 1 0)] r.tmps) (hp5 : ∀ p ∈ pins, p.1 < 5) :
    FnHp Try.prog pins 213 (.fn (.yield l) [] [] :: [.ref [.lst 2 (L.map eSpan)]]) (outH l r σ0 a false) (fun v h' => v = .tup [] ∧ ((outL L pc part = none ∧ h' = outH l r σ0 a false) ∨ ∃ s, outL L pc part = some s ∧ h' = outH l { r with state := .done, pending := some .ret } σ0 s true)) := by
  have hrd := rdy hr hpd
  refine fnhbp Try.func213 (entered_of (by kernel_rfl)) rfl rfl ?_
  repeat' (first | (show W _ _ _ _ _ _; first | apply kA | refine kB rfl ?_ | refine kC rfl rfl ?_ | refine kD rfl rfl ?_ | apply kE | apply kF | apply kG | apply kH | refine kI (by kernel_rfl) (by kernel_rfl) ?_) | (show O _ _ _ _ _ _ _; first | (show O _ _ _ _ (⟨_, .store _ _ _, _, _, _, _⟩ :: _) _ _; refine kJ rfl rfl rfl rfl rfl rfl rfl rfl rfl rfl rfl ?_) | apply kK) | apply kL | ((first | apply kM | apply kN); (iterate 3 (· exact rfl)); (· first | exact ya)) | refine kO rfl rfl rfl rfl rfl ?_ | refine kP rfl rfl rfl ?_ | ((first | refine kQ rfl rfl ?_ ?_ | refine kR rfl rfl rfl rfl rfl ?_ ?_ | refine kS rfl rfl rfl ?_ ?_) <;> intro hc <;> (try simp only [KL, cond_true, cond_false, beq_iff_eq, bne_iff_ne, ne_eq, reduceCtorEq] at hc) <;> (try (have hT : True := hc; clear hT hc)) <;> (try (exfalso; omega))) | apply kT | apply kU | apply kV | apply kW | refine kX rfl ?_ | apply kY | apply kZ)
  refine wloop (fun k : Nat => ([(0, .fn (.yield l) [] []), (1, .ref [.lst 2 (L.map eSpan)]), (3, .int .i64 ((k : Int) - 1))], outH l r σ0 a false)) (fun k => k ≤ L.length ∧ (L.take k).reverse.find? (outQ pc part) = outL L pc part) (fun k => k) L.length ⟨Nat.le_refl _, by rw [List.take_length]; rfl⟩ les leh (fun k hk => ?_)
  obtain ⟨hk1, hk2⟩ := hk
  cases k with
  | zero =>
    refine wle (s' := [(0, .fn (.yield l) [] []), (1, .ref [.lst 2 (L.map eSpan)]), (3, .int .i64 (-1))]) (h' := outH l r σ0 a false) les leh ?_
    repeat' (first | (show W _ _ _ _ _ _; first | apply kA | refine kB rfl ?_ | refine kC rfl rfl ?_ | refine kD rfl rfl ?_ | apply kE | apply kF | apply kG | apply kH | refine kI (by kernel_rfl) (by kernel_rfl) ?_) | (show O _ _ _ _ _ _ _; first | (show O _ _ _ _ (⟨_, .store _ _ _, _, _, _, _⟩ :: _) _ _; refine kJ rfl rfl rfl rfl rfl rfl rfl rfl rfl rfl rfl ?_) | apply kK) | apply kL | ((first | apply kM | apply kN); (iterate 3 (· exact rfl)); (· first | exact ya)) | refine kO rfl rfl rfl rfl rfl ?_ | refine kP rfl rfl rfl ?_ | ((first | refine kQ rfl rfl ?_ ?_ | refine kR rfl rfl rfl rfl rfl ?_ ?_ | refine kS rfl rfl rfl ?_ ?_) <;> intro hc <;> (try simp only [KL, cond_true, cond_false, beq_iff_eq, bne_iff_ne, ne_eq, reduceCtorEq] at hc) <;> (try (have hT : True := hc; clear hT hc)) <;> (try (exfalso; omega))) | apply kT | apply kU | apply kV | apply kW | refine kX rfl ?_ | apply kY | apply kZ)
    exact retn rfl ⟨rfl, .inl ⟨hk2.symm, rfl⟩⟩
  | succ i =>
    refine wle (s' := [(0, .fn (.yield l) [] []), (1, .ref [.lst 2 (L.map eSpan)]), (3, .int .i64 i)]) (h' := outH l r σ0 a false) les leh ?_
    obtain ⟨s, hsi⟩ : ∃ s, L.getD i default = s := ⟨_, rfl⟩
    have e1 : (L.take (i + 1)).reverse = s :: (L.take i).reverse := by
      rw [List.take_succ_eq_append_getElem (by omega), List.reverse_append, ← hsi]
      simp [show i < L.length by omega]
    rw [e1, List.find?_cons] at hk2
    repeat' (first | (show W _ _ _ _ _ _; first | apply kA | refine kB rfl ?_ | refine kC rfl rfl ?_ | refine kD rfl rfl ?_ | apply kE | apply kF | apply kG | apply kH | refine kI (by kernel_rfl) (by kernel_rfl) ?_) | (show O _ _ _ _ _ _ _; first | (show O _ _ _ _ (⟨_, .store _ _ _, _, _, _, _⟩ :: _) _ _; refine kJ rfl rfl rfl rfl rfl rfl rfl rfl rfl rfl rfl ?_) | apply kK) | apply kL | ((first | apply kM | apply kN); (iterate 3 (· exact rfl)); (· first | (show Y _ ⟨_, .indexAddr _ _ _, _, _, _, _⟩ _ _ _; first | exact Y.mk (ok_indexE (hsi) rfl rfl rfl rfl rfl (by omega))) | exact ya)) | refine kO rfl rfl rfl rfl rfl ?_ | refine kP rfl rfl rfl ?_ | ((first | refine kQ rfl rfl ?_ ?_ | refine kR rfl rfl rfl rfl rfl ?_ ?_ | refine kS rfl rfl rfl ?_ ?_) <;> intro hc <;> (try simp only [KL, cond_true, cond_false, beq_iff_eq, bne_iff_ne, ne_eq, reduceCtorEq] at hc) <;> (try (have hT : True := hc; clear hT hc)) <;> (try (exfalso; omega))) | apply kT | apply kU | apply kV | apply kW | refine kX rfl ?_ | apply kY | apply kZ)
    all_goals first | (exfalso; omega) | skip
    refine ycall (fun i => i) (outer_rd l r σ0 pins pc part s a i hr hpd hab hk hs) (fun p hp => hp) hp5 rfl rfl rfl rfl leh rfl rfl rfl rfl rfl rfl (fun r1 h' hR => ?_)
    rw [hrd] at hR
    rcases hR with ⟨rfl, h4, rfl⟩ | ⟨rfl, h4, rfl⟩
    · rw [h4] at hk2
      refine ⟨rfl, ?_⟩
      refine ole (h' := outH l r σ0 a false) (LeS.refl _) leh ?_
      repeat' (first | (show W _ _ _ _ _ _; first | apply kA | refine kB rfl ?_ | refine kC rfl rfl ?_ | refine kD rfl rfl ?_ | apply kE | apply kF | apply kG | apply kH | refine kI (by kernel_rfl) (by kernel_rfl) ?_) | (show O _ _ _ _ _ _ _; first | (show O _ _ _ _ (⟨_, .store _ _ _, _, _, _, _⟩ :: _) _ _; refine kJ rfl rfl rfl rfl rfl rfl rfl rfl rfl rfl rfl ?_) | apply kK) | apply kL | ((first | apply kM | apply kN); (iterate 3 (· exact rfl)); (· first | exact ya)) | refine kO rfl rfl rfl rfl rfl ?_ | refine kP rfl rfl rfl ?_ | ((first | refine kQ rfl rfl ?_ ?_ | refine kR rfl rfl rfl rfl rfl ?_ ?_ | refine kS rfl rfl rfl ?_ ?_) <;> intro hc <;> (try simp only [KL, cond_true, cond_false, beq_iff_eq, bne_iff_ne, ne_eq, reduceCtorEq] at hc) <;> (try (have hT : True := hc; clear hT hc)) <;> (try (exfalso; omega))) | apply kT | apply kU | apply kV | apply kW | refine kX rfl ?_ | apply kY | apply kZ)
      exact ⟨i, ⟨by omega, hk2⟩, by omega, les, leh⟩
    · rw [h4] at hk2
      refine ⟨rfl, ?_⟩
      refine ole (h' := outH l { r with state := .done, pending := some .ret } σ0 s true) (LeS.refl _) leh ?_
      repeat' (first | (show W _ _ _ _ _ _; first | apply kA | refine kB rfl ?_ | refine kC rfl rfl ?_ | refine kD rfl rfl ?_ | apply kE | apply kF | apply kG | apply kH | refine kI (by kernel_rfl) (by kernel_rfl) ?_) | (show O _ _ _ _ _ _ _; first | (show O _ _ _ _ (⟨_, .store _ _ _, _, _, _, _⟩ :: _) _ _; refine kJ rfl rfl rfl rfl rfl rfl rfl rfl rfl rfl rfl ?_) | apply kK) | apply kL | ((first | apply kM | apply kN); (iterate 3 (· exact rfl)); (· first | exact ya)) | refine kO rfl rfl rfl rfl rfl ?_ | refine kP rfl rfl rfl ?_ | ((first | refine kQ rfl rfl ?_ ?_ | refine kR rfl rfl rfl rfl rfl ?_ ?_ | refine kS rfl rfl rfl ?_ ?_) <;> intro hc <;> (try simp only [KL, cond_true, cond_false, beq_iff_eq, bne_iff_ne, ne_eq, reduceCtorEq] at hc) <;> (try (have hT : True := hc; clear hT hc)) <;> (try (exfalso; omega))) | apply kT | apply kU | apply kV | apply kW | refine kX rfl ?_ | apply kY | apply kZ)
      exact retn rfl ⟨rfl, .inr ⟨s, hk2.symm, rfl⟩⟩
def outS (L : List Span) (pc : Int) (part : Span) : Span := (outL L pc part).getD ⟨0, 0⟩
def ρo (i : Nat) : Nat := [10, 11, 2, 3, 4, 5, 6, 7, 21, 22].getD i i
theorem outer_fn (p : List Instr) (w : List Int) (L : List Span) (fc : FuncId) (pc : Int) (part : Span) (hn : L.length ≤ 1000000) : Fn Try.prog 200 [.ref (mA p w L fc), .int .i64 pc, .agg (eSpan part)] (.tup [.agg (eSpan (outS L pc part)), .bool (outL L pc part).isSome]) := by
  refine fnm Try.func200 (entered_of (by kernel_rfl)) rfl rfl rfl ?_
  repeat' (first | (show M _ _ _ _ _ _; first | refine mseq ?_ | refine mregion (fun _ => ?_) | refine mcondT rfl rfl ?_ | refine mcondF rfl rfl ?_ | refine mblock ?_ | refine mskip ?_ | refine mexit ?_ | refine mret ?_) | (show W _ _ _ _ _ _; first | apply kA | refine kB rfl ?_ | refine kC rfl rfl ?_ | refine kD rfl rfl ?_ | apply kE | apply kF | apply kG | apply kH | refine kI (by kernel_rfl) (by kernel_rfl) ?_) | (show O _ _ _ _ _ _ _; first | (show O _ _ _ _ (⟨_, .alloc _, _, _, _, _⟩ :: _) _ _; first | refine ao_alloc (id := 10) rfl rfl rfl rfl rfl rfl rfl ?_ | refine ao_alloc (id := 11) rfl rfl rfl rfl rfl rfl rfl ?_) | (show O _ _ _ _ (⟨_, .store _ _ _, _, _, _, _⟩ :: _) _ _; refine kJ rfl rfl rfl rfl rfl rfl rfl rfl rfl rfl rfl ?_) | apply kK) | apply kL | ((first | apply kM | apply kN); (iterate 3 (· exact rfl)); (· first | (show Y _ ⟨_, .call ⟨.value _, _, _⟩, _, _, _, _⟩ _ _ _; first | exact q_c (backw_fn L) rfl) | exact ya)) | refine kO rfl rfl rfl rfl rfl ?_ | refine kP rfl rfl rfl ?_ | ((first | refine kQ rfl rfl ?_ ?_ | refine mcond rfl rfl ?_ ?_ | refine kR rfl rfl rfl rfl rfl ?_ ?_ | refine kS rfl rfl rfl ?_ ?_) <;> intro hc <;> (try simp only [KL, cond_true, cond_false, beq_iff_eq, bne_iff_ne, ne_eq, reduceCtorEq] at hc) <;> (try (have hT : True := hc; clear hT hc)) <;> (try (exfalso; omega))) | apply kT | apply kU | apply kV | apply kW | refine kX rfl ?_ | apply kY | apply kZ)
  refine mle (s' := [(4, .ref [.int .i64 pc]), (5, .ref (eSpan part)), (6, .ptr 10 0), (7, .ptr 11 0), (14, .fn (.func 213) [] [.ref [.lst 2 (L.map eSpan)]])]) (h' := [(10, .blk 135 (eSpan ⟨0, 0⟩)), (11, .blk 4 [.bool false])]) les leh ?_
  refine mrange ρo (caps0 := [.ref [.lst 2 (L.map eSpan)]]) (s0 := [(4, .ref [.int .i64 pc]), (5, .ref (eSpan part)), (6, .ptr 0 0), (7, .ptr 1 0)]) (hin0 := [(0, .blk 135 (eSpan ⟨0, 0⟩)), (1, .blk 4 [.bool false])]) 21 22
    (R := fun l r v h' => r.state = .ready ∧ r.pending = none ∧ v = .tup [] ∧ ∃ σ0, ((outL L pc part = none ∧ h' = outH l r σ0 ⟨0, 0⟩ false) ∨ ∃ s, outL L pc part = some s ∧ h' = outH l { r with state := .done, pending := some .ret } σ0 s true))
    rfl rfl rfl rfl (fun _ _ => rfl) (fun _ _ _ => leh) rfl rfl rfl (fun _ _ _ => rfl) les rfl (fun l r σ0 pins q1 q2 q3 q4 q5 q6 q7 q8 => ?_) (fun l r σ0 v h' hR => ?_) rfl
  · exact fnhp_mono (outer_it L pc part ⟨0, 0⟩ hn l r σ0 pins q1 q2 (by rw [q3, q4, q5]; rfl) q6 q7 q8) fun v h' ⟨e1, e2⟩ => ⟨q1, q2, e1, σ0, e2⟩
  · obtain ⟨q1, q2, rfl, σ1, ⟨h1, rfl⟩ | ⟨s, h1, rfl⟩⟩ := hR
    · refine ⟨rfl, r, rfl, by rw [q1]; simp, fun _ => ?_, fun c e => by rw [q2] at e; cases e⟩
      rw [outS, h1]
      refine nIn (nThen ?_)
      refine mle (s' := [(6, .ptr 10 0), (7, .ptr 11 0)]) (h' := [(10, .blk 135 (eSpan ⟨0, 0⟩)), (11, .blk 4 [.bool false])]) les leh ?_
      repeat' (first | (show M _ _ _ _ _ _; first | refine mseq ?_ | refine mregion (fun _ => ?_) | refine mcondT rfl rfl ?_ | refine mcondF rfl rfl ?_ | refine mblock ?_ | refine mskip ?_ | refine mexit ?_ | refine mret ?_) | (show W _ _ _ _ _ _; first | apply kA | refine kB rfl ?_ | refine kC rfl rfl ?_ | refine kD rfl rfl ?_ | apply kE | apply kF | apply kG | apply kH | refine kI (by kernel_rfl) (by kernel_rfl) ?_) | (show O _ _ _ _ _ _ _; first | (show O _ _ _ _ (⟨_, .store _ _ _, _, _, _, _⟩ :: _) _ _; refine kJ rfl rfl rfl rfl rfl rfl rfl rfl rfl rfl rfl ?_) | apply kK) | apply kL | ((first | apply kM | apply kN); (iterate 3 (· exact rfl)); (· first | exact ya)) | refine kO rfl rfl rfl rfl rfl ?_ | refine kP rfl rfl rfl ?_ | ((first | refine kQ rfl rfl ?_ ?_ | refine mcond rfl rfl ?_ ?_ | refine kR rfl rfl rfl rfl rfl ?_ ?_ | refine kS rfl rfl rfl ?_ ?_) <;> intro hc <;> (try simp only [KL, cond_true, cond_false, beq_iff_eq, bne_iff_ne, ne_eq, reduceCtorEq] at hc) <;> (try (have hT : True := hc; clear hT hc)) <;> (try (exfalso; omega))) | apply kT | apply kU | apply kV | apply kW | refine kX rfl ?_ | apply kY | apply kZ)
      exact retq rfl rfl
    · refine ⟨rfl, { r with state := .done, pending := some .ret }, rfl, by simp, fun e => by simp at e, fun c e => ?_⟩
      injection e with e
      subst e
      rw [outS, h1]
      refine mret (rIn (rThen ?_))
      exact retq rfl rfl
theorem nextF_fine {p : List Instr} (hf : fineB p = true) {pc : Nat} (h : pc < p.length) : nextF p pc = nextL p pc := by
  rw [nextF, if_pos ⟨hf, by omega, by omega⟩, Int.toNat_natCast]
theorem fold_next (bt : Int → Int → Int) (v : Int) (at_ : List Way) (l : List Int) (k : Nat) (h : k < l.length) : (l.take (k + 1)).foldl (edge bt v at_) ⟨-1, -1⟩ = edge bt v at_ ((l.take k).foldl (edge bt v at_) ⟨-1, -1⟩) (l.getD k default) := by
  have e : l.getD k default = l[k] := by simp [h]
  rw [List.take_succ_eq_append_getElem h, List.foldl_append, e]; rfl
theorem step_fn (p : List Instr) (w : List Int) (fc : FuncId) (bt : Int → Int → Int) (hF : ∀ a b, Fn Try.prog fc [.int .i64 a, .int .i64 b] (.int .i64 (bt a b))) (hf : fineB p = true) (hn : ∀ i, 0 ≤ (p.getD i default).n) (hw : w.length = p.length) (at_ : List Way) (hl : at_.length = p.length + 1) (pc : Nat) (hpc : pc < p.length) :
    FnH Try.prog 201 [.ref (mA p w (loopsL p) fc), .int .i64 pc, .own 4] [(4, .row 182 2 (at_.map eWay))] (fun r h' => r = .agg (eWay (nodeW bt p w at_ pc)) ∧ h' = [(4, .row 182 2 (at_.map eWay))]) := by
  refine FnH.drop' (fnhb Try.func201 (entered_of (by kernel_rfl)) rfl rfl ?_)
  have hfp := fine_inv hf
  have hmost := hfp.most
  have c1 := kAdd_fn (w.getD pc default) 0
  rw [addI_0] at c1
  have c2 := Next_fn p pc (by omega)
  rw [nextF_fine hf hpc] at c2
  have h1 := wAt_ok w pc
  obtain ⟨x, hx⟩ : ∃ x, p.getD pc default = x := ⟨_, rfl⟩
  obtain ⟨wz, hwz⟩ : ∃ z, w.getD pc default = z := ⟨_, rfl⟩
  rw [hwz] at c1
  have ev : insI wz = wAt w pc := by rw [wAt, hwz]
  rw [ev] at c1
  by_cases h21 : x.op = 21
  · have e : nodeW bt p w at_ pc = ⟨-1, wAt w pc⟩ := by rw [nodeW, hx, if_pos h21]
    rw [e]
    repeat' (first | (show W _ _ _ _ _ _; first | apply kA | refine kB rfl ?_ | refine kC rfl rfl ?_ | refine kD rfl rfl ?_ | apply kE | apply kF | apply kG | apply kH | refine kI (by kernel_rfl) (by kernel_rfl) ?_) | (show O _ _ _ _ _ _ _; first | (show O _ _ _ _ (⟨_, .alloc _, _, _, _, _⟩ :: _) _ _; first | refine ao_alloc (id := 20) rfl rfl rfl rfl rfl rfl rfl ?_) | (show O _ _ _ _ (⟨_, .store _ _ _, _, _, _, _⟩ :: _) _ _; refine kJ rfl rfl rfl rfl rfl rfl rfl rfl rfl rfl rfl ?_) | apply kK) | apply kL | ((first | apply kM | apply kN); (iterate 3 (· exact rfl)); (· first | (show Y _ ⟨_, .indexAddr _ _ _, _, _, _, _⟩ _ _ _; first | exact Y.mk (ok_indexE (hx) rfl rfl rfl rfl rfl (by omega)) | exact Y.mk (ok_indexE (hwz) rfl rfl rfl rfl rfl (by omega))) | (show Y _ ⟨_, .call ⟨.value _, _, _⟩, _, _, _, _⟩ _ _ _; first | exact q_c (c1) rfl) | exact ya)) | refine kO rfl rfl rfl rfl rfl ?_ | refine kP rfl rfl rfl ?_ | ((first | refine kQ rfl rfl ?_ ?_ | refine kR rfl rfl rfl rfl rfl ?_ ?_ | refine kS rfl rfl rfl ?_ ?_) <;> intro hc <;> (try simp only [KL, cond_true, cond_false, beq_iff_eq, bne_iff_ne, ne_eq, reduceCtorEq] at hc) <;> (try (have hT : True := hc; clear hT hc)) <;> (try (exfalso; omega))) | apply kT | apply kU | apply kV | apply kW | refine kX rfl ?_ | apply kY | apply kZ)
    all_goals first | (exfalso; omega) | exact retq rfl ⟨[(4, .row 182 2 (at_.map eWay))], leh, rfl, rfl⟩
  by_cases h16 : x.op = 16
  · have e : nodeW bt p w at_ pc = ⟨wAt w pc, -1⟩ := by rw [nodeW, hx, if_neg h21, if_pos h16]
    rw [e]
    repeat' (first | (show W _ _ _ _ _ _; first | apply kA | refine kB rfl ?_ | refine kC rfl rfl ?_ | refine kD rfl rfl ?_ | apply kE | apply kF | apply kG | apply kH | refine kI (by kernel_rfl) (by kernel_rfl) ?_) | (show O _ _ _ _ _ _ _; first | (show O _ _ _ _ (⟨_, .alloc _, _, _, _, _⟩ :: _) _ _; first | refine ao_alloc (id := 20) rfl rfl rfl rfl rfl rfl rfl ?_) | (show O _ _ _ _ (⟨_, .store _ _ _, _, _, _, _⟩ :: _) _ _; refine kJ rfl rfl rfl rfl rfl rfl rfl rfl rfl rfl rfl ?_) | apply kK) | apply kL | ((first | apply kM | apply kN); (iterate 3 (· exact rfl)); (· first | (show Y _ ⟨_, .indexAddr _ _ _, _, _, _, _⟩ _ _ _; first | exact Y.mk (ok_indexE (hx) rfl rfl rfl rfl rfl (by omega)) | exact Y.mk (ok_indexE (hwz) rfl rfl rfl rfl rfl (by omega))) | (show Y _ ⟨_, .call ⟨.value _, _, _⟩, _, _, _, _⟩ _ _ _; first | exact q_c (c1) rfl) | exact ya)) | refine kO rfl rfl rfl rfl rfl ?_ | refine kP rfl rfl rfl ?_ | ((first | refine kQ rfl rfl ?_ ?_ | refine kR rfl rfl rfl rfl rfl ?_ ?_ | refine kS rfl rfl rfl ?_ ?_) <;> intro hc <;> (try simp only [KL, cond_true, cond_false, beq_iff_eq, bne_iff_ne, ne_eq, reduceCtorEq] at hc) <;> (try (have hT : True := hc; clear hT hc)) <;> (try (exfalso; omega))) | apply kT | apply kU | apply kV | apply kW | refine kX rfl ?_ | apply kY | apply kZ)
    all_goals first | (exfalso; omega) | exact retq rfl ⟨[(4, .row 182 2 (at_.map eWay))], leh, rfl, rfl⟩
  have e : nodeW bt p w at_ pc = (nextL p pc).foldl (edge bt (wAt w pc) at_) ⟨-1, -1⟩ := by rw [nodeW, hx, if_neg h21, if_neg h16]
  rw [e]
  have hnx : ∀ y ∈ nextL p pc, 0 ≤ y ∧ y < p.length := fun y hy => by
    obtain ⟨j, rfl, q1, q2, _⟩ := next_up hfp hn hpc (by rw [hx]; exact h16) hy
    omega
  have hlen := next_len p pc
  repeat' (first | (show W _ _ _ _ _ _; first | apply kA | refine kB rfl ?_ | refine kC rfl rfl ?_ | refine kD rfl rfl ?_ | apply kE | apply kF | apply kG | apply kH | refine kI (by kernel_rfl) (by kernel_rfl) ?_) | (show O _ _ _ _ _ _ _; first | (show O _ _ _ _ (⟨_, .alloc _, _, _, _, _⟩ :: _) _ _; first | refine ao_alloc (id := 20) rfl rfl rfl rfl rfl rfl rfl ?_ | refine ao_alloc (id := 21) rfl rfl rfl rfl rfl rfl rfl ?_) | (show O _ _ _ _ (⟨_, .store _ _ _, _, _, _, _⟩ :: _) _ _; refine kJ rfl rfl rfl rfl rfl rfl rfl rfl rfl rfl rfl ?_) | apply kK) | apply kL | ((first | apply kM | apply kN); (iterate 3 (· exact rfl)); (· first | (show Y _ ⟨_, .indexAddr _ _ _, _, _, _, _⟩ _ _ _; first | exact Y.mk (ok_indexE (hx) rfl rfl rfl rfl rfl (by omega)) | exact Y.mk (ok_indexE (hwz) rfl rfl rfl rfl rfl (by omega))) | (show Y _ ⟨_, .call ⟨.value _, _, _⟩, _, _, _, _⟩ _ _ _; first | exact q_c (c1) rfl | exact q_c (c2) rfl) | exact ya)) | refine kO rfl rfl rfl rfl rfl ?_ | refine kP rfl rfl rfl ?_ | ((first | refine kQ rfl rfl ?_ ?_ | refine kR rfl rfl rfl rfl rfl ?_ ?_ | refine kS rfl rfl rfl ?_ ?_) <;> intro hc <;> (try simp only [KL, cond_true, cond_false, beq_iff_eq, bne_iff_ne, ne_eq, reduceCtorEq] at hc) <;> (try (have hT : True := hc; clear hT hc)) <;> (try (exfalso; omega))) | apply kT | apply kU | apply kV | apply kW | refine kX rfl ?_ | apply kY | apply kZ)
  all_goals first | (exfalso; omega) | skip
  refine wloop (fun k : Nat => ([(0, .ref (mA p w (loopsL p) fc)), (2, .own 4), (6, .ptr 20 0), (7, .int .i64 (wAt w pc)), (8, .ptr 21 0), (41, .lst 1 ((nextL p pc).map eI)), (42, .int .i64 (nextL p pc).length), (43, .int .i64 k)], [(20, .blk 182 (eWay ⟨0, 0⟩)), (21, .blk 182 (eWay (((nextL p pc).take k).foldl (edge bt (wAt w pc) at_) ⟨-1, -1⟩))), (4, .row 182 2 (at_.map eWay))])) (fun k => k ≤ (nextL p pc).length) (fun k => (nextL p pc).length - k) 0 (Nat.zero_le _) les leh (fun k hk => ?_)
  rcases Nat.lt_or_eq_of_le hk with hkl | hkl
  · have hfn := fold_next bt (wAt w pc) at_ (nextL p pc) k hkl
    have hy := hnx _ (getD_mem hkl)
    obtain ⟨y, hyd⟩ : ∃ y, (nextL p pc).getD k default = y := ⟨_, rfl⟩
    rw [hyd] at hfn hy
    obtain ⟨j, rfl⟩ : ∃ j : Nat, y = j := ⟨y.toNat, by omega⟩
    generalize ((nextL p pc).take k).foldl (edge bt (wAt w pc) at_) ⟨-1, -1⟩ = o at *
    rw [edge, Int.toNat_natCast] at hfn
    obtain ⟨z, hz⟩ : ∃ z, at_.getD j default = z := ⟨_, rfl⟩
    rw [hz] at hfn
    repeat' (first | (show W _ _ _ _ _ _; first | apply kA | refine kB rfl ?_ | refine kC rfl rfl ?_ | refine kD rfl rfl ?_ | apply kE | apply kF | apply kG | apply kH) | (show O _ _ _ _ _ _ _; first | (show O _ _ _ _ (⟨_, .store _ _ _, _, _, _, _⟩ :: _) _ _; refine kJ rfl rfl rfl rfl rfl rfl rfl rfl rfl rfl rfl ?_) | apply kK) | apply kL | ((first | apply kM | apply kN); (iterate 3 (· exact rfl)); (· first | (show Y _ ⟨_, .indexAddr _ _ _, _, _, _, _⟩ _ _ _; first | exact Y.mk (ok_indexE (hyd) rfl rfl rfl rfl rfl (by omega))) | exact ya)) | refine kO rfl rfl rfl rfl rfl ?_ | refine kP rfl rfl rfl ?_ | ((first | refine kQ rfl rfl ?_ ?_ | refine kR rfl rfl rfl rfl rfl ?_ ?_ | refine kS rfl rfl rfl ?_ ?_) <;> intro hc <;> (try simp only [KL, cond_true, cond_false, beq_iff_eq, bne_iff_ne, ne_eq, reduceCtorEq] at hc) <;> (try (have hT : True := hc; clear hT hc)) <;> (try (exfalso; omega))) | apply kT | apply kU | apply kV | apply kW | refine kX rfl ?_ | apply kY | apply kZ)
    all_goals first | (exfalso; omega) | skip
    refine wle (s' := [(0, .ref (mA p w (loopsL p) fc)), (2, .own 4), (6, .ptr 20 0), (7, .int .i64 (wAt w pc)), (8, .ptr 21 0), (10, .int .i64 (j : Int)), (41, .lst 1 ((nextL p pc).map eI)), (42, .int .i64 (nextL p pc).length), (43, .int .i64 k)]) (h' := [(20, .blk 182 (eWay ⟨0, 0⟩)), (21, .blk 182 (eWay o)), (4, .row 182 2 (at_.map eWay))]) les leh ?_
    refine wdrawC (H := fun y : Way => [(20, .blk 182 (eWay ⟨0, 0⟩)), (21, .blk 182 (eWay y)), (4, .row 182 2 (at_.map eWay))]) (ok := fun _ => True) (tn := [12]) (ln := [2]) o leh (by kernel_rfl) (by kernel_rfl) (by kernel_rfl) trivial ?_
    repeat' (first | (show W _ _ _ _ _ _; first | apply kA | refine kB rfl ?_ | refine kC rfl rfl ?_ | refine kD rfl rfl ?_ | apply kE | apply kF | apply kG | apply kH) | (show O _ _ _ _ _ _ _; first | (show O _ _ _ _ (⟨_, .store _ _ _, _, _, _, _⟩ :: _) _ _; refine kJ rfl rfl rfl rfl rfl rfl rfl rfl rfl rfl rfl ?_) | apply kK) | apply kL | ((first | apply kM | apply kN); (iterate 3 (· exact rfl)); (· first | (show Y _ ⟨_, .indexAddr _ _ _, _, _, _, _⟩ _ _ _; first | exact q_ioE (j) rfl rfl rfl rfl rfl rfl (by omega) (by omega)) | (show Y _ ⟨_, .load _ _, _, _, _, _⟩ _ _ _; first | exact q_pE' hz) | (show Y _ ⟨_, .call ⟨.value _, _, _⟩, _, _, _, _⟩ _ _ _; first | exact q_c (both_fn _ _) rfl | exact q_c (best_fn hF _ _) rfl) | exact ya)) | (show C _ _ _ _ _ _ _ _ _ _ _; first | refine cnil ?_ | (apply c_any; (· exact rfl); (· exact rfl); (· intro y' hy'; first | (show Y _ ⟨_, .indexAddr _ _ _, _, _, _, _⟩ _ _ _; first | exact q_ioE (j) rfl rfl rfl rfl rfl rfl (by omega) (by omega)) | (show Y _ ⟨_, .load _ _, _, _, _, _⟩ _ _ _; first | exact q_pE' hz) | (show Y _ ⟨_, .call ⟨.value _, _, _⟩, _, _, _, _⟩ _ _ _; first | exact q_c (both_fn _ _) rfl | exact q_c (best_fn hF _ _) rfl) | exact ya)) | (apply c_ld; (· exact rfl); (· exact rfl); (· exact rfl); (· first | exact q_pE' hz | (show Y _ ⟨_, .indexAddr _ _ _, _, _, _, _⟩ _ _ _; first | exact q_ioE (j) rfl rfl rfl rfl rfl rfl (by omega) (by omega)) | (show Y _ ⟨_, .load _ _, _, _, _, _⟩ _ _ _; first | exact q_pE' hz) | (show Y _ ⟨_, .call ⟨.value _, _, _⟩, _, _, _, _⟩ _ _ _; first | exact q_c (both_fn _ _) rfl | exact q_c (best_fn hF _ _) rfl) | exact ya)) | refine c_grdN rfl rfl rfl ?_) | refine kO rfl rfl rfl rfl rfl ?_ | refine kP rfl rfl rfl ?_ | ((first | refine kQ rfl rfl ?_ ?_ | refine kR rfl rfl rfl rfl rfl ?_ ?_ | refine kS rfl rfl rfl ?_ ?_ | refine c_grd rfl rfl rfl ?_ ?_) <;> intro hc <;> (try simp only [KL, cond_true, cond_false, beq_iff_eq, bne_iff_ne, ne_eq, reduceCtorEq] at hc) <;> (try (have hT : True := hc; clear hT hc)) <;> (try (exfalso; omega))) | apply kT | apply kU | apply kV | apply kW | refine kX rfl ?_ | apply kY | apply kZ)
    refine c_tu (x' := (⟨bestI bt o.thr (moreI (wAt w pc) z.thr), o.fin⟩ : Way)) rfl rfl trivial (TuO.post (tu_st (sto_B rfl rfl rfl rfl rfl rfl (Nat.le_of_ble_eq_true rfl)) rfl) leh) ?_
    repeat' (first | (show W _ _ _ _ _ _; first | apply kA | refine kB rfl ?_ | refine kC rfl rfl ?_ | refine kD rfl rfl ?_ | apply kE | apply kF | apply kG | apply kH) | (show O _ _ _ _ _ _ _; first | (show O _ _ _ _ (⟨_, .store _ _ _, _, _, _, _⟩ :: _) _ _; refine kJ rfl rfl rfl rfl rfl rfl rfl rfl rfl rfl rfl ?_) | apply kK) | apply kL | ((first | apply kM | apply kN); (iterate 3 (· exact rfl)); (· first | exact ya)) | (show C _ _ _ _ _ _ _ _ _ _ _; first | refine cnil ?_ | (apply c_any; (· exact rfl); (· exact rfl); (· intro y' hy'; first | exact ya)) | (apply c_ld; (· exact rfl); (· exact rfl); (· exact rfl); (· first | exact ya)) | refine c_grdN rfl rfl rfl ?_) | refine kO rfl rfl rfl rfl rfl ?_ | refine kP rfl rfl rfl ?_ | ((first | refine kQ rfl rfl ?_ ?_ | refine kR rfl rfl rfl rfl rfl ?_ ?_ | refine kS rfl rfl rfl ?_ ?_ | refine c_grd rfl rfl rfl ?_ ?_) <;> intro hc <;> (try simp only [KL, cond_true, cond_false, beq_iff_eq, bne_iff_ne, ne_eq, reduceCtorEq] at hc) <;> (try (have hT : True := hc; clear hT hc)) <;> (try (exfalso; omega))) | apply kT | apply kU | apply kV | apply kW | refine kX rfl ?_ | apply kY | apply kZ)
    refine wdrawC (H := fun y : Way => [(20, .blk 182 (eWay ⟨0, 0⟩)), (21, .blk 182 (eWay y)), (4, .row 182 2 (at_.map eWay))]) (ok := fun _ => True) (tn := [12]) (ln := [2]) (⟨bestI bt o.thr (moreI (wAt w pc) z.thr), o.fin⟩ : Way) leh (by kernel_rfl) (by kernel_rfl) (by kernel_rfl) trivial ?_
    repeat' (first | (show W _ _ _ _ _ _; first | apply kA | refine kB rfl ?_ | refine kC rfl rfl ?_ | refine kD rfl rfl ?_ | apply kE | apply kF | apply kG | apply kH) | (show O _ _ _ _ _ _ _; first | (show O _ _ _ _ (⟨_, .store _ _ _, _, _, _, _⟩ :: _) _ _; refine kJ rfl rfl rfl rfl rfl rfl rfl rfl rfl rfl rfl ?_) | apply kK) | apply kL | ((first | apply kM | apply kN); (iterate 3 (· exact rfl)); (· first | (show Y _ ⟨_, .indexAddr _ _ _, _, _, _, _⟩ _ _ _; first | exact q_ioE (j) rfl rfl rfl rfl rfl rfl (by omega) (by omega)) | (show Y _ ⟨_, .load _ _, _, _, _, _⟩ _ _ _; first | exact q_pE' hz) | (show Y _ ⟨_, .call ⟨.value _, _, _⟩, _, _, _, _⟩ _ _ _; first | exact q_c (both_fn _ _) rfl | exact q_c (best_fn hF _ _) rfl) | exact ya)) | (show C _ _ _ _ _ _ _ _ _ _ _; first | refine cnil ?_ | (apply c_any; (· exact rfl); (· exact rfl); (· intro y' hy'; first | (show Y _ ⟨_, .indexAddr _ _ _, _, _, _, _⟩ _ _ _; first | exact q_ioE (j) rfl rfl rfl rfl rfl rfl (by omega) (by omega)) | (show Y _ ⟨_, .load _ _, _, _, _, _⟩ _ _ _; first | exact q_pE' hz) | (show Y _ ⟨_, .call ⟨.value _, _, _⟩, _, _, _, _⟩ _ _ _; first | exact q_c (both_fn _ _) rfl | exact q_c (best_fn hF _ _) rfl) | exact ya)) | (apply c_ld; (· exact rfl); (· exact rfl); (· exact rfl); (· first | exact q_pE' hz | (show Y _ ⟨_, .indexAddr _ _ _, _, _, _, _⟩ _ _ _; first | exact q_ioE (j) rfl rfl rfl rfl rfl rfl (by omega) (by omega)) | (show Y _ ⟨_, .load _ _, _, _, _, _⟩ _ _ _; first | exact q_pE' hz) | (show Y _ ⟨_, .call ⟨.value _, _, _⟩, _, _, _, _⟩ _ _ _; first | exact q_c (both_fn _ _) rfl | exact q_c (best_fn hF _ _) rfl) | exact ya)) | refine c_grdN rfl rfl rfl ?_) | refine kO rfl rfl rfl rfl rfl ?_ | refine kP rfl rfl rfl ?_ | ((first | refine kQ rfl rfl ?_ ?_ | refine kR rfl rfl rfl rfl rfl ?_ ?_ | refine kS rfl rfl rfl ?_ ?_ | refine c_grd rfl rfl rfl ?_ ?_) <;> intro hc <;> (try simp only [KL, cond_true, cond_false, beq_iff_eq, bne_iff_ne, ne_eq, reduceCtorEq] at hc) <;> (try (have hT : True := hc; clear hT hc)) <;> (try (exfalso; omega))) | apply kT | apply kU | apply kV | apply kW | refine kX rfl ?_ | apply kY | apply kZ)
    refine c_tu (x' := (⟨bestI bt o.thr (moreI (wAt w pc) z.thr), bestI bt o.fin (moreI (wAt w pc) z.fin)⟩ : Way)) rfl rfl trivial (TuO.post (tu_st (sto_B rfl rfl rfl rfl rfl rfl (Nat.le_of_ble_eq_true rfl)) rfl) leh) ?_
    repeat' (first | (show W _ _ _ _ _ _; first | apply kA | refine kB rfl ?_ | refine kC rfl rfl ?_ | refine kD rfl rfl ?_ | apply kE | apply kF | apply kG | apply kH) | (show O _ _ _ _ _ _ _; first | (show O _ _ _ _ (⟨_, .store _ _ _, _, _, _, _⟩ :: _) _ _; refine kJ rfl rfl rfl rfl rfl rfl rfl rfl rfl rfl rfl ?_) | apply kK) | apply kL | ((first | apply kM | apply kN); (iterate 3 (· exact rfl)); (· first | exact ya)) | (show C _ _ _ _ _ _ _ _ _ _ _; first | refine cnil ?_ | (apply c_any; (· exact rfl); (· exact rfl); (· intro y' hy'; first | exact ya)) | (apply c_ld; (· exact rfl); (· exact rfl); (· exact rfl); (· first | exact ya)) | refine c_grdN rfl rfl rfl ?_) | refine kO rfl rfl rfl rfl rfl ?_ | refine kP rfl rfl rfl ?_ | ((first | refine kQ rfl rfl ?_ ?_ | refine kR rfl rfl rfl rfl rfl ?_ ?_ | refine kS rfl rfl rfl ?_ ?_ | refine c_grd rfl rfl rfl ?_ ?_) <;> intro hc <;> (try simp only [KL, cond_true, cond_false, beq_iff_eq, bne_iff_ne, ne_eq, reduceCtorEq] at hc) <;> (try (have hT : True := hc; clear hT hc)) <;> (try (exfalso; omega))) | apply kT | apply kU | apply kV | apply kW | refine kX rfl ?_ | apply kY | apply kZ)
    exact ⟨k + 1, by omega, by omega, les, by simp only [hfn]; exact leh⟩
  · subst hkl
    rw [List.take_length]
    repeat' (first | (show W _ _ _ _ _ _; first | apply kA | refine kB rfl ?_ | refine kC rfl rfl ?_ | refine kD rfl rfl ?_ | apply kE | apply kF | apply kG | apply kH | refine kI (by kernel_rfl) (by kernel_rfl) ?_) | (show O _ _ _ _ _ _ _; first | (show O _ _ _ _ (⟨_, .store _ _ _, _, _, _, _⟩ :: _) _ _; refine kJ rfl rfl rfl rfl rfl rfl rfl rfl rfl rfl rfl ?_) | apply kK) | apply kL | ((first | apply kM | apply kN); (iterate 3 (· exact rfl)); (· first | exact ya)) | refine kO rfl rfl rfl rfl rfl ?_ | refine kP rfl rfl rfl ?_ | ((first | refine kQ rfl rfl ?_ ?_ | refine kR rfl rfl rfl rfl rfl ?_ ?_ | refine kS rfl rfl rfl ?_ ?_) <;> intro hc <;> (try simp only [KL, cond_true, cond_false, beq_iff_eq, bne_iff_ne, ne_eq, reduceCtorEq] at hc) <;> (try (have hT : True := hc; clear hT hc)) <;> (try (exfalso; omega))) | apply kT | apply kU | apply kV | apply kW | refine kX rfl ?_ | apply kY | apply kZ)
    all_goals first | (exfalso; omega) | exact retq rfl ⟨[(4, .row 182 2 (at_.map eWay))], leh, rfl, rfl⟩
def initTo (n j : Nat) : List Way := List.replicate j ⟨-1, -1⟩ ++ List.replicate (n - j) ⟨0, 0⟩
theorem init_len {n j : Nat} (h : j ≤ n) : (initTo n j).length = n := by simp [initTo]; omega
theorem init_next {n j : Nat} (h : j < n) : (initTo n j).set j ⟨-1, -1⟩ = initTo n (j + 1) := by
  rw [initTo, initTo, show n - j = (n - (j + 1)) + 1 by omega, List.replicate_succ, List.set_append_right _ _ (by simp), List.replicate_succ', List.append_assoc]
  simp
theorem atTo_fresh (bt : Int → Int → Int) (p : List Instr) (w : List Int) (L : List Span) (rec : Span → Way) (part : Span) : ∀ (k q : Nat), (q : Int) ≤ part.to - k → (atTo bt p w L rec part k).getD q default = ⟨-1, -1⟩
  | 0, q, h => by rw [atTo, getD_rep]; split <;> rfl
  | k + 1, q, h => by rw [atTo, getD_setG, if_neg (by omega)]; exact atTo_fresh bt p w L rec part k q (by omega)
theorem set_same {α : Type} {l : List α} {i : Nat} {d v : α} (h : l.getD i d = v) : l.set i v = l := by
  apply List.ext_getElem? fun j => ?_
  rw [List.getElem?_set]
  split
  · rename_i e; subst e
    split
    · rename_i h2; rw [List.getD_eq_getElem?_getD, List.getElem?_eq_getElem h2] at h; rw [List.getElem?_eq_getElem h2]; exact congrArg some h.symm
    · rename_i h2; rw [List.getElem?_eq_none (by omega)]
  · rfl
theorem right_back {x : Instr} (h : rightI x = true) (h16 : x.op = 16) : 1 ≤ x.c ∧ x.c ≤ 255 := by
  rw [rightI, h16] at h
  simp [kindsOf, kindsN, fitsB] at h
  omega
def ρs (i : Nat) : Nat := [30, 31, 32, 33, 11].getD i i
set_option maxHeartbeats 4000000 in
theorem part_fn (p : List Instr) (w : List Int) (fc : FuncId) (bt : Int → Int → Int) (hF : ∀ a b, Fn Try.prog fc [.int .i64 a, .int .i64 b] (.int .i64 (bt a b))) (hf : fineB p = true) (hn : ∀ i, 0 ≤ (p.getD i default).n) (hw : w.length = p.length) :
    ∀ (f : Nat) (part : Span), isPart p part → sizeS part ≤ f → Fn Try.prog 174 [.ref (mA p w (loopsL p) fc), .agg (eSpan part)] (.agg (eWay (partW bt p w (loopsL p) f part))) := by
  have hfp := fine_inv hf
  have hmost := hfp.most
  have hll : (loopsL p).length ≤ 64 := Nat.le_trans (loopsTo_len p p.length) hmost
  intro f
  induction f with
  | zero =>
    intro part hp hs
    have := part_sound hfp hn hp
    unfold sizeS at hs; omega
  | succ f ih =>
  intro part hp hs
  have hso := part_sound hfp hn hp
  have hsz : (sizeS part : Int) = part.to + 1 - part.frm := by unfold sizeS; omega
  refine fnb Try.func174 (entered_of (by kernel_rfl)) rfl rfl rfl ?_
  repeat' (first | (show W _ _ _ _ _ _; first | apply kA | refine kB rfl ?_ | refine kC rfl rfl ?_ | refine kD rfl rfl ?_ | apply kE | apply kF | apply kG | apply kH | refine kI (by kernel_rfl) (by kernel_rfl) ?_) | (show O _ _ _ _ _ _ _; first | (show O _ _ _ _ (⟨_, .alloc _, _, _, _, _⟩ :: _) _ _; first | refine ao_alloc (id := 20) rfl rfl rfl rfl rfl rfl rfl ?_) | (show O _ _ _ _ (⟨_, .store _ _ _, _, _, _, _⟩ :: _) _ _; refine kJ rfl rfl rfl rfl rfl rfl rfl rfl rfl rfl rfl ?_) | apply kK) | apply kL | ((first | apply kM | apply kN); (iterate 3 (· exact rfl)); (· first | exact ya)) | refine kO rfl rfl rfl rfl rfl ?_ | refine kP rfl rfl rfl ?_ | ((first | refine kQ rfl rfl ?_ ?_ | refine kR rfl rfl rfl rfl rfl ?_ ?_ | refine kS rfl rfl rfl ?_ ?_) <;> intro hc <;> (try simp only [KL, cond_true, cond_false, beq_iff_eq, bne_iff_ne, ne_eq, reduceCtorEq] at hc) <;> (try (have hT : True := hc; clear hT hc)) <;> (try (exfalso; omega))) | apply kT | apply kU | apply kV | apply kW | refine kX rfl ?_ | apply kY | apply kZ)
  refine ole (s' := [(0, .ref (mA p w (loopsL p) fc)), (3, .ref (eSpan part)), (4, .ptr 20 0), (15, .int .i64 ((p.length + 1 : Nat) : Int))]) (h' := [(20, .blk 182 (eWay ⟨0, 0⟩))]) les leh ?_
  (refine ao_mk (f := eWay) (d := (⟨0, 0⟩ : Way)) (id := 11) (by_ := 16) (sz := 2) rfl rfl rfl rfl rfl rfl rfl rfl rfl rfl ?_ ?_ rfl rfl rfl rfl ?_; (· omega); (· omega))
  repeat' (first | (show W _ _ _ _ _ _; first | apply kA | refine kB rfl ?_ | refine kC rfl rfl ?_ | refine kD rfl rfl ?_ | apply kE | apply kF | apply kG | apply kH | refine kI (by kernel_rfl) (by kernel_rfl) ?_) | (show O _ _ _ _ _ _ _; first | (show O _ _ _ _ (⟨_, .store _ _ _, _, _, _, _⟩ :: _) _ _; refine kJ rfl rfl rfl rfl rfl rfl rfl rfl rfl rfl rfl ?_) | apply kK) | apply kL | ((first | apply kM | apply kN); (iterate 3 (· exact rfl)); (· first | exact ya)) | refine kO rfl rfl rfl rfl rfl ?_ | refine kP rfl rfl rfl ?_ | ((first | refine kQ rfl rfl ?_ ?_ | refine kR rfl rfl rfl rfl rfl ?_ ?_ | refine kS rfl rfl rfl ?_ ?_) <;> intro hc <;> (try simp only [KL, cond_true, cond_false, beq_iff_eq, bne_iff_ne, ne_eq, reduceCtorEq] at hc) <;> (try (have hT : True := hc; clear hT hc)) <;> (try (exfalso; omega))) | apply kT | apply kU | apply kV | apply kW | refine kX rfl ?_ | apply kY | apply kZ)
  refine wloop (fun j : Nat => ([(0, .ref (mA p w (loopsL p) fc)), (3, .ref (eSpan part)), (4, .ptr 20 0), (5, .own 11), (18, .int .i64 ((p.length + 1 : Nat) : Int)), (19, .int .i64 j)], [(20, .blk 182 (eWay ⟨0, 0⟩)), (11, .row 182 2 ((initTo (p.length + 1) j).map eWay))])) (fun j => j ≤ p.length + 1) (fun j => p.length + 1 - j) 0 (Nat.zero_le _) les leh (fun j hj => ?_)
  have hil := init_len hj
  rcases Nat.lt_or_eq_of_le hj with hjl | hjl
  · have hin := init_next hjl
    repeat' (first | (show W _ _ _ _ _ _; first | apply kA | refine kB rfl ?_ | refine kC rfl rfl ?_ | refine kD rfl rfl ?_ | apply kE | apply kF | apply kG | apply kH | refine kI (by kernel_rfl) (by kernel_rfl) ?_) | (show O _ _ _ _ _ _ _; first | (show O _ _ _ _ (⟨_, .store _ _ _, _, _, _, _⟩ :: _) _ _; refine kJ rfl rfl rfl rfl rfl rfl rfl rfl rfl rfl rfl ?_) | apply kK) | apply kL | ((first | apply kM | apply kN); (iterate 3 (· exact rfl)); (· first | exact ya)) | refine kO rfl rfl rfl rfl rfl ?_ | refine kP rfl rfl rfl ?_ | ((first | refine kQ rfl rfl ?_ ?_ | refine kR rfl rfl rfl rfl rfl ?_ ?_ | refine kS rfl rfl rfl ?_ ?_) <;> intro hc <;> (try simp only [KL, cond_true, cond_false, beq_iff_eq, bne_iff_ne, ne_eq, reduceCtorEq] at hc) <;> (try (have hT : True := hc; clear hT hc)) <;> (try (exfalso; omega))) | apply kT | apply kU | apply kV | apply kW | refine kX rfl ?_ | apply kY | apply kZ)
    all_goals first | (exfalso; omega) | skip
    (refine ao_se (x' := (⟨-1, -1⟩ : Way)) rfl rfl rfl rfl rfl rfl rfl rfl rfl ?_ rfl rfl rfl ?_; (· (first | omega | ((try simp only [List.length_set, List.length_cons, List.length_nil, List.length_append, List.length_map]) <;> omega))))
    repeat' (first | (show W _ _ _ _ _ _; first | apply kA | refine kB rfl ?_ | refine kC rfl rfl ?_ | refine kD rfl rfl ?_ | apply kE | apply kF | apply kG | apply kH | refine kI (by kernel_rfl) (by kernel_rfl) ?_) | (show O _ _ _ _ _ _ _; first | (show O _ _ _ _ (⟨_, .store _ _ _, _, _, _, _⟩ :: _) _ _; refine kJ rfl rfl rfl rfl rfl rfl rfl rfl rfl rfl rfl ?_) | apply kK) | apply kL | ((first | apply kM | apply kN); (iterate 3 (· exact rfl)); (· first | exact ya)) | refine kO rfl rfl rfl rfl rfl ?_ | refine kP rfl rfl rfl ?_ | ((first | refine kQ rfl rfl ?_ ?_ | refine kR rfl rfl rfl rfl rfl ?_ ?_ | refine kS rfl rfl rfl ?_ ?_) <;> intro hc <;> (try simp only [KL, cond_true, cond_false, beq_iff_eq, bne_iff_ne, ne_eq, reduceCtorEq] at hc) <;> (try (have hT : True := hc; clear hT hc)) <;> (try (exfalso; omega))) | apply kT | apply kU | apply kV | apply kW | refine kX rfl ?_ | apply kY | apply kZ)
    exact ⟨j + 1, by omega, by omega, les, by simp only [← hin]; exact leh⟩
  subst hjl
  have hi0 : initTo (p.length + 1) (p.length + 1) = atTo bt p w (loopsL p) (partW bt p w (loopsL p) f) part 0 := by simp [initTo, atTo]
  rw [hi0]
  repeat' (first | (show W _ _ _ _ _ _; first | apply kA | refine kB rfl ?_ | refine kC rfl rfl ?_ | refine kD rfl rfl ?_ | apply kE | apply kF | apply kG | apply kH | refine kI (by kernel_rfl) (by kernel_rfl) ?_) | (show O _ _ _ _ _ _ _; first | (show O _ _ _ _ (⟨_, .store _ _ _, _, _, _, _⟩ :: _) _ _; refine kJ rfl rfl rfl rfl rfl rfl rfl rfl rfl rfl rfl ?_) | apply kK) | apply kL | ((first | apply kM | apply kN); (iterate 3 (· exact rfl)); (· first | exact ya)) | refine kO rfl rfl rfl rfl rfl ?_ | refine kP rfl rfl rfl ?_ | ((first | refine kQ rfl rfl ?_ ?_ | refine kR rfl rfl rfl rfl rfl ?_ ?_ | refine kS rfl rfl rfl ?_ ?_) <;> intro hc <;> (try simp only [KL, cond_true, cond_false, beq_iff_eq, bne_iff_ne, ne_eq, reduceCtorEq] at hc) <;> (try (have hT : True := hc; clear hT hc)) <;> (try (exfalso; omega))) | apply kT | apply kU | apply kV | apply kW | refine kX rfl ?_ | apply kY | apply kZ)
  all_goals first | (exfalso; omega) | skip
  refine wloop (fun k : Nat => ([(0, .ref (mA p w (loopsL p) fc)), (3, .ref (eSpan part)), (4, .ptr 20 0), (5, .own 11), (7, .int .i64 (part.to - k))], [(20, .blk 182 (eWay ⟨0, 0⟩)), (11, .row 182 2 ((atTo bt p w (loopsL p) (partW bt p w (loopsL p) f) part k).map eWay))])) (fun k => k ≤ sizeS part) (fun k => sizeS part - k) 0 (Nat.zero_le _) les leh (fun k hk => ?_)
  have hal := atTo_len bt p w (loopsL p) (partW bt p w (loopsL p) f) part k
  rcases Nat.lt_or_eq_of_le hk with hkl | hkl
  · obtain ⟨pc, hpc⟩ : ∃ pc : Nat, (pc : Int) = part.to - k := ⟨(part.to - k).toNat, by omega⟩
    have hnx : atTo bt p w (loopsL p) (partW bt p w (loopsL p) f) part (k + 1) = (atTo bt p w (loopsL p) (partW bt p w (loopsL p) f) part k).set pc (valW bt p w (loopsL p) (partW bt p w (loopsL p) f) part (atTo bt p w (loopsL p) (partW bt p w (loopsL p) f) part k) pc) := by
      rw [atTo, show (part.to - (k : Int)).toNat = pc by omega]
    have hfr := atTo_fresh bt p w (loopsL p) (partW bt p w (loopsL p) f) part k pc (by omega)
    generalize atTo bt p w (loopsL p) (partW bt p w (loopsL p) f) part k = at_ at *
    refine wle (s' := [(0, .ref (mA p w (loopsL p) fc)), (3, .ref (eSpan part)), (4, .ptr 20 0), (5, .own 11), (7, .int .i64 pc)]) (h' := [(20, .blk 182 (eWay ⟨0, 0⟩)), (11, .row 182 2 (at_.map eWay))]) les leh ?_
    have c1 := outer_fn p w (loopsL p) fc pc part (by omega)
    rw [valW] at hnx
    cases ho : outL (loopsL p) pc part with
    | none =>
      rw [outS, ho, Option.getD_none, Option.isSome_none] at c1
      rw [ho] at hnx
      simp only at hnx
      repeat' (first | (show W _ _ _ _ _ _; first | apply kA | refine kB rfl ?_ | refine kC rfl rfl ?_ | refine kD rfl rfl ?_ | apply kE | apply kF | apply kG | apply kH | refine kI (by kernel_rfl) (by kernel_rfl) ?_) | (show O _ _ _ _ _ _ _; first | (show O _ _ _ _ (⟨_, .alloc _, _, _, _, _⟩ :: _) _ _; first | refine ao_alloc (id := 21) rfl rfl rfl rfl rfl rfl rfl ?_) | (show O _ _ _ _ (⟨_, .store _ _ _, _, _, _, _⟩ :: _) _ _; refine kJ rfl rfl rfl rfl rfl rfl rfl rfl rfl rfl rfl ?_) | apply kK) | apply kL | ((first | apply kM | apply kN); (iterate 3 (· exact rfl)); (· first | (show Y _ ⟨_, .call ⟨.value _, _, _⟩, _, _, _, _⟩ _ _ _; first | exact q_c (c1) rfl) | exact ya)) | refine kO rfl rfl rfl rfl rfl ?_ | refine kP rfl rfl rfl ?_ | ((first | refine kQ rfl rfl ?_ ?_ | refine kR rfl rfl rfl rfl rfl ?_ ?_ | refine kS rfl rfl rfl ?_ ?_) <;> intro hc <;> (try simp only [KL, cond_true, cond_false, beq_iff_eq, bne_iff_ne, ne_eq, reduceCtorEq] at hc) <;> (try (have hT : True := hc; clear hT hc)) <;> (try (exfalso; omega))) | apply kT | apply kU | apply kV | apply kW | refine kX rfl ?_ | apply kY | apply kZ)
      all_goals first | (exfalso; omega) | skip
      refine zcall (fun i => ρs i) (step_fn p w fc bt hF hf hn hw at_ (by omega) pc (by omega)) rfl rfl leh rfl rfl rfl rfl rfl rfl (fun r h' hR => ?_)
      obtain ⟨rfl, rfl⟩ := hR
      refine ⟨rfl, rfl, ?_⟩
      repeat' (first | (show W _ _ _ _ _ _; first | apply kA | refine kB rfl ?_ | refine kC rfl rfl ?_ | refine kD rfl rfl ?_ | apply kE | apply kF | apply kG | apply kH | refine kI (by kernel_rfl) (by kernel_rfl) ?_) | (show O _ _ _ _ _ _ _; first | (show O _ _ _ _ (⟨_, .store _ _ _, _, _, _, _⟩ :: _) _ _; refine kJ rfl rfl rfl rfl rfl rfl rfl rfl rfl rfl rfl ?_) | apply kK) | apply kL | ((first | apply kM | apply kN); (iterate 3 (· exact rfl)); (· first | (show Y _ ⟨_, .indexAddr _ _ _, _, _, _, _⟩ _ _ _; first | exact q_ioE (pc) rfl rfl rfl rfl rfl rfl (by omega) (by omega)) | exact ya)) | refine kO rfl rfl rfl rfl rfl ?_ | refine kP rfl rfl rfl ?_ | ((first | refine kQ rfl rfl ?_ ?_ | refine kR rfl rfl rfl rfl rfl ?_ ?_ | refine kS rfl rfl rfl ?_ ?_) <;> intro hc <;> (try simp only [KL, cond_true, cond_false, beq_iff_eq, bne_iff_ne, ne_eq, reduceCtorEq] at hc) <;> (try (have hT : True := hc; clear hT hc)) <;> (try (exfalso; omega))) | apply kT | apply kU | apply kV | apply kW | refine kX rfl ?_ | apply kY | apply kZ)
      (refine ao_se (x' := nodeW bt p w at_ pc) rfl rfl rfl rfl rfl rfl rfl rfl rfl ?_ rfl rfl rfl ?_; (· (first | omega | ((try simp only [List.length_set, List.length_cons, List.length_nil, List.length_append, List.length_map]) <;> omega))))
      repeat' (first | (show W _ _ _ _ _ _; first | apply kA | refine kB rfl ?_ | refine kC rfl rfl ?_ | refine kD rfl rfl ?_ | apply kE | apply kF | apply kG | apply kH | refine kI (by kernel_rfl) (by kernel_rfl) ?_) | (show O _ _ _ _ _ _ _; first | (show O _ _ _ _ (⟨_, .store _ _ _, _, _, _, _⟩ :: _) _ _; refine kJ rfl rfl rfl rfl rfl rfl rfl rfl rfl rfl rfl ?_) | apply kK) | apply kL | ((first | apply kM | apply kN); (iterate 3 (· exact rfl)); (· first | exact ya)) | refine kO rfl rfl rfl rfl rfl ?_ | refine kP rfl rfl rfl ?_ | ((first | refine kQ rfl rfl ?_ ?_ | refine kR rfl rfl rfl rfl rfl ?_ ?_ | refine kS rfl rfl rfl ?_ ?_) <;> intro hc <;> (try simp only [KL, cond_true, cond_false, beq_iff_eq, bne_iff_ne, ne_eq, reduceCtorEq] at hc) <;> (try (have hT : True := hc; clear hT hc)) <;> (try (exfalso; omega))) | apply kT | apply kU | apply kV | apply kW | refine kX rfl ?_ | apply kY | apply kZ)
      exact ⟨k + 1, by omega, by omega, les, by simp only [hnx]; exact leh⟩
    | some s =>
      rw [outS, ho, Option.getD_some, Option.isSome_some] at c1
      rw [ho] at hnx
      simp only at hnx
      obtain ⟨s1, ⟨s2, s3, s4⟩, s5⟩ := outL_some.1 ho
      have t1 := loop_sound hfp hn s1
      have t2 := in_part hfp hn hp s1 s2
      by_cases hfe : s.frm = pc
      · rw [if_pos hfe] at hnx
        have c2 := ih s (.inl s1) (by unfold sizeS at *; omega)
        have t3 := right_back (hfp.right s.to.toNat (by omega)) t1.2.2.2.1
        have c3 := rounds_fn (p := p) (w := w) (L := loopsL p) hF (partW bt p w (loopsL p) f s) (at_.getD (s.to + 1).toNat default) (p.getD s.to.toNat default).c (by omega)
        repeat' (first | (show W _ _ _ _ _ _; first | apply kA | refine kB rfl ?_ | refine kC rfl rfl ?_ | refine kD rfl rfl ?_ | apply kE | apply kF | apply kG | apply kH) | (show O _ _ _ _ _ _ _; first | (show O _ _ _ _ (⟨_, .alloc _, _, _, _, _⟩ :: _) _ _; first | refine ao_alloc (id := 21) rfl rfl rfl rfl rfl rfl rfl ?_) | (show O _ _ _ _ (⟨_, .store _ _ _, _, _, _, _⟩ :: _) _ _; refine kJ rfl rfl rfl rfl rfl rfl rfl rfl rfl rfl rfl ?_) | apply kK) | apply kL | ((first | apply kM | apply kN); (iterate 3 (· exact rfl)); (· first | (show Y _ ⟨_, .call ⟨.value _, _, _⟩, _, _, _, _⟩ _ _ _; first | exact q_c (c1) rfl) | exact ya)) | refine kO rfl rfl rfl rfl rfl ?_ | refine kP rfl rfl rfl ?_ | ((first | refine kQ rfl rfl ?_ ?_ | refine kR rfl rfl rfl rfl rfl ?_ ?_ | refine kS rfl rfl rfl ?_ ?_) <;> intro hc <;> (try simp only [KL, cond_true, cond_false, beq_iff_eq, bne_iff_ne, ne_eq, reduceCtorEq] at hc) <;> (try (have hT : True := hc; clear hT hc)) <;> (try (exfalso; omega))) | apply kT | apply kU | apply kV | apply kW | refine kX rfl ?_ | apply kY | apply kZ)
        all_goals first | (exfalso; omega) | skip
        refine wle (s' := [(0, .ref (mA p w (loopsL p) fc)), (3, .ref (eSpan part)), (4, .ptr 20 0), (5, .own 11), (7, .int .i64 pc), (8, .ptr 21 0)]) (h' := [(11, .row 182 2 (at_.map eWay)), (20, .blk 182 (eWay ⟨0, 0⟩)), (21, .blk 135 (eSpan s))]) les leh ?_
        repeat' (first | (show W _ _ _ _ _ _; first | refine wdrawS rfl (by kernel_rfl) (by kernel_rfl) (by kernel_rfl) ?_ | apply kA | refine kB rfl ?_ | refine kC rfl rfl ?_ | refine kD rfl rfl ?_ | apply kE | apply kF | apply kG | apply kH | refine kI (by kernel_rfl) (by kernel_rfl) ?_) | (show O _ _ _ _ _ _ _; first | (show O _ _ _ _ (⟨_, .store _ _ _, _, _, _, _⟩ :: _) _ _; refine kJ rfl rfl rfl rfl rfl rfl rfl rfl rfl rfl rfl ?_) | apply kK) | apply kL | ((first | apply kM | apply kN); (iterate 3 (· exact rfl)); (· first | (show Y _ ⟨_, .indexAddr _ _ _, _, _, _, _⟩ _ _ _; first | exact q_ioE (pc) rfl rfl rfl rfl rfl rfl (by omega) (by omega)) | (show Y _ ⟨_, .call ⟨.value _, _, _⟩, _, _, _, _⟩ _ _ _; first | exact q_c (c2) rfl | exact q_c (c3) rfl) | exact ya)) | (show F _ _ _ _ _ _ _ _ _ _ _; first | refine fnil ?_ | (apply f_ld; (· exact rfl); (· exact rfl); (· first | exact yp)) | refine f_se (x' := rndW bt (partW bt p w (loopsL p) f s) (at_.getD (s.to + 1).toNat default) (p.getD s.to.toNat default).c) rfl rfl rfl rfl rfl rfl rfl rfl rfl (by (first | rfl | omega | (simp only [List.length_set]; omega) | simp only [List.length_set])) (by (first | rfl | omega | (simp only [List.length_set]; omega) | simp only [List.length_set])) ?_ | (apply f_k; (· exact rfl); (· intro y' hy'; first | (show Y _ ⟨_, .indexAddr _ _ _, _, _, _, _⟩ _ _ _; first | exact q_ioE (pc) rfl rfl rfl rfl rfl rfl (by omega) (by omega)) | (show Y _ ⟨_, .call ⟨.value _, _, _⟩, _, _, _, _⟩ _ _ _; first | exact q_c (c2) rfl | exact q_c (c3) rfl) | exact ya))) | refine kO rfl rfl rfl rfl rfl ?_ | refine kP rfl rfl rfl ?_ | ((first | refine kQ rfl rfl ?_ ?_ | refine kR rfl rfl rfl rfl rfl ?_ ?_ | refine kS rfl rfl rfl ?_ ?_) <;> intro hc <;> (try simp only [KL, cond_true, cond_false, beq_iff_eq, bne_iff_ne, ne_eq, reduceCtorEq] at hc) <;> (try (have hT : True := hc; clear hT hc)) <;> (try (exfalso; omega))) | apply kT | apply kU | apply kV | apply kW | refine kX rfl ?_ | apply kY | apply kZ)
        all_goals first | (exfalso; omega) | skip
        exact ⟨k + 1, by omega, by omega, les, by simp only [hnx]; exact leh⟩
      · rw [if_neg hfe, set_same hfr] at hnx
        repeat' (first | (show W _ _ _ _ _ _; first | apply kA | refine kB rfl ?_ | refine kC rfl rfl ?_ | refine kD rfl rfl ?_ | apply kE | apply kF | apply kG | apply kH | refine kI (by kernel_rfl) (by kernel_rfl) ?_) | (show O _ _ _ _ _ _ _; first | (show O _ _ _ _ (⟨_, .alloc _, _, _, _, _⟩ :: _) _ _; first | refine ao_alloc (id := 21) rfl rfl rfl rfl rfl rfl rfl ?_) | (show O _ _ _ _ (⟨_, .store _ _ _, _, _, _, _⟩ :: _) _ _; refine kJ rfl rfl rfl rfl rfl rfl rfl rfl rfl rfl rfl ?_) | apply kK) | apply kL | ((first | apply kM | apply kN); (iterate 3 (· exact rfl)); (· first | (show Y _ ⟨_, .call ⟨.value _, _, _⟩, _, _, _, _⟩ _ _ _; first | exact q_c (c1) rfl) | exact ya)) | refine kO rfl rfl rfl rfl rfl ?_ | refine kP rfl rfl rfl ?_ | ((first | refine kQ rfl rfl ?_ ?_ | refine kR rfl rfl rfl rfl rfl ?_ ?_ | refine kS rfl rfl rfl ?_ ?_) <;> intro hc <;> (try simp only [KL, cond_true, cond_false, beq_iff_eq, bne_iff_ne, ne_eq, reduceCtorEq] at hc) <;> (try (have hT : True := hc; clear hT hc)) <;> (try (exfalso; omega))) | apply kT | apply kU | apply kV | apply kW | refine kX rfl ?_ | apply kY | apply kZ)
        all_goals first | (exfalso; omega) | exact ⟨k + 1, by omega, by omega, les, by simp only [hnx]; exact leh⟩
  · subst hkl
    rw [partW]
    repeat' (first | (show W _ _ _ _ _ _; first | apply kA | refine kB rfl ?_ | refine kC rfl rfl ?_ | refine kD rfl rfl ?_ | apply kE | apply kF | apply kG | apply kH | refine kI (by kernel_rfl) (by kernel_rfl) ?_) | (show O _ _ _ _ _ _ _; first | (show O _ _ _ _ (⟨_, .store _ _ _, _, _, _, _⟩ :: _) _ _; refine kJ rfl rfl rfl rfl rfl rfl rfl rfl rfl rfl rfl ?_) | apply kK) | apply kL | ((first | apply kM | apply kN); (iterate 3 (· exact rfl)); (· first | exact ya)) | refine kO rfl rfl rfl rfl rfl ?_ | refine kP rfl rfl rfl ?_ | ((first | refine kQ rfl rfl ?_ ?_ | refine kR rfl rfl rfl rfl rfl ?_ ?_ | refine kS rfl rfl rfl ?_ ?_) <;> intro hc <;> (try simp only [KL, cond_true, cond_false, beq_iff_eq, bne_iff_ne, ne_eq, reduceCtorEq] at hc) <;> (try (have hT : True := hc; clear hT hc)) <;> (try (exfalso; omega))) | apply kT | apply kU | apply kV | apply kW | refine kX rfl ?_ | apply kY | apply kZ)
    all_goals first | (exfalso; omega) | exact retq rfl rfl
def costF (bt : Int → Int → Int) (p : List Instr) (w : List Int) : Int × Int :=
  if (checkF p).2 ≠ 0 then (0, (checkF p).2) else if w.length ≠ p.length then (0, 1) else ((partW bt p w (loopsL p) p.length ⟨0, (p.length : Int) - 1⟩).fin, 0)
theorem whole_fn (p : List Instr) (w : List Int) (fc : FuncId) (bt : Int → Int → Int) (hF : ∀ a b, Fn Try.prog fc [.int .i64 a, .int .i64 b] (.int .i64 (bt a b))) (hn : ∀ i, 0 ≤ (p.getD i default).n) (hlp : p.length ≤ 1000000) (hlw : w.length ≤ 1000000) :
    Fn Try.prog 133 [.lst 5 (p.map eInstr), .lst 1 (w.map eI), .fn (.func fc) [] []] (.tup [.int .i64 (costF bt p w).1, .int .i64 (costF bt p w).2]) := by
  have c1 := check_fn p hlp
  by_cases h1 : (checkF p).2 ≠ 0
  · rw [costF, if_pos h1]
    refine fnb Try.func133 (entered_of (by kernel_rfl)) rfl rfl rfl ?_
    repeat' (first | (show W _ _ _ _ _ _; first | apply kA | refine kB rfl ?_ | refine kC rfl rfl ?_ | refine kD rfl rfl ?_ | apply kE | apply kF | apply kG | apply kH | refine kI (by kernel_rfl) (by kernel_rfl) ?_) | (show O _ _ _ _ _ _ _; first | (show O _ _ _ _ (⟨_, .store _ _ _, _, _, _, _⟩ :: _) _ _; refine kJ rfl rfl rfl rfl rfl rfl rfl rfl rfl rfl rfl ?_) | apply kK) | apply kL | ((first | apply kM | apply kN); (iterate 3 (· exact rfl)); (· first | (show Y _ ⟨_, .call ⟨.value _, _, _⟩, _, _, _, _⟩ _ _ _; first | exact q_c (c1) rfl) | exact ya)) | refine kO rfl rfl rfl rfl rfl ?_ | refine kP rfl rfl rfl ?_ | ((first | refine kQ rfl rfl ?_ ?_ | refine kR rfl rfl rfl rfl rfl ?_ ?_ | refine kS rfl rfl rfl ?_ ?_) <;> intro hc <;> (try simp only [KL, cond_true, cond_false, beq_iff_eq, bne_iff_ne, ne_eq, reduceCtorEq] at hc) <;> (try (have hT : True := hc; clear hT hc)) <;> (try (exfalso; omega))) | apply kT | apply kU | apply kV | apply kW | refine kX rfl ?_ | apply kY | apply kZ)
    all_goals first | (exfalso; omega) | exact retq rfl rfl
  by_cases h2 : w.length ≠ p.length
  · rw [costF, if_neg h1, if_pos h2]
    refine fnb Try.func133 (entered_of (by kernel_rfl)) rfl rfl rfl ?_
    repeat' (first | (show W _ _ _ _ _ _; first | apply kA | refine kB rfl ?_ | refine kC rfl rfl ?_ | refine kD rfl rfl ?_ | apply kE | apply kF | apply kG | apply kH | refine kI (by kernel_rfl) (by kernel_rfl) ?_) | (show O _ _ _ _ _ _ _; first | (show O _ _ _ _ (⟨_, .store _ _ _, _, _, _, _⟩ :: _) _ _; refine kJ rfl rfl rfl rfl rfl rfl rfl rfl rfl rfl rfl ?_) | apply kK) | apply kL | ((first | apply kM | apply kN); (iterate 3 (· exact rfl)); (· first | (show Y _ ⟨_, .call ⟨.value _, _, _⟩, _, _, _, _⟩ _ _ _; first | exact q_c (c1) rfl) | exact ya)) | refine kO rfl rfl rfl rfl rfl ?_ | refine kP rfl rfl rfl ?_ | ((first | refine kQ rfl rfl ?_ ?_ | refine kR rfl rfl rfl rfl rfl ?_ ?_ | refine kS rfl rfl rfl ?_ ?_) <;> intro hc <;> (try simp only [KL, cond_true, cond_false, beq_iff_eq, bne_iff_ne, ne_eq, reduceCtorEq] at hc) <;> (try (have hT : True := hc; clear hT hc)) <;> (try (exfalso; omega))) | apply kT | apply kU | apply kV | apply kW | refine kX rfl ?_ | apply kY | apply kZ)
    all_goals first | (exfalso; omega) | exact retq rfl rfl
  rw [costF, if_neg h1, if_neg h2]
  have hf : fineB p = true := by rw [fineB]; exact decide_eq_true (by omega)
  have c2 := Loops_fn p hlp
  rw [loopsF, if_pos hf] at c2
  have c3 := part_fn p w fc bt hF hf hn (by omega) p.length ⟨0, (p.length : Int) - 1⟩ (.inr rfl) (by unfold sizeS; simp only; omega)
  refine fnb Try.func133 (entered_of (by kernel_rfl)) rfl rfl rfl ?_
  repeat' (first | (show W _ _ _ _ _ _; first | apply kA | refine kB rfl ?_ | refine kC rfl rfl ?_ | refine kD rfl rfl ?_ | apply kE | apply kF | apply kG | apply kH | refine kI (by kernel_rfl) (by kernel_rfl) ?_) | (show O _ _ _ _ _ _ _; first | (show O _ _ _ _ (⟨_, .store _ _ _, _, _, _, _⟩ :: _) _ _; refine kJ rfl rfl rfl rfl rfl rfl rfl rfl rfl rfl rfl ?_) | apply kK) | apply kL | ((first | apply kM | apply kN); (iterate 3 (· exact rfl)); (· first | (show Y _ ⟨_, .call ⟨.value _, _, _⟩, _, _, _, _⟩ _ _ _; first | exact q_c (c1) rfl | exact q_c (c2) rfl | exact q_c (c3) rfl) | exact ya)) | refine kO rfl rfl rfl rfl rfl ?_ | refine kP rfl rfl rfl ?_ | ((first | refine kQ rfl rfl ?_ ?_ | refine kR rfl rfl rfl rfl rfl ?_ ?_ | refine kS rfl rfl rfl ?_ ?_) <;> intro hc <;> (try simp only [KL, cond_true, cond_false, beq_iff_eq, bne_iff_ne, ne_eq, reduceCtorEq] at hc) <;> (try (have hT : True := hc; clear hT hc)) <;> (try (exfalso; omega))) | apply kT | apply kU | apply kV | apply kW | refine kX rfl ?_ | apply kY | apply kZ)
  all_goals first | (exfalso; omega) | exact retq rfl rfl
theorem mostC_fn (a b : Int) : Fn Try.prog 134 [.int .i64 a, .int .i64 b] (.int .i64 (max a b)) := by
  refine fnb Try.func134 (entered_of (by kernel_rfl)) rfl rfl rfl ?_
  repeat' (first | (show W _ _ _ _ _ _; first | apply kA | refine kB rfl ?_ | refine kC rfl rfl ?_ | refine kD rfl rfl ?_ | apply kE | apply kF | apply kG | apply kH | refine kI (by kernel_rfl) (by kernel_rfl) ?_) | (show O _ _ _ _ _ _ _; first | (show O _ _ _ _ (⟨_, .store _ _ _, _, _, _, _⟩ :: _) _ _; refine kJ rfl rfl rfl rfl rfl rfl rfl rfl rfl rfl rfl ?_) | apply kK) | apply kL | ((first | apply kM | apply kN); (iterate 3 (· exact rfl)); (· first | exact ya)) | refine kO rfl rfl rfl rfl rfl ?_ | refine kP rfl rfl rfl ?_ | ((first | refine kQ rfl rfl ?_ ?_ | refine kR rfl rfl rfl rfl rfl ?_ ?_ | refine kS rfl rfl rfl ?_ ?_) <;> intro hc <;> (try simp only [KL, cond_true, cond_false, beq_iff_eq, bne_iff_ne, ne_eq, reduceCtorEq] at hc) <;> (try (have hT : True := hc; clear hT hc)) <;> (try (exfalso; omega))) | apply kT | apply kU | apply kV | apply kW | refine kX rfl ?_ | apply kY | apply kZ)
  exact retq rfl rfl
theorem most_fn (p : List Instr) (w : List Int) (hn : ∀ i, 0 ≤ (p.getD i default).n) (hlp : p.length ≤ 1000000) (hlw : w.length ≤ 1000000) :
    Fn Try.prog 95 [.lst 5 (p.map eInstr), .lst 1 (w.map eI)] (.tup [.int .i64 (costF max p w).1, .int .i64 (costF max p w).2]) := by
  refine fnb Try.func95 (entered_of (by kernel_rfl)) rfl rfl rfl ?_
  repeat' (first | (show W _ _ _ _ _ _; first | apply kA | refine kB rfl ?_ | refine kC rfl rfl ?_ | refine kD rfl rfl ?_ | apply kE | apply kF | apply kG | apply kH | refine kI (by kernel_rfl) (by kernel_rfl) ?_) | (show O _ _ _ _ _ _ _; first | (show O _ _ _ _ (⟨_, .store _ _ _, _, _, _, _⟩ :: _) _ _; refine kJ rfl rfl rfl rfl rfl rfl rfl rfl rfl rfl rfl ?_) | apply kK) | apply kL | ((first | apply kM | apply kN); (iterate 3 (· exact rfl)); (· first | (show Y _ ⟨_, .call ⟨.value _, _, _⟩, _, _, _, _⟩ _ _ _; first | exact q_c (whole_fn p w _ max mostC_fn hn hlp hlw) rfl) | exact ya)) | refine kO rfl rfl rfl rfl rfl ?_ | refine kP rfl rfl rfl ?_ | ((first | refine kQ rfl rfl ?_ ?_ | refine kR rfl rfl rfl rfl rfl ?_ ?_ | refine kS rfl rfl rfl ?_ ?_) <;> intro hc <;> (try simp only [KL, cond_true, cond_false, beq_iff_eq, bne_iff_ne, ne_eq, reduceCtorEq] at hc) <;> (try (have hT : True := hc; clear hT hc)) <;> (try (exfalso; omega))) | apply kT | apply kU | apply kV | apply kW | refine kX rfl ?_ | apply kY | apply kZ)
  exact retq rfl rfl
end Go.Proofs.Ytkkmageogkkchaa
namespace Go.Proofs.Ytkkmageogkkchaa
set_option linter.unusedSimpArgs false
set_option linter.unusedVariables false
set_option maxRecDepth 100000
set_option linter.unusedSimpArgs false
set_option linter.unusedVariables false
set_option maxRecDepth 100000
open Go.RowKit
theorem more12_fn (a b : Int) : Fn Try.prog 136 [.int .i64 a, .int .i64 b] (.int .i64 (moreI a b)) := by
  by_cases h : a < 0 ∨ b < 0
  · rw [moreI, if_pos h]
    refine fnb Try.func136 (entered_of (by kernel_rfl)) rfl rfl rfl ?_
    repeat' (first | (show W _ _ _ _ _ _; first | apply kA | refine kB rfl ?_ | refine kC rfl rfl ?_ | refine kD rfl rfl ?_ | apply kE | apply kF | apply kG | apply kH | refine kI (by kernel_rfl) (by kernel_rfl) ?_) | (show O _ _ _ _ _ _ _; first | (show O _ _ _ _ (⟨_, .store _ _ _, _, _, _, _⟩ :: _) _ _; refine kJ rfl rfl rfl rfl rfl rfl rfl rfl rfl rfl rfl ?_) | apply kK) | apply kL | ((first | apply kM | apply kN); (iterate 3 (· exact rfl)); (· first | exact ya)) | refine kO rfl rfl rfl rfl rfl ?_ | refine kP rfl rfl rfl ?_ | ((first | refine kQ rfl rfl ?_ ?_ | refine kR rfl rfl rfl rfl rfl ?_ ?_ | refine kS rfl rfl rfl ?_ ?_) <;> intro hc <;> (try simp only [KL, cond_true, cond_false, beq_iff_eq, bne_iff_ne, ne_eq, reduceCtorEq] at hc) <;> (try (have hT : True := hc; clear hT hc)) <;> (try (exfalso; omega))) | apply kT | apply kU | apply kV | apply kW | refine kX rfl ?_ | apply kY | apply kZ)
    all_goals first | (exfalso; omega) | exact retq rfl rfl
  · rw [moreI, if_neg h]
    refine fnb Try.func136 (entered_of (by kernel_rfl)) rfl rfl rfl ?_
    repeat' (first | (show W _ _ _ _ _ _; first | apply kA | refine kB rfl ?_ | refine kC rfl rfl ?_ | refine kD rfl rfl ?_ | apply kE | apply kF | apply kG | apply kH | refine kI (by kernel_rfl) (by kernel_rfl) ?_) | (show O _ _ _ _ _ _ _; first | (show O _ _ _ _ (⟨_, .store _ _ _, _, _, _, _⟩ :: _) _ _; refine kJ rfl rfl rfl rfl rfl rfl rfl rfl rfl rfl rfl ?_) | apply kK) | apply kL | ((first | apply kM | apply kN); (iterate 3 (· exact rfl)); (· first | (show Y _ ⟨_, .call ⟨.value _, _, _⟩, _, _, _, _⟩ _ _ _; first | exact q_c (rAdd_fn _ _) rfl) | exact ya)) | refine kO rfl rfl rfl rfl rfl ?_ | refine kP rfl rfl rfl ?_ | ((first | refine kQ rfl rfl ?_ ?_ | refine kR rfl rfl rfl rfl rfl ?_ ?_ | refine kS rfl rfl rfl ?_ ?_) <;> intro hc <;> (try simp only [KL, cond_true, cond_false, beq_iff_eq, bne_iff_ne, ne_eq, reduceCtorEq] at hc) <;> (try (have hT : True := hc; clear hT hc)) <;> (try (exfalso; omega))) | apply kT | apply kU | apply kV | apply kW | refine kX rfl ?_ | apply kY | apply kZ)
    all_goals first | (exfalso; omega) | exact retq rfl rfl
theorem inn_next (l : List Span) (part : Span) (k : Nat) (h : k < l.length) : innL (l.take (k + 1)) part = innL (l.take k) part ++ (if inQ part (l.getD k default) = true then [l.getD k default] else []) := by
  have e : l.getD k default = l[k] := by simp [h]
  rw [innL, innL, List.take_succ_eq_append_getElem h, List.filter_append, e]
  by_cases hq : inQ part l[k] = true
  · rw [if_pos hq]; simp [hq]
  · rw [if_neg hq]; simp [hq]
theorem inn_len (l : List Span) (part : Span) : (innL l part).length ≤ l.length := List.length_filter_le _ _
theorem inner12_fn (l : List Span) (part : Span) (hl : l.length ≤ 1000) : Fn Try.prog 135 [.lst 2 (l.map eSpan), .agg (eSpan part)] (.lst 2 ((innL l part).map eSpan)) := by
  refine fnb Try.func135 (entered_of (by kernel_rfl)) rfl rfl rfl ?_
  repeat' (first | (show W _ _ _ _ _ _; first | apply kA | refine kB rfl ?_ | refine kC rfl rfl ?_ | refine kD rfl rfl ?_ | apply kE | apply kF | apply kG | apply kH | refine kI (by kernel_rfl) (by kernel_rfl) ?_) | (show O _ _ _ _ _ _ _; first | (show O _ _ _ _ (⟨_, .store _ _ _, _, _, _, _⟩ :: _) _ _; refine kJ rfl rfl rfl rfl rfl rfl rfl rfl rfl rfl rfl ?_) | apply kK) | apply kL | ((first | apply kM | apply kN); (iterate 3 (· exact rfl)); (· first | exact ya)) | refine kO rfl rfl rfl rfl rfl ?_ | refine kP rfl rfl rfl ?_ | ((first | refine kQ rfl rfl ?_ ?_ | refine kR rfl rfl rfl rfl rfl ?_ ?_ | refine kS rfl rfl rfl ?_ ?_) <;> intro hc <;> (try simp only [KL, cond_true, cond_false, beq_iff_eq, bne_iff_ne, ne_eq, reduceCtorEq] at hc) <;> (try (have hT : True := hc; clear hT hc)) <;> (try (exfalso; omega))) | apply kT | apply kU | apply kV | apply kW | refine kX rfl ?_ | apply kY | apply kZ)
  refine wturn (turn_own eSpan (t := 5) rfl 10 135 2 (by omega) rfl) ?_
  refine wloop (fun k : Nat => ([(3, .ref (eSpan part)), (5, .own 10), (8, .lst 2 (l.map eSpan)), (9, .int .i64 l.length), (10, .int .i64 k)], [(10, .row 135 2 ((innL (l.take k) part).map eSpan))])) (fun k => k ≤ l.length) (fun k => l.length - k) 0 (Nat.zero_le _) les leh (fun k hk => ?_)
  have hil := inn_len (l.take k) part
  rw [List.length_take] at hil
  rcases Nat.lt_or_eq_of_le hk with hkl | hkl
  · have hnx := inn_next l part k hkl
    obtain ⟨s, hs⟩ : ∃ s, l.getD k default = s := ⟨_, rfl⟩
    rw [hs] at hnx
    by_cases hq : inQ part s = true
    · rw [if_pos hq] at hnx
      have hq2 := of_decide_eq_true hq
      repeat' (first | (show W _ _ _ _ _ _; first | apply kA | refine kB rfl ?_ | refine kC rfl rfl ?_ | refine kD rfl rfl ?_ | apply kE | apply kF | apply kG | apply kH | refine kI (by kernel_rfl) (by kernel_rfl) ?_) | (show O _ _ _ _ _ _ _; first | (show O _ _ _ _ (⟨_, .alloc _, _, _, _, _⟩ :: _) _ _; first | refine ao_alloc (id := 11) rfl rfl rfl rfl rfl rfl rfl ?_) | (show O _ _ _ _ (⟨_, .store _ _ _, _, _, _, _⟩ :: _) _ _; refine kJ rfl rfl rfl rfl rfl rfl rfl rfl rfl rfl rfl ?_) | apply kK) | apply kL | ((first | apply kM | apply kN); (iterate 3 (· exact rfl)); (· first | (show Y _ ⟨_, .indexAddr _ _ _, _, _, _, _⟩ _ _ _; first | exact Y.mk (ok_indexE (hs) rfl rfl rfl rfl rfl (by omega))) | exact ya | exact Y.mk (neq_Span rfl rfl rfl))) | refine kO rfl rfl rfl rfl rfl ?_ | refine kP rfl rfl rfl ?_ | ((first | refine kQ rfl rfl ?_ ?_ | refine kR rfl rfl rfl rfl rfl ?_ ?_ | refine kS rfl rfl rfl ?_ ?_) <;> intro hc <;> (try simp only [KL, cond_true, cond_false, beq_iff_eq, bne_iff_ne, ne_eq, reduceCtorEq] at hc) <;> (try (have hT : True := hc; clear hT hc)) <;> (try (exfalso; omega))) | apply kT | apply kU | apply kV | apply kW | refine kX rfl ?_ | apply kY | apply kZ)
      all_goals first | (exfalso; omega) | (exfalso; exact hq2.1 (by assumption)) | skip
      (refine ao_ap (id := 10) (ys := [s]) (by_ := 16) rfl rfl rfl rfl rfl rfl rfl rfl rfl rfl (fun _ _ => rfl) ?_ ?_ rfl rfl rfl rfl rfl ?_; (· (first | omega | ((try simp only [List.length_cons, List.length_nil, List.length_append, List.length_map]) <;> omega))); (· (first | omega | ((try simp only [List.length_cons, List.length_nil, List.length_append, List.length_map]) <;> omega))))
      repeat' (first | (show W _ _ _ _ _ _; first | apply kA | refine kB rfl ?_ | refine kC rfl rfl ?_ | refine kD rfl rfl ?_ | apply kE | apply kF | apply kG | apply kH | refine kI (by kernel_rfl) (by kernel_rfl) ?_) | (show O _ _ _ _ _ _ _; first | (show O _ _ _ _ (⟨_, .store _ _ _, _, _, _, _⟩ :: _) _ _; refine kJ rfl rfl rfl rfl rfl rfl rfl rfl rfl rfl rfl ?_) | apply kK) | apply kL | ((first | apply kM | apply kN); (iterate 3 (· exact rfl)); (· first | exact ya)) | refine kO rfl rfl rfl rfl rfl ?_ | refine kP rfl rfl rfl ?_ | ((first | refine kQ rfl rfl ?_ ?_ | refine kR rfl rfl rfl rfl rfl ?_ ?_ | refine kS rfl rfl rfl ?_ ?_) <;> intro hc <;> (try simp only [KL, cond_true, cond_false, beq_iff_eq, bne_iff_ne, ne_eq, reduceCtorEq] at hc) <;> (try (have hT : True := hc; clear hT hc)) <;> (try (exfalso; omega))) | apply kT | apply kU | apply kV | apply kW | refine kX rfl ?_ | apply kY | apply kZ)
      exact ⟨k + 1, by omega, by omega, les, by simp only [hnx]; exact leh⟩
    · rw [if_neg hq, List.append_nil] at hnx
      have hq2 : ¬ (s ≠ part ∧ part.frm ≤ s.frm ∧ s.to ≤ part.to) := fun e => hq (decide_eq_true e)
      repeat' (first | (show W _ _ _ _ _ _; first | apply kA | refine kB rfl ?_ | refine kC rfl rfl ?_ | refine kD rfl rfl ?_ | apply kE | apply kF | apply kG | apply kH | refine kI (by kernel_rfl) (by kernel_rfl) ?_) | (show O _ _ _ _ _ _ _; first | (show O _ _ _ _ (⟨_, .alloc _, _, _, _, _⟩ :: _) _ _; first | refine ao_alloc (id := 11) rfl rfl rfl rfl rfl rfl rfl ?_) | (show O _ _ _ _ (⟨_, .store _ _ _, _, _, _, _⟩ :: _) _ _; refine kJ rfl rfl rfl rfl rfl rfl rfl rfl rfl rfl rfl ?_) | apply kK) | apply kL | ((first | apply kM | apply kN); (iterate 3 (· exact rfl)); (· first | (show Y _ ⟨_, .indexAddr _ _ _, _, _, _, _⟩ _ _ _; first | exact Y.mk (ok_indexE (hs) rfl rfl rfl rfl rfl (by omega))) | exact ya | exact Y.mk (neq_Span rfl rfl rfl))) | refine kO rfl rfl rfl rfl rfl ?_ | refine kP rfl rfl rfl ?_ | ((first | refine kQ rfl rfl ?_ ?_ | refine kR rfl rfl rfl rfl rfl ?_ ?_ | refine kS rfl rfl rfl ?_ ?_) <;> intro hc <;> (try simp only [KL, cond_true, cond_false, beq_iff_eq, bne_iff_ne, ne_eq, reduceCtorEq] at hc) <;> (try (have hT : True := hc; clear hT hc)) <;> (try (exfalso; omega))) | apply kT | apply kU | apply kV | apply kW | refine kX rfl ?_ | apply kY | apply kZ)
      all_goals first | (exfalso; omega) | exact ⟨k + 1, by omega, by omega, les, by simp only [hnx]; exact leh⟩ | (exfalso; exact hq2 ⟨by assumption, by omega, by omega⟩)
  · subst hkl
    rw [List.take_length]
    repeat' (first | (show W _ _ _ _ _ _; first | apply kA | refine kB rfl ?_ | refine kC rfl rfl ?_ | refine kD rfl rfl ?_ | apply kE | apply kF | apply kG | apply kH | refine kI (by kernel_rfl) (by kernel_rfl) ?_) | (show O _ _ _ _ _ _ _; first | (show O _ _ _ _ (⟨_, .store _ _ _, _, _, _, _⟩ :: _) _ _; refine kJ rfl rfl rfl rfl rfl rfl rfl rfl rfl rfl rfl ?_) | apply kK) | apply kL | ((first | apply kM | apply kN); (iterate 3 (· exact rfl)); (· first | exact ya)) | refine kO rfl rfl rfl rfl rfl ?_ | refine kP rfl rfl rfl ?_ | ((first | refine kQ rfl rfl ?_ ?_ | refine kR rfl rfl rfl rfl rfl ?_ ?_ | refine kS rfl rfl rfl ?_ ?_) <;> intro hc <;> (try simp only [KL, cond_true, cond_false, beq_iff_eq, bne_iff_ne, ne_eq, reduceCtorEq] at hc) <;> (try (have hT : True := hc; clear hT hc)) <;> (try (exfalso; omega))) | apply kT | apply kU | apply kV | apply kW | refine kX rfl ?_ | apply kY | apply kZ)
    all_goals first | (exfalso; omega) | skip
    refine retT (fun _ => turn_freeze (t := 4) rfl rfl rfl) ?_
    exact retq rfl rfl
theorem fTo_len (rec : List Span → Span → Way) (p : List Instr) (w : List Int) (l : List Span) (part : Span) : ∀ k, (fTo rec p w l part k).at_.length = p.length + 1
  | 0 => by simp [fTo]
  | k + 1 => by
    have ih := fTo_len rec p w l part k
    rw [fTo, fStep]
    split
    · exact ih
    · split
      · unfold fLoop; split
        · simp only [List.length_set]; exact ih
        · exact ih
      · unfold fNode; split
        · exact ih
        · split
          · exact ih
          · simp only [push_len]; exact ih
section
variable {p : List Instr}
theorem lst_some {l : List Span} {part : Span} {pc : Int} (hl : innL l part = innL (loopsL p) part) (h : 0 ≤ (lstS (innL l part) pc).frm) : lstS (innL l part) pc ∈ loopsL p ∧ inQ part (lstS (innL l part) pc) = true ∧ (lstS (innL l part) pc).frm = pc := by
  rw [hl, lst_eq] at h ⊢
  cases hq : (loopsL p).reverse.find? fun s => inQ part s && decide (s.frm = pc) with
  | none => rw [hq] at h; simp at h
  | some s =>
    rw [Option.getD_some]
    have h1 := List.find?_some hq
    have h2 := List.mem_of_find?_eq_some hq
    rw [Bool.and_eq_true, decide_eq_true_eq] at h1
    exact ⟨List.mem_reverse.1 h2, h1.1, h1.2⟩
theorem inn_more {l : List Span} {part s : Span} (hl : innL l part = innL (loopsL p) part) (h : inQ part s = true) : innL (innL l s) s = innL (loopsL p) s := by
  have e : innL l s = innL (loopsL p) s := by rw [← inn_inn l part s h, hl, inn_inn _ _ _ h]
  rw [e, innL, innL, List.filter_filter]
  simp
end
def init12 (n j : Nat) : List Int := List.replicate j (-1) ++ List.replicate (n - j) 0
theorem init12_len {n j : Nat} (h : j ≤ n) : (init12 n j).length = n := by simp [init12]; omega
theorem init12_next {n j : Nat} (h : j < n) : (init12 n j).set j (-1) = init12 n (j + 1) := by
  rw [init12, init12, show n - j = (n - (j + 1)) + 1 by omega, List.replicate_succ, List.set_append_right _ _ (by simp), List.replicate_succ', List.append_assoc]
  simp
theorem lst_next (l : List Span) (pc : Int) (k : Nat) (h : k < l.length) : lstS (l.take (k + 1)) pc = if (l.getD k default).frm = pc then l.getD k default else lstS (l.take k) pc := by
  have e : l.getD k default = l[k] := by simp [h]
  rw [lstS, List.take_succ_eq_append_getElem h, List.foldl_append, e]; rfl
theorem push_next (sum : Int) (at_ : List Int) (l : List Int) (k : Nat) (h : k < l.length) : (l.take (k + 1)).foldl (push sum) at_ = push sum ((l.take k).foldl (push sum) at_) (l.getD k default) := by
  have e : l.getD k default = l[k] := by simp [h]
  rw [List.take_succ_eq_append_getElem h, List.foldl_append, e]; rfl
abbrev prH (x : FW) : Heap := [(11, .row 3 1 (x.at_.map eI)), (20, .blk 130 [.int .i64 0, .int .i64 0]), (21, .blk 130 [.int .i64 x.thr, .int .i64 x.fin])]
set_option maxHeartbeats 8000000 in
theorem part12_fn (p : List Instr) (w : List Int) (hf : fineB p = true) (hn : ∀ i, 0 ≤ (p.getD i default).n) (hw : w.length = p.length) :
    ∀ (f : Nat) (l : List Span) (part : Span), isPart p part → innL l part = innL (loopsL p) part → l.length ≤ 64 → sizeS part ≤ f → Fn Try.prog 96 [.lst 5 (p.map eInstr), .lst 1 (w.map eI), .lst 2 (l.map eSpan), .agg (eSpan part)] (.agg (eWay (partR p w f l part))) := by
  have hfp := fine_inv hf
  have hmost := hfp.most
  intro f
  induction f with
  | zero =>
    intro l part hp _ _ hs
    have := part_sound hfp hn hp
    unfold sizeS at hs; omega
  | succ f ih =>
  intro l part hp hl hll hs
  have hso := part_sound hfp hn hp
  have hsz : (sizeS part : Int) = part.to + 1 - part.frm := by unfold sizeS; omega
  refine fnb Try.func96 (entered_of (by kernel_rfl)) rfl rfl rfl ?_
  repeat' (first | (show W _ _ _ _ _ _; first | apply kA | refine kB rfl ?_ | refine kC rfl rfl ?_ | refine kD rfl rfl ?_ | apply kE | apply kF | apply kG | apply kH | refine kI (by kernel_rfl) (by kernel_rfl) ?_) | (show O _ _ _ _ _ _ _; first | (show O _ _ _ _ (⟨_, .alloc _, _, _, _, _⟩ :: _) _ _; first | refine ao_alloc (id := 20) rfl rfl rfl rfl rfl rfl rfl ?_) | (show O _ _ _ _ (⟨_, .store _ _ _, _, _, _, _⟩ :: _) _ _; refine kJ rfl rfl rfl rfl rfl rfl rfl rfl rfl rfl rfl ?_) | apply kK) | apply kL | ((first | apply kM | apply kN); (iterate 3 (· exact rfl)); (· first | exact ya)) | refine kO rfl rfl rfl rfl rfl ?_ | refine kP rfl rfl rfl ?_ | ((first | refine kQ rfl rfl ?_ ?_ | refine kR rfl rfl rfl rfl rfl ?_ ?_ | refine kS rfl rfl rfl ?_ ?_) <;> intro hc <;> (try simp only [KL, cond_true, cond_false, beq_iff_eq, bne_iff_ne, ne_eq, reduceCtorEq] at hc) <;> (try (have hT : True := hc; clear hT hc)) <;> (try (exfalso; omega))) | apply kT | apply kU | apply kV | apply kW | refine kX rfl ?_ | apply kY | apply kZ)
  refine ole (s' := [(0, .lst 5 (p.map eInstr)), (1, .lst 1 (w.map eI)), (2, .lst 2 (l.map eSpan)), (7, .ref (eSpan part)), (8, .ptr 20 0), (23, .int .i64 ((p.length + 1 : Nat) : Int))]) (h' := [(20, .blk 130 [.int .i64 0, .int .i64 0])]) les leh ?_
  (refine ao_mk (f := eI) (d := (0 : Int)) (id := 11) (by_ := 8) (sz := 1) rfl rfl rfl rfl rfl rfl rfl rfl rfl rfl ?_ ?_ rfl rfl rfl rfl ?_; (· omega); (· omega))
  repeat' (first | (show W _ _ _ _ _ _; first | apply kA | refine kB rfl ?_ | refine kC rfl rfl ?_ | refine kD rfl rfl ?_ | apply kE | apply kF | apply kG | apply kH | refine kI (by kernel_rfl) (by kernel_rfl) ?_) | (show O _ _ _ _ _ _ _; first | (show O _ _ _ _ (⟨_, .store _ _ _, _, _, _, _⟩ :: _) _ _; refine kJ rfl rfl rfl rfl rfl rfl rfl rfl rfl rfl rfl ?_) | apply kK) | apply kL | ((first | apply kM | apply kN); (iterate 3 (· exact rfl)); (· first | exact ya)) | refine kO rfl rfl rfl rfl rfl ?_ | refine kP rfl rfl rfl ?_ | ((first | refine kQ rfl rfl ?_ ?_ | refine kR rfl rfl rfl rfl rfl ?_ ?_ | refine kS rfl rfl rfl ?_ ?_) <;> intro hc <;> (try simp only [KL, cond_true, cond_false, beq_iff_eq, bne_iff_ne, ne_eq, reduceCtorEq] at hc) <;> (try (have hT : True := hc; clear hT hc)) <;> (try (exfalso; omega))) | apply kT | apply kU | apply kV | apply kW | refine kX rfl ?_ | apply kY | apply kZ)
  refine wloop (fun j : Nat => ([(0, .lst 5 (p.map eInstr)), (1, .lst 1 (w.map eI)), (2, .lst 2 (l.map eSpan)), (7, .ref (eSpan part)), (8, .ptr 20 0), (9, .own 11), (26, .int .i64 ((p.length + 1 : Nat) : Int)), (27, .int .i64 j)], [(20, .blk 130 [.int .i64 0, .int .i64 0]), (11, .row 3 1 ((init12 (p.length + 1) j).map eI))])) (fun j => j ≤ p.length + 1) (fun j => p.length + 1 - j) 0 (Nat.zero_le _) les leh (fun j hj => ?_)
  have hil := init12_len hj
  rcases Nat.lt_or_eq_of_le hj with hjl | hjl
  · have hin := init12_next hjl
    repeat' (first | (show W _ _ _ _ _ _; first | apply kA | refine kB rfl ?_ | refine kC rfl rfl ?_ | refine kD rfl rfl ?_ | apply kE | apply kF | apply kG | apply kH | refine kI (by kernel_rfl) (by kernel_rfl) ?_) | (show O _ _ _ _ _ _ _; first | (show O _ _ _ _ (⟨_, .store _ _ _, _, _, _, _⟩ :: _) _ _; refine kJ rfl rfl rfl rfl rfl rfl rfl rfl rfl rfl rfl ?_) | apply kK) | apply kL | ((first | apply kM | apply kN); (iterate 3 (· exact rfl)); (· first | exact ya)) | refine kO rfl rfl rfl rfl rfl ?_ | refine kP rfl rfl rfl ?_ | ((first | refine kQ rfl rfl ?_ ?_ | refine kR rfl rfl rfl rfl rfl ?_ ?_ | refine kS rfl rfl rfl ?_ ?_) <;> intro hc <;> (try simp only [KL, cond_true, cond_false, beq_iff_eq, bne_iff_ne, ne_eq, reduceCtorEq] at hc) <;> (try (have hT : True := hc; clear hT hc)) <;> (try (exfalso; omega))) | apply kT | apply kU | apply kV | apply kW | refine kX rfl ?_ | apply kY | apply kZ)
    all_goals first | (exfalso; omega) | skip
    (refine ao_se (x' := (-1 : Int)) rfl rfl rfl rfl rfl rfl rfl rfl rfl ?_ rfl rfl rfl ?_; (· (first | omega | ((try simp only [List.length_set, List.length_cons, List.length_nil, List.length_append, List.length_map]) <;> omega))))
    repeat' (first | (show W _ _ _ _ _ _; first | apply kA | refine kB rfl ?_ | refine kC rfl rfl ?_ | refine kD rfl rfl ?_ | apply kE | apply kF | apply kG | apply kH | refine kI (by kernel_rfl) (by kernel_rfl) ?_) | (show O _ _ _ _ _ _ _; first | (show O _ _ _ _ (⟨_, .store _ _ _, _, _, _, _⟩ :: _) _ _; refine kJ rfl rfl rfl rfl rfl rfl rfl rfl rfl rfl rfl ?_) | apply kK) | apply kL | ((first | apply kM | apply kN); (iterate 3 (· exact rfl)); (· first | exact ya)) | refine kO rfl rfl rfl rfl rfl ?_ | refine kP rfl rfl rfl ?_ | ((first | refine kQ rfl rfl ?_ ?_ | refine kR rfl rfl rfl rfl rfl ?_ ?_ | refine kS rfl rfl rfl ?_ ?_) <;> intro hc <;> (try simp only [KL, cond_true, cond_false, beq_iff_eq, bne_iff_ne, ne_eq, reduceCtorEq] at hc) <;> (try (have hT : True := hc; clear hT hc)) <;> (try (exfalso; omega))) | apply kT | apply kU | apply kV | apply kW | refine kX rfl ?_ | apply kY | apply kZ)
    exact ⟨j + 1, by omega, by omega, les, by simp only [← hin]; exact leh⟩
  subst hjl
  rw [show init12 (p.length + 1) (p.length + 1) = List.replicate (p.length + 1) (-1) by simp [init12]]
  have hrl : (List.replicate (p.length + 1) (-1 : Int)).length = p.length + 1 := by simp
  repeat' (first | (show W _ _ _ _ _ _; first | apply kA | refine kB rfl ?_ | refine kC rfl rfl ?_ | refine kD rfl rfl ?_ | apply kE | apply kF | apply kG | apply kH | refine kI (by kernel_rfl) (by kernel_rfl) ?_) | (show O _ _ _ _ _ _ _; first | (show O _ _ _ _ (⟨_, .store _ _ _, _, _, _, _⟩ :: _) _ _; refine kJ rfl rfl rfl rfl rfl rfl rfl rfl rfl rfl rfl ?_) | apply kK) | apply kL | ((first | apply kM | apply kN); (iterate 3 (· exact rfl)); (· first | exact ya)) | refine kO rfl rfl rfl rfl rfl ?_ | refine kP rfl rfl rfl ?_ | ((first | refine kQ rfl rfl ?_ ?_ | refine kR rfl rfl rfl rfl rfl ?_ ?_ | refine kS rfl rfl rfl ?_ ?_) <;> intro hc <;> (try simp only [KL, cond_true, cond_false, beq_iff_eq, bne_iff_ne, ne_eq, reduceCtorEq] at hc) <;> (try (have hT : True := hc; clear hT hc)) <;> (try (exfalso; omega))) | apply kT | apply kU | apply kV | apply kW | refine kX rfl ?_ | apply kY | apply kZ)
  all_goals first | (exfalso; omega) | skip
  (refine ao_se (x' := (0 : Int)) rfl rfl rfl rfl rfl rfl rfl rfl rfl ?_ rfl rfl rfl ?_; (· (first | omega | ((try simp only [List.length_set, List.length_cons, List.length_nil, List.length_append, List.length_map]) <;> omega))))
  repeat' (first | (show W _ _ _ _ _ _; first | apply kA | refine kB rfl ?_ | refine kC rfl rfl ?_ | refine kD rfl rfl ?_ | apply kE | apply kF | apply kG | apply kH | refine kI (by kernel_rfl) (by kernel_rfl) ?_) | (show O _ _ _ _ _ _ _; first | (show O _ _ _ _ (⟨_, .alloc _, _, _, _, _⟩ :: _) _ _; first | refine ao_alloc (id := 21) rfl rfl rfl rfl rfl rfl rfl ?_) | (show O _ _ _ _ (⟨_, .store _ _ _, _, _, _, _⟩ :: _) _ _; refine kJ rfl rfl rfl rfl rfl rfl rfl rfl rfl rfl rfl ?_) | apply kK) | apply kL | ((first | apply kM | apply kN); (iterate 3 (· exact rfl)); (· first | exact ya)) | refine kO rfl rfl rfl rfl rfl ?_ | refine kP rfl rfl rfl ?_ | ((first | refine kQ rfl rfl ?_ ?_ | refine kR rfl rfl rfl rfl rfl ?_ ?_ | refine kS rfl rfl rfl ?_ ?_) <;> intro hc <;> (try simp only [KL, cond_true, cond_false, beq_iff_eq, bne_iff_ne, ne_eq, reduceCtorEq] at hc) <;> (try (have hT : True := hc; clear hT hc)) <;> (try (exfalso; omega))) | apply kT | apply kU | apply kV | apply kW | refine kX rfl ?_ | apply kY | apply kZ)
  refine wloop (fun k : Nat => ([(0, .lst 5 (p.map eInstr)), (1, .lst 1 (w.map eI)), (2, .lst 2 (l.map eSpan)), (7, .ref (eSpan part)), (8, .ptr 20 0), (9, .own 11), (11, .ptr 21 0), (12, .int .i64 (part.frm + k))], prH (fTo (partR p w f) p w l part k))) (fun k => k ≤ sizeS part) (fun k => sizeS part - k) 0 (Nat.zero_le _) les leh (fun k hk => ?_)
  have hal := fTo_len (partR p w f) p w l part k
  rcases Nat.lt_or_eq_of_le hk with hkl | hkl
  · obtain ⟨pc, hpc⟩ : ∃ pc : Nat, (pc : Int) = part.frm + k := ⟨(part.frm + k).toNat, by omega⟩
    have hnx : fTo (partR p w f) p w l part (k + 1) = fStep (partR p w f) p w l part (fTo (partR p w f) p w l part k) pc := by rw [fTo, show (part.frm + (k : Int)).toNat = pc by omega]
    generalize fTo (partR p w f) p w l part k = x at *
    refine wle (s' := [(0, .lst 5 (p.map eInstr)), (1, .lst 1 (w.map eI)), (2, .lst 2 (l.map eSpan)), (7, .ref (eSpan part)), (8, .ptr 20 0), (9, .own 11), (11, .ptr 21 0), (12, .int .i64 pc)]) (h' := prH x) les leh ?_
    obtain ⟨a, ha⟩ : ∃ a, x.at_.getD pc default = a := ⟨_, rfl⟩
    rw [fStep, ha] at hnx
    by_cases ha0 : a < 0
    · rw [if_pos ha0] at hnx
      repeat' (first | (show W _ _ _ _ _ _; first | apply kA | refine kB rfl ?_ | refine kC rfl rfl ?_ | refine kD rfl rfl ?_ | apply kE | apply kF | apply kG | apply kH | refine kI (by kernel_rfl) (by kernel_rfl) ?_) | (show O _ _ _ _ _ _ _; first | (show O _ _ _ _ (⟨_, .store _ _ _, _, _, _, _⟩ :: _) _ _; refine kJ rfl rfl rfl rfl rfl rfl rfl rfl rfl rfl rfl ?_) | apply kK) | apply kL | ((first | apply kM | apply kN); (iterate 3 (· exact rfl)); (· first | (show Y _ ⟨_, .indexAddr _ _ _, _, _, _, _⟩ _ _ _; first | exact q_ioE (pc) rfl rfl rfl rfl rfl rfl (by omega) (by omega)) | (show Y _ ⟨_, .load _ _, _, _, _, _⟩ _ _ _; first | exact q_pE' ha) | exact ya)) | refine kO rfl rfl rfl rfl rfl ?_ | refine kP rfl rfl rfl ?_ | ((first | refine kQ rfl rfl ?_ ?_ | refine kR rfl rfl rfl rfl rfl ?_ ?_ | refine kS rfl rfl rfl ?_ ?_) <;> intro hc <;> (try simp only [KL, cond_true, cond_false, beq_iff_eq, bne_iff_ne, ne_eq, reduceCtorEq] at hc) <;> (try (have hT : True := hc; clear hT hc)) <;> (try (exfalso; omega))) | apply kT | apply kU | apply kV | apply kW | refine kX rfl ?_ | apply kY | apply kZ)
      all_goals first | (exfalso; omega) | exact ⟨k + 1, by omega, by omega, les, by simp only [hnx]; exact leh⟩
    rw [if_neg ha0] at hnx
    have c1 := inner12_fn l part (by omega)
    have hls := @lst_some p l part pc hl
    have hinl := inn_len l part
    repeat' (first | (show W _ _ _ _ _ _; first | apply kA | refine kB rfl ?_ | refine kC rfl rfl ?_ | refine kD rfl rfl ?_ | apply kE | apply kF | apply kG | apply kH | refine kI (by kernel_rfl) (by kernel_rfl) ?_) | (show O _ _ _ _ _ _ _; first | (show O _ _ _ _ (⟨_, .alloc _, _, _, _, _⟩ :: _) _ _; first | refine ao_alloc (id := 22) rfl rfl rfl rfl rfl rfl rfl ?_) | (show O _ _ _ _ (⟨_, .store _ _ _, _, _, _, _⟩ :: _) _ _; refine kJ rfl rfl rfl rfl rfl rfl rfl rfl rfl rfl rfl ?_) | apply kK) | apply kL | ((first | apply kM | apply kN); (iterate 3 (· exact rfl)); (· first | (show Y _ ⟨_, .indexAddr _ _ _, _, _, _, _⟩ _ _ _; first | exact q_ioE (pc) rfl rfl rfl rfl rfl rfl (by omega) (by omega)) | (show Y _ ⟨_, .load _ _, _, _, _, _⟩ _ _ _; first | exact q_pE' ha) | (show Y _ ⟨_, .call ⟨.value _, _, _⟩, _, _, _, _⟩ _ _ _; first | exact q_c (c1) rfl) | exact ya)) | refine kO rfl rfl rfl rfl rfl ?_ | refine kP rfl rfl rfl ?_ | ((first | refine kQ rfl rfl ?_ ?_ | refine kR rfl rfl rfl rfl rfl ?_ ?_ | refine kS rfl rfl rfl ?_ ?_) <;> intro hc <;> (try simp only [KL, cond_true, cond_false, beq_iff_eq, bne_iff_ne, ne_eq, reduceCtorEq] at hc) <;> (try (have hT : True := hc; clear hT hc)) <;> (try (exfalso; omega))) | apply kT | apply kU | apply kV | apply kW | refine kX rfl ?_ | apply kY | apply kZ)
    all_goals first | (exfalso; omega) | skip
    refine wloop (fun j : Nat => ([(0, .lst 5 (p.map eInstr)), (1, .lst 1 (w.map eI)), (2, .lst 2 (l.map eSpan)), (7, .ref (eSpan part)), (8, .ptr 20 0), (9, .own 11), (11, .ptr 21 0), (12, .int .i64 pc), (13, .ptr 22 0), (55, .lst 2 ((innL l part).map eSpan)), (56, .int .i64 (innL l part).length), (57, .int .i64 j)], prH x ++ [(22, .blk 135 (eSpan (lstS ((innL l part).take j) pc)))])) (fun j => j ≤ (innL l part).length) (fun j => (innL l part).length - j) 0 (Nat.zero_le _) les leh (fun j hj => ?_)
    rcases Nat.lt_or_eq_of_le hj with hjl | hjl
    · have hln := lst_next (innL l part) pc j hjl
      obtain ⟨s, hs⟩ : ∃ s, (innL l part).getD j default = s := ⟨_, rfl⟩
      rw [hs] at hln
      by_cases he : s.frm = pc
      · rw [if_pos he] at hln
        repeat' (first | (show W _ _ _ _ _ _; first | apply kA | refine kB rfl ?_ | refine kC rfl rfl ?_ | refine kD rfl rfl ?_ | apply kE | apply kF | apply kG | apply kH | refine kI (by kernel_rfl) (by kernel_rfl) ?_) | (show O _ _ _ _ _ _ _; first | (show O _ _ _ _ (⟨_, .alloc _, _, _, _, _⟩ :: _) _ _; first | refine ao_alloc (id := 23) rfl rfl rfl rfl rfl rfl rfl ?_) | (show O _ _ _ _ (⟨_, .store _ _ _, _, _, _, _⟩ :: _) _ _; refine kJ rfl rfl rfl rfl rfl rfl rfl rfl rfl rfl rfl ?_) | apply kK) | apply kL | ((first | apply kM | apply kN); (iterate 3 (· exact rfl)); (· first | (show Y _ ⟨_, .indexAddr _ _ _, _, _, _, _⟩ _ _ _; first | exact Y.mk (ok_indexE (hs) rfl rfl rfl rfl rfl (by omega))) | exact ya)) | refine kO rfl rfl rfl rfl rfl ?_ | refine kP rfl rfl rfl ?_ | ((first | refine kQ rfl rfl ?_ ?_ | refine kR rfl rfl rfl rfl rfl ?_ ?_ | refine kS rfl rfl rfl ?_ ?_) <;> intro hc <;> (try simp only [KL, cond_true, cond_false, beq_iff_eq, bne_iff_ne, ne_eq, reduceCtorEq] at hc) <;> (try (have hT : True := hc; clear hT hc)) <;> (try (exfalso; omega))) | apply kT | apply kU | apply kV | apply kW | refine kX rfl ?_ | apply kY | apply kZ)
        all_goals first | (exfalso; omega) | exact ⟨j + 1, by omega, by omega, les, by simp only [hln]; exact leh⟩
      · rw [if_neg he] at hln
        repeat' (first | (show W _ _ _ _ _ _; first | apply kA | refine kB rfl ?_ | refine kC rfl rfl ?_ | refine kD rfl rfl ?_ | apply kE | apply kF | apply kG | apply kH | refine kI (by kernel_rfl) (by kernel_rfl) ?_) | (show O _ _ _ _ _ _ _; first | (show O _ _ _ _ (⟨_, .alloc _, _, _, _, _⟩ :: _) _ _; first | refine ao_alloc (id := 23) rfl rfl rfl rfl rfl rfl rfl ?_) | (show O _ _ _ _ (⟨_, .store _ _ _, _, _, _, _⟩ :: _) _ _; refine kJ rfl rfl rfl rfl rfl rfl rfl rfl rfl rfl rfl ?_) | apply kK) | apply kL | ((first | apply kM | apply kN); (iterate 3 (· exact rfl)); (· first | (show Y _ ⟨_, .indexAddr _ _ _, _, _, _, _⟩ _ _ _; first | exact Y.mk (ok_indexE (hs) rfl rfl rfl rfl rfl (by omega))) | exact ya)) | refine kO rfl rfl rfl rfl rfl ?_ | refine kP rfl rfl rfl ?_ | ((first | refine kQ rfl rfl ?_ ?_ | refine kR rfl rfl rfl rfl rfl ?_ ?_ | refine kS rfl rfl rfl ?_ ?_) <;> intro hc <;> (try simp only [KL, cond_true, cond_false, beq_iff_eq, bne_iff_ne, ne_eq, reduceCtorEq] at hc) <;> (try (have hT : True := hc; clear hT hc)) <;> (try (exfalso; omega))) | apply kT | apply kU | apply kV | apply kW | refine kX rfl ?_ | apply kY | apply kZ)
        all_goals first | (exfalso; omega) | exact ⟨j + 1, by omega, by omega, les, by simp only [hln]; exact leh⟩
    subst hjl
    rw [List.take_length]
    generalize lstS (innL l part) pc = s at *
    by_cases hs0 : 0 ≤ s.frm
    · rw [if_pos hs0] at hnx
      obtain ⟨s1, s2, s3⟩ := hls hs0
      have t1 := loop_sound hfp hn s1
      have t2 := in_part hfp hn hp s1 s2
      have t3 := right_back (hfp.right s.to.toNat (by omega)) t1.2.2.2.1
      have hisl := inn_len l s
      have c2 := inner12_fn l s (by omega)
      have c3 := ih (innL l s) s (.inl s1) (inn_more hl s2) (by omega) (by unfold sizeS at *; omega)
      generalize partR p w f (innL l s) s = one at *
      generalize hcc : (p.getD s.to.toNat default).c = c at *
      obtain ⟨z, hz⟩ : ∃ z, p.getD s.to.toNat default = z := ⟨_, rfl⟩
      obtain ⟨t, ht⟩ : ∃ t : Nat, (t : Int) = s.to + 1 := ⟨(s.to + 1).toNat, by omega⟩
      rw [show (s.to + 1).toNat = t by omega] at hnx
      repeat' (first | (show W _ _ _ _ _ _; first | apply kA | refine kB rfl ?_ | refine kC rfl rfl ?_ | refine kD rfl rfl ?_ | apply kE | apply kF | apply kG | apply kH) | (show O _ _ _ _ _ _ _; first | (show O _ _ _ _ (⟨_, .store _ _ _, _, _, _, _⟩ :: _) _ _; refine kJ rfl rfl rfl rfl rfl rfl rfl rfl rfl rfl rfl ?_) | apply kK) | apply kL | ((first | apply kM | apply kN); (iterate 3 (· exact rfl)); (· first | exact ya)) | refine kO rfl rfl rfl rfl rfl ?_ | refine kP rfl rfl rfl ?_ | ((first | refine kQ rfl rfl ?_ ?_ | refine kR rfl rfl rfl rfl rfl ?_ ?_ | refine kS rfl rfl rfl ?_ ?_) <;> intro hc <;> (try simp only [KL, cond_true, cond_false, beq_iff_eq, bne_iff_ne, ne_eq, reduceCtorEq] at hc) <;> (try (have hT : True := hc; clear hT hc)) <;> (try (exfalso; omega))) | apply kT | apply kU | apply kV | apply kW | refine kX rfl ?_ | apply kY | apply kZ)
      all_goals first | (exfalso; omega) | skip
      refine wle (s' := [(0, .lst 5 (p.map eInstr)), (1, .lst 1 (w.map eI)), (2, .lst 2 (l.map eSpan)), (7, .ref (eSpan part)), (8, .ptr 20 0), (9, .own 11), (11, .ptr 21 0), (12, .int .i64 pc), (13, .ptr 22 0)]) (h' := prH x ++ [(22, .blk 135 (eSpan s))]) les leh ?_
      refine wdrawN (H := fun (y : List AV) (b : Bool) => prH x ++ [(22, .blk 135 (eSpan s))] ++ (bif b then [(23, .blk 130 y)] else [])) (ok := fun _ => True) (ok1 := fun y => y = [.int .i64 0, .int .i64 0]) (tn := [8]) (ln := []) (c := 7) (N := 23) [.int .i64 0, .int .i64 0] leh (by kernel_rfl) (by kernel_rfl) (by kernel_rfl) trivial rfl rfl rfl rfl ?_
      repeat' (first | (show W _ _ _ _ _ _; first | apply kA | refine kB rfl ?_ | refine kC rfl rfl ?_ | refine kD rfl rfl ?_ | apply kE | apply kF | apply kG | apply kH | refine kI (by kernel_rfl) (by kernel_rfl) ?_) | (show O _ _ _ _ _ _ _; first | (show O _ _ _ _ (⟨_, .store _ _ _, _, _, _, _⟩ :: _) _ _; refine kJ rfl rfl rfl rfl rfl rfl rfl rfl rfl rfl rfl ?_) | apply kK) | apply kL | ((first | apply kM | apply kN); (iterate 3 (· exact rfl)); (· first | (show Y _ ⟨_, .call ⟨.value _, _, _⟩, _, _, _, _⟩ _ _ _; first | exact q_c (c2) rfl | exact q_c (c3) rfl) | exact ya)) | (show NW _ _ _ _ _ _ _ _ _ _ _ _ _ _; first | refine nnil ?_ | (apply n_any; (· exact rfl); (· exact rfl); (· exact rfl); (· intro y' f' hy'; first | (show Y _ ⟨_, .call ⟨.value _, _, _⟩, _, _, _, _⟩ _ _ _; first | exact q_c (c2) rfl | exact q_c (c3) rfl) | exact ya); (· first | exact rfl | kernel_rfl))) | refine kO rfl rfl rfl rfl rfl ?_ | refine kP rfl rfl rfl ?_ | ((first | refine kQ rfl rfl ?_ ?_ | refine kR rfl rfl rfl rfl rfl ?_ ?_ | refine kS rfl rfl rfl ?_ ?_) <;> intro hc <;> (try simp only [KL, cond_true, cond_false, beq_iff_eq, bne_iff_ne, ne_eq, reduceCtorEq] at hc) <;> (try (have hT : True := hc; clear hT hc)) <;> (try (exfalso; omega))) | apply kT | apply kU | apply kV | apply kW | refine kX rfl ?_ | apply kY | apply kZ)
      refine n_new (v := .ptr 23 0) rfl rfl (fun y hy1 => ?_) ?_
      · subst hy1
        exact TuN.post (tn_alloc rfl rfl rfl rfl rfl) leh
      repeat' (first | (show W _ _ _ _ _ _; first | apply kA | refine kB rfl ?_ | refine kC rfl rfl ?_ | refine kD rfl rfl ?_ | apply kE | apply kF | apply kG | apply kH | refine kI (by kernel_rfl) (by kernel_rfl) ?_) | (show O _ _ _ _ _ _ _; first | (show O _ _ _ _ (⟨_, .store _ _ _, _, _, _, _⟩ :: _) _ _; refine kJ rfl rfl rfl rfl rfl rfl rfl rfl rfl rfl rfl ?_) | apply kK) | apply kL | ((first | apply kM | apply kN); (iterate 3 (· exact rfl)); (· first | exact ya)) | (show NW _ _ _ _ _ _ _ _ _ _ _ _ _ _; first | refine nnil ?_ | (apply n_any; (· exact rfl); (· exact rfl); (· exact rfl); (· intro y' f' hy'; first | exact ya); (· first | exact rfl | kernel_rfl))) | refine kO rfl rfl rfl rfl rfl ?_ | refine kP rfl rfl rfl ?_ | ((first | refine kQ rfl rfl ?_ ?_ | refine kR rfl rfl rfl rfl rfl ?_ ?_ | refine kS rfl rfl rfl ?_ ?_) <;> intro hc <;> (try simp only [KL, cond_true, cond_false, beq_iff_eq, bne_iff_ne, ne_eq, reduceCtorEq] at hc) <;> (try (have hT : True := hc; clear hT hc)) <;> (try (exfalso; omega))) | apply kT | apply kU | apply kV | apply kW | refine kX rfl ?_ | apply kY | apply kZ)
      refine n_tu1 (x' := eWay one) rfl rfl rfl trivial (by first | exact rfl | kernel_rfl) (TuO.post (tu_st (sto_B rfl rfl rfl rfl rfl rfl (Nat.le_of_ble_eq_true rfl)) rfl) leh) (by first | exact rfl | kernel_rfl) ?_
      have m1 := more12_fn a (mulI c one.thr)
      have m2 := more12_fn a (mulI (c + 1) one.thr)
      obtain ⟨b, hb⟩ : ∃ b, x.at_.getD t default = b := ⟨_, rfl⟩
      by_cases hthr : 0 ≤ one.thr
      · rw [fLoop, if_pos hthr, ha, hb] at hnx
        repeat' (first | (show W _ _ _ _ _ _; first | apply kA | refine kB rfl ?_ | refine kC rfl rfl ?_ | refine kD rfl rfl ?_ | apply kE | apply kF | apply kG | apply kH) | (show O _ _ _ _ _ _ _; first | (show O _ _ _ _ (⟨_, .store _ _ _, _, _, _, _⟩ :: _) _ _; refine kJ rfl rfl rfl rfl rfl rfl rfl rfl rfl rfl rfl ?_) | apply kK) | apply kL | ((first | apply kM | apply kN); (iterate 3 (· exact rfl)); (· first | exact ya)) | (show NW _ _ _ _ _ _ _ _ _ _ _ _ _ _; first | refine nnil ?_ | (apply n_any; (· exact rfl); (· exact rfl); (· exact rfl); (· intro y' f' hy'; first | exact ya); (· first | exact rfl | kernel_rfl))) | refine kO rfl rfl rfl rfl rfl ?_ | refine kP rfl rfl rfl ?_ | ((first | refine kQ rfl rfl ?_ ?_ | refine kR rfl rfl rfl rfl rfl ?_ ?_ | refine kS rfl rfl rfl ?_ ?_) <;> intro hc <;> (try simp only [KL, cond_true, cond_false, beq_iff_eq, bne_iff_ne, ne_eq, reduceCtorEq] at hc) <;> (try (have hT : True := hc; clear hT hc)) <;> (try (exfalso; omega))) | apply kT | apply kU | apply kV | apply kW | refine kX rfl ?_ | apply kY | apply kZ)
        all_goals first | (exfalso; omega) | skip
        refine wle (s' := [(0, .lst 5 (p.map eInstr)), (1, .lst 1 (w.map eI)), (2, .lst 2 (l.map eSpan)), (7, .ref (eSpan part)), (8, .ptr 20 0), (9, .own 11), (11, .ptr 21 0), (12, .int .i64 pc), (13, .ptr 22 0), (16, .ptr 23 0), (17, .int .i64 c)]) (h' := [(11, .row 3 1 ((x.at_).map eI)), (20, .blk 130 [.int .i64 0, .int .i64 0]), (21, .blk 130 [.int .i64 x.thr, .int .i64 (x.fin)]), (22, .blk 135 (eSpan s)), (23, .blk 130 (eWay one))]) les leh ?_
        refine wdrawC (H := fun y : Int => [(11, .row 3 1 ((x.at_).map eI)), (20, .blk 130 [.int .i64 0, .int .i64 0]), (21, .blk 130 [.int .i64 x.thr, .int .i64 (y)]), (22, .blk 135 (eSpan s)), (23, .blk 130 (eWay one))]) (ok := fun _ => True) (tn := [16]) (ln := [1]) x.fin leh (by kernel_rfl) (by kernel_rfl) (by kernel_rfl) trivial ?_
        repeat' (first | (show W _ _ _ _ _ _; first | apply kA | refine kB rfl ?_ | refine kC rfl rfl ?_ | refine kD rfl rfl ?_ | apply kE | apply kF | apply kG | apply kH) | (show O _ _ _ _ _ _ _; first | (show O _ _ _ _ (⟨_, .store _ _ _, _, _, _, _⟩ :: _) _ _; refine kJ rfl rfl rfl rfl rfl rfl rfl rfl rfl rfl rfl ?_) | apply kK) | apply kL | ((first | apply kM | apply kN); (iterate 3 (· exact rfl)); (· first | (show Y _ ⟨_, .indexAddr _ _ _, _, _, _, _⟩ _ _ _; first | exact q_ioE (pc) rfl rfl rfl rfl rfl rfl (by omega) (by omega)) | (show Y _ ⟨_, .load _ _, _, _, _, _⟩ _ _ _; first | exact q_pE' ha) | (show Y _ ⟨_, .call ⟨.value _, _, _⟩, _, _, _, _⟩ _ _ _; first | exact q_c (rMul_fn _ _) rfl | exact q_c (more12_fn _ _) rfl) | exact ya)) | (show C _ _ _ _ _ _ _ _ _ _ _; first | refine cnil ?_ | (apply c_any; (· exact rfl); (· exact rfl); (· intro y' hy'; first | (show Y _ ⟨_, .indexAddr _ _ _, _, _, _, _⟩ _ _ _; first | exact q_ioE (pc) rfl rfl rfl rfl rfl rfl (by omega) (by omega)) | (show Y _ ⟨_, .load _ _, _, _, _, _⟩ _ _ _; first | exact q_pE' ha) | (show Y _ ⟨_, .call ⟨.value _, _, _⟩, _, _, _, _⟩ _ _ _; first | exact q_c (rMul_fn _ _) rfl | exact q_c (more12_fn _ _) rfl) | exact ya)) | (apply c_ld; (· exact rfl); (· exact rfl); (· exact rfl); (· first | exact q_pE' ha | (show Y _ ⟨_, .indexAddr _ _ _, _, _, _, _⟩ _ _ _; first | exact q_ioE (pc) rfl rfl rfl rfl rfl rfl (by omega) (by omega)) | (show Y _ ⟨_, .load _ _, _, _, _, _⟩ _ _ _; first | exact q_pE' ha) | (show Y _ ⟨_, .call ⟨.value _, _, _⟩, _, _, _, _⟩ _ _ _; first | exact q_c (rMul_fn _ _) rfl | exact q_c (more12_fn _ _) rfl) | exact ya)) | refine c_grdN rfl rfl rfl ?_) | refine kO rfl rfl rfl rfl rfl ?_ | refine kP rfl rfl rfl ?_ | ((first | refine kQ rfl rfl ?_ ?_ | refine kR rfl rfl rfl rfl rfl ?_ ?_ | refine kS rfl rfl rfl ?_ ?_ | refine c_grd rfl rfl rfl ?_ ?_) <;> intro hc <;> (try simp only [KL, cond_true, cond_false, beq_iff_eq, bne_iff_ne, ne_eq, reduceCtorEq] at hc) <;> (try (have hT : True := hc; clear hT hc)) <;> (try (exfalso; omega))) | apply kT | apply kU | apply kV | apply kW | refine kX rfl ?_ | apply kY | apply kZ)
        refine c_tu (x' := max x.fin (moreI (moreI a (mulI c one.thr)) one.fin)) rfl rfl trivial (TuO.post (tu_st (sto_B rfl rfl rfl rfl rfl rfl (Nat.le_of_ble_eq_true rfl)) rfl) leh) ?_
        repeat' (first | (show W _ _ _ _ _ _; first | apply kA | refine kB rfl ?_ | refine kC rfl rfl ?_ | refine kD rfl rfl ?_ | apply kE | apply kF | apply kG | apply kH) | (show O _ _ _ _ _ _ _; first | (show O _ _ _ _ (⟨_, .store _ _ _, _, _, _, _⟩ :: _) _ _; refine kJ rfl rfl rfl rfl rfl rfl rfl rfl rfl rfl rfl ?_) | apply kK) | apply kL | ((first | apply kM | apply kN); (iterate 3 (· exact rfl)); (· first | exact ya)) | (show C _ _ _ _ _ _ _ _ _ _ _; first | refine cnil ?_ | (apply c_any; (· exact rfl); (· exact rfl); (· intro y' hy'; first | exact ya)) | (apply c_ld; (· exact rfl); (· exact rfl); (· exact rfl); (· first | exact ya)) | refine c_grdN rfl rfl rfl ?_) | refine kO rfl rfl rfl rfl rfl ?_ | refine kP rfl rfl rfl ?_ | ((first | refine kQ rfl rfl ?_ ?_ | refine kR rfl rfl rfl rfl rfl ?_ ?_ | refine kS rfl rfl rfl ?_ ?_ | refine c_grd rfl rfl rfl ?_ ?_) <;> intro hc <;> (try simp only [KL, cond_true, cond_false, beq_iff_eq, bne_iff_ne, ne_eq, reduceCtorEq] at hc) <;> (try (have hT : True := hc; clear hT hc)) <;> (try (exfalso; omega))) | apply kT | apply kU | apply kV | apply kW | refine kX rfl ?_ | apply kY | apply kZ)
        refine wle (s' := [(0, .lst 5 (p.map eInstr)), (1, .lst 1 (w.map eI)), (2, .lst 2 (l.map eSpan)), (7, .ref (eSpan part)), (8, .ptr 20 0), (9, .own 11), (11, .ptr 21 0), (12, .int .i64 pc), (13, .ptr 22 0), (16, .ptr 23 0), (17, .int .i64 c)]) (h' := [(11, .row 3 1 ((x.at_).map eI)), (20, .blk 130 [.int .i64 0, .int .i64 0]), (21, .blk 130 [.int .i64 x.thr, .int .i64 (max x.fin (moreI (moreI a (mulI c one.thr)) one.fin))]), (22, .blk 135 (eSpan s)), (23, .blk 130 (eWay one))]) les leh ?_
        have hat : (x.at_.set t (max b (moreI a (mulI (c + 1) one.thr)))).getD pc default = a := by rw [getD_setG, if_neg (by omega), ha]
        have hatl : (x.at_.set t (max b (moreI a (mulI (c + 1) one.thr)))).length = p.length + 1 := by rw [List.length_set]; exact hal
        refine wdrawC (H := fun y : List Int => [(11, .row 3 1 ((y).map eI)), (20, .blk 130 [.int .i64 0, .int .i64 0]), (21, .blk 130 [.int .i64 x.thr, .int .i64 (max x.fin (moreI (moreI a (mulI c one.thr)) one.fin))]), (22, .blk 135 (eSpan s)), (23, .blk 130 (eWay one))]) (ok := fun y => y.length = p.length + 1) (tn := [22]) (ln := [9, 13]) x.at_ leh (by kernel_rfl) (by kernel_rfl) (by kernel_rfl) hal ?_
        repeat' (first | (show W _ _ _ _ _ _; first | apply kA | refine kB rfl ?_ | refine kC rfl rfl ?_ | refine kD rfl rfl ?_ | apply kE | apply kF | apply kG | apply kH) | (show O _ _ _ _ _ _ _; first | (show O _ _ _ _ (⟨_, .store _ _ _, _, _, _, _⟩ :: _) _ _; refine kJ rfl rfl rfl rfl rfl rfl rfl rfl rfl rfl rfl ?_) | apply kK) | apply kL | ((first | apply kM | apply kN); (iterate 3 (· exact rfl)); (· first | (show Y _ ⟨_, .indexAddr _ _ _, _, _, _, _⟩ _ _ _; first | exact q_ioE (pc) rfl rfl rfl rfl rfl rfl (by omega) (by omega) | exact q_ioE (t) rfl rfl rfl rfl rfl rfl (by omega) (by omega)) | (show Y _ ⟨_, .load _ _, _, _, _, _⟩ _ _ _; first | exact q_pE' ha | exact q_pE' hb) | (show Y _ ⟨_, .call ⟨.value _, _, _⟩, _, _, _, _⟩ _ _ _; first | exact q_c (rMul_fn _ _) rfl | exact q_c (more12_fn _ _) rfl) | exact ya)) | (show C _ _ _ _ _ _ _ _ _ _ _; first | refine cnil ?_ | (apply c_any; (· exact rfl); (· exact rfl); (· intro y' hy'; first | (show Y _ ⟨_, .indexAddr _ _ _, _, _, _, _⟩ _ _ _; first | exact q_ioE (pc) rfl rfl rfl rfl rfl rfl (by omega) (by omega) | exact q_ioE (t) rfl rfl rfl rfl rfl rfl (by omega) (by omega)) | (show Y _ ⟨_, .load _ _, _, _, _, _⟩ _ _ _; first | exact q_pE' ha | exact q_pE' hb) | (show Y _ ⟨_, .call ⟨.value _, _, _⟩, _, _, _, _⟩ _ _ _; first | exact q_c (rMul_fn _ _) rfl | exact q_c (more12_fn _ _) rfl) | exact ya)) | (apply c_ld; (· exact rfl); (· exact rfl); (· exact rfl); (· first | exact q_pE' ha | exact q_pE' hb | (show Y _ ⟨_, .indexAddr _ _ _, _, _, _, _⟩ _ _ _; first | exact q_ioE (pc) rfl rfl rfl rfl rfl rfl (by omega) (by omega) | exact q_ioE (t) rfl rfl rfl rfl rfl rfl (by omega) (by omega)) | (show Y _ ⟨_, .load _ _, _, _, _, _⟩ _ _ _; first | exact q_pE' ha | exact q_pE' hb) | (show Y _ ⟨_, .call ⟨.value _, _, _⟩, _, _, _, _⟩ _ _ _; first | exact q_c (rMul_fn _ _) rfl | exact q_c (more12_fn _ _) rfl) | exact ya)) | refine c_grdN rfl rfl rfl ?_) | refine kO rfl rfl rfl rfl rfl ?_ | refine kP rfl rfl rfl ?_ | ((first | refine kQ rfl rfl ?_ ?_ | refine kR rfl rfl rfl rfl rfl ?_ ?_ | refine kS rfl rfl rfl ?_ ?_ | refine c_grd rfl rfl rfl ?_ ?_) <;> intro hc <;> (try simp only [KL, cond_true, cond_false, beq_iff_eq, bne_iff_ne, ne_eq, reduceCtorEq] at hc) <;> (try (have hT : True := hc; clear hT hc)) <;> (try (exfalso; omega))) | apply kT | apply kU | apply kV | apply kW | refine kX rfl ?_ | apply kY | apply kZ)
        refine c_tu (x' := x.at_.set t (max b (moreI a (mulI (c + 1) one.thr)))) rfl rfl hatl (TuO.post (tu_st (sto_E (x' := max b (moreI a (mulI (c + 1) one.thr))) rfl rfl rfl rfl rfl rfl (Nat.le_of_ble_eq_true rfl) rfl (by omega)) rfl) leh) ?_
        repeat' (first | (show W _ _ _ _ _ _; first | apply kA | refine kB rfl ?_ | refine kC rfl rfl ?_ | refine kD rfl rfl ?_ | apply kE | apply kF | apply kG | apply kH) | (show O _ _ _ _ _ _ _; first | (show O _ _ _ _ (⟨_, .store _ _ _, _, _, _, _⟩ :: _) _ _; refine kJ rfl rfl rfl rfl rfl rfl rfl rfl rfl rfl rfl ?_) | apply kK) | apply kL | ((first | apply kM | apply kN); (iterate 3 (· exact rfl)); (· first | exact ya)) | (show C _ _ _ _ _ _ _ _ _ _ _; first | refine cnil ?_ | (apply c_any; (· exact rfl); (· exact rfl); (· intro y' hy'; first | exact ya)) | (apply c_ld; (· exact rfl); (· exact rfl); (· exact rfl); (· first | exact ya)) | refine c_grdN rfl rfl rfl ?_) | refine kO rfl rfl rfl rfl rfl ?_ | refine kP rfl rfl rfl ?_ | ((first | refine kQ rfl rfl ?_ ?_ | refine kR rfl rfl rfl rfl rfl ?_ ?_ | refine kS rfl rfl rfl ?_ ?_ | refine c_grd rfl rfl rfl ?_ ?_) <;> intro hc <;> (try simp only [KL, cond_true, cond_false, beq_iff_eq, bne_iff_ne, ne_eq, reduceCtorEq] at hc) <;> (try (have hT : True := hc; clear hT hc)) <;> (try (exfalso; omega))) | apply kT | apply kU | apply kV | apply kW | refine kX rfl ?_ | apply kY | apply kZ)
        refine wle (s' := [(0, .lst 5 (p.map eInstr)), (1, .lst 1 (w.map eI)), (2, .lst 2 (l.map eSpan)), (7, .ref (eSpan part)), (8, .ptr 20 0), (9, .own 11), (11, .ptr 21 0), (12, .int .i64 pc), (13, .ptr 22 0), (16, .ptr 23 0), (17, .int .i64 c)]) (h' := [(11, .row 3 1 ((x.at_.set t (max b (moreI a (mulI (c + 1) one.thr)))).map eI)), (20, .blk 130 [.int .i64 0, .int .i64 0]), (21, .blk 130 [.int .i64 x.thr, .int .i64 (max x.fin (moreI (moreI a (mulI c one.thr)) one.fin))]), (22, .blk 135 (eSpan s)), (23, .blk 130 (eWay one))]) les leh ?_
        generalize x.at_.set t (max b (moreI a (mulI (c + 1) one.thr))) = at2 at *
        refine wdrawC (H := fun y : Int => [(11, .row 3 1 ((at2).map eI)), (20, .blk 130 [.int .i64 0, .int .i64 0]), (21, .blk 130 [.int .i64 x.thr, .int .i64 (y)]), (22, .blk 135 (eSpan s)), (23, .blk 130 (eWay one))]) (ok := fun _ => True) (tn := [11]) (ln := [1]) (max x.fin (moreI (moreI a (mulI c one.thr)) one.fin)) leh (by kernel_rfl) (by kernel_rfl) (by kernel_rfl) trivial ?_
        repeat' (first | (show W _ _ _ _ _ _; first | apply kA | refine kB rfl ?_ | refine kC rfl rfl ?_ | refine kD rfl rfl ?_ | apply kE | apply kF | apply kG | apply kH) | (show O _ _ _ _ _ _ _; first | (show O _ _ _ _ (⟨_, .store _ _ _, _, _, _, _⟩ :: _) _ _; refine kJ rfl rfl rfl rfl rfl rfl rfl rfl rfl rfl rfl ?_) | apply kK) | apply kL | ((first | apply kM | apply kN); (iterate 3 (· exact rfl)); (· first | (show Y _ ⟨_, .indexAddr _ _ _, _, _, _, _⟩ _ _ _; first | exact q_ioE (pc) rfl rfl rfl rfl rfl rfl (by omega) (by omega)) | (show Y _ ⟨_, .load _ _, _, _, _, _⟩ _ _ _; first | exact q_pE' hat) | (show Y _ ⟨_, .call ⟨.value _, _, _⟩, _, _, _, _⟩ _ _ _; first | exact q_c (more12_fn _ _) rfl) | exact ya)) | (show C _ _ _ _ _ _ _ _ _ _ _; first | refine cnil ?_ | (apply c_any; (· exact rfl); (· exact rfl); (· intro y' hy'; first | (show Y _ ⟨_, .indexAddr _ _ _, _, _, _, _⟩ _ _ _; first | exact q_ioE (pc) rfl rfl rfl rfl rfl rfl (by omega) (by omega)) | (show Y _ ⟨_, .load _ _, _, _, _, _⟩ _ _ _; first | exact q_pE' hat) | (show Y _ ⟨_, .call ⟨.value _, _, _⟩, _, _, _, _⟩ _ _ _; first | exact q_c (more12_fn _ _) rfl) | exact ya)) | (apply c_ld; (· exact rfl); (· exact rfl); (· exact rfl); (· first | exact q_pE' hat | (show Y _ ⟨_, .indexAddr _ _ _, _, _, _, _⟩ _ _ _; first | exact q_ioE (pc) rfl rfl rfl rfl rfl rfl (by omega) (by omega)) | (show Y _ ⟨_, .load _ _, _, _, _, _⟩ _ _ _; first | exact q_pE' hat) | (show Y _ ⟨_, .call ⟨.value _, _, _⟩, _, _, _, _⟩ _ _ _; first | exact q_c (more12_fn _ _) rfl) | exact ya)) | refine c_grdN rfl rfl rfl ?_) | refine kO rfl rfl rfl rfl rfl ?_ | refine kP rfl rfl rfl ?_ | ((first | refine kQ rfl rfl ?_ ?_ | refine kR rfl rfl rfl rfl rfl ?_ ?_ | refine kS rfl rfl rfl ?_ ?_ | refine c_grd rfl rfl rfl ?_ ?_) <;> intro hc <;> (try simp only [KL, cond_true, cond_false, beq_iff_eq, bne_iff_ne, ne_eq, reduceCtorEq] at hc) <;> (try (have hT : True := hc; clear hT hc)) <;> (try (exfalso; omega))) | apply kT | apply kU | apply kV | apply kW | refine kX rfl ?_ | apply kY | apply kZ)
        refine c_tu (x' := max (max x.fin (moreI (moreI a (mulI c one.thr)) one.fin)) (moreI a one.fin)) rfl rfl trivial (TuO.post (tu_st (sto_B rfl rfl rfl rfl rfl rfl (Nat.le_of_ble_eq_true rfl)) rfl) leh) ?_
        repeat' (first | (show W _ _ _ _ _ _; first | apply kA | refine kB rfl ?_ | refine kC rfl rfl ?_ | refine kD rfl rfl ?_ | apply kE | apply kF | apply kG | apply kH) | (show O _ _ _ _ _ _ _; first | (show O _ _ _ _ (⟨_, .store _ _ _, _, _, _, _⟩ :: _) _ _; refine kJ rfl rfl rfl rfl rfl rfl rfl rfl rfl rfl rfl ?_) | apply kK) | apply kL | ((first | apply kM | apply kN); (iterate 3 (· exact rfl)); (· first | exact ya)) | (show C _ _ _ _ _ _ _ _ _ _ _; first | refine cnil ?_ | (apply c_any; (· exact rfl); (· exact rfl); (· intro y' hy'; first | exact ya)) | (apply c_ld; (· exact rfl); (· exact rfl); (· exact rfl); (· first | exact ya)) | refine c_grdN rfl rfl rfl ?_) | refine kO rfl rfl rfl rfl rfl ?_ | refine kP rfl rfl rfl ?_ | ((first | refine kQ rfl rfl ?_ ?_ | refine kR rfl rfl rfl rfl rfl ?_ ?_ | refine kS rfl rfl rfl ?_ ?_ | refine c_grd rfl rfl rfl ?_ ?_) <;> intro hc <;> (try simp only [KL, cond_true, cond_false, beq_iff_eq, bne_iff_ne, ne_eq, reduceCtorEq] at hc) <;> (try (have hT : True := hc; clear hT hc)) <;> (try (exfalso; omega))) | apply kT | apply kU | apply kV | apply kW | refine kX rfl ?_ | apply kY | apply kZ)
        exact ⟨k + 1, by omega, by omega, les, by simp only [hnx]; exact leh⟩
      · rw [fLoop, if_neg hthr, ha] at hnx
        repeat' (first | (show W _ _ _ _ _ _; first | apply kA | refine kB rfl ?_ | refine kC rfl rfl ?_ | refine kD rfl rfl ?_ | apply kE | apply kF | apply kG | apply kH) | (show O _ _ _ _ _ _ _; first | (show O _ _ _ _ (⟨_, .store _ _ _, _, _, _, _⟩ :: _) _ _; refine kJ rfl rfl rfl rfl rfl rfl rfl rfl rfl rfl rfl ?_) | apply kK) | apply kL | ((first | apply kM | apply kN); (iterate 3 (· exact rfl)); (· first | exact ya)) | (show NW _ _ _ _ _ _ _ _ _ _ _ _ _ _; first | refine nnil ?_ | (apply n_any; (· exact rfl); (· exact rfl); (· exact rfl); (· intro y' f' hy'; first | exact ya); (· first | exact rfl | kernel_rfl))) | refine kO rfl rfl rfl rfl rfl ?_ | refine kP rfl rfl rfl ?_ | ((first | refine kQ rfl rfl ?_ ?_ | refine kR rfl rfl rfl rfl rfl ?_ ?_ | refine kS rfl rfl rfl ?_ ?_) <;> intro hc <;> (try simp only [KL, cond_true, cond_false, beq_iff_eq, bne_iff_ne, ne_eq, reduceCtorEq] at hc) <;> (try (have hT : True := hc; clear hT hc)) <;> (try (exfalso; omega))) | apply kT | apply kU | apply kV | apply kW | refine kX rfl ?_ | apply kY | apply kZ)
        all_goals first | (exfalso; omega) | skip
        refine wle (s' := [(0, .lst 5 (p.map eInstr)), (1, .lst 1 (w.map eI)), (2, .lst 2 (l.map eSpan)), (7, .ref (eSpan part)), (8, .ptr 20 0), (9, .own 11), (11, .ptr 21 0), (12, .int .i64 pc), (13, .ptr 22 0), (16, .ptr 23 0), (17, .int .i64 c)]) (h' := [(11, .row 3 1 ((x.at_).map eI)), (20, .blk 130 [.int .i64 0, .int .i64 0]), (21, .blk 130 [.int .i64 x.thr, .int .i64 (x.fin)]), (22, .blk 135 (eSpan s)), (23, .blk 130 (eWay one))]) les leh ?_
        refine wdrawC (H := fun y : Int => [(11, .row 3 1 ((x.at_).map eI)), (20, .blk 130 [.int .i64 0, .int .i64 0]), (21, .blk 130 [.int .i64 x.thr, .int .i64 (y)]), (22, .blk 135 (eSpan s)), (23, .blk 130 (eWay one))]) (ok := fun _ => True) (tn := [11]) (ln := [1]) x.fin leh (by kernel_rfl) (by kernel_rfl) (by kernel_rfl) trivial ?_
        repeat' (first | (show W _ _ _ _ _ _; first | apply kA | refine kB rfl ?_ | refine kC rfl rfl ?_ | refine kD rfl rfl ?_ | apply kE | apply kF | apply kG | apply kH) | (show O _ _ _ _ _ _ _; first | (show O _ _ _ _ (⟨_, .store _ _ _, _, _, _, _⟩ :: _) _ _; refine kJ rfl rfl rfl rfl rfl rfl rfl rfl rfl rfl rfl ?_) | apply kK) | apply kL | ((first | apply kM | apply kN); (iterate 3 (· exact rfl)); (· first | (show Y _ ⟨_, .indexAddr _ _ _, _, _, _, _⟩ _ _ _; first | exact q_ioE (pc) rfl rfl rfl rfl rfl rfl (by omega) (by omega)) | (show Y _ ⟨_, .load _ _, _, _, _, _⟩ _ _ _; first | exact q_pE' ha) | (show Y _ ⟨_, .call ⟨.value _, _, _⟩, _, _, _, _⟩ _ _ _; first | exact q_c (more12_fn _ _) rfl) | exact ya)) | (show C _ _ _ _ _ _ _ _ _ _ _; first | refine cnil ?_ | (apply c_any; (· exact rfl); (· exact rfl); (· intro y' hy'; first | (show Y _ ⟨_, .indexAddr _ _ _, _, _, _, _⟩ _ _ _; first | exact q_ioE (pc) rfl rfl rfl rfl rfl rfl (by omega) (by omega)) | (show Y _ ⟨_, .load _ _, _, _, _, _⟩ _ _ _; first | exact q_pE' ha) | (show Y _ ⟨_, .call ⟨.value _, _, _⟩, _, _, _, _⟩ _ _ _; first | exact q_c (more12_fn _ _) rfl) | exact ya)) | (apply c_ld; (· exact rfl); (· exact rfl); (· exact rfl); (· first | exact q_pE' ha | (show Y _ ⟨_, .indexAddr _ _ _, _, _, _, _⟩ _ _ _; first | exact q_ioE (pc) rfl rfl rfl rfl rfl rfl (by omega) (by omega)) | (show Y _ ⟨_, .load _ _, _, _, _, _⟩ _ _ _; first | exact q_pE' ha) | (show Y _ ⟨_, .call ⟨.value _, _, _⟩, _, _, _, _⟩ _ _ _; first | exact q_c (more12_fn _ _) rfl) | exact ya)) | refine c_grdN rfl rfl rfl ?_) | refine kO rfl rfl rfl rfl rfl ?_ | refine kP rfl rfl rfl ?_ | ((first | refine kQ rfl rfl ?_ ?_ | refine kR rfl rfl rfl rfl rfl ?_ ?_ | refine kS rfl rfl rfl ?_ ?_ | refine c_grd rfl rfl rfl ?_ ?_) <;> intro hc <;> (try simp only [KL, cond_true, cond_false, beq_iff_eq, bne_iff_ne, ne_eq, reduceCtorEq] at hc) <;> (try (have hT : True := hc; clear hT hc)) <;> (try (exfalso; omega))) | apply kT | apply kU | apply kV | apply kW | refine kX rfl ?_ | apply kY | apply kZ)
        refine c_tu (x' := max x.fin (moreI a one.fin)) rfl rfl trivial (TuO.post (tu_st (sto_B rfl rfl rfl rfl rfl rfl (Nat.le_of_ble_eq_true rfl)) rfl) leh) ?_
        repeat' (first | (show W _ _ _ _ _ _; first | apply kA | refine kB rfl ?_ | refine kC rfl rfl ?_ | refine kD rfl rfl ?_ | apply kE | apply kF | apply kG | apply kH) | (show O _ _ _ _ _ _ _; first | (show O _ _ _ _ (⟨_, .store _ _ _, _, _, _, _⟩ :: _) _ _; refine kJ rfl rfl rfl rfl rfl rfl rfl rfl rfl rfl rfl ?_) | apply kK) | apply kL | ((first | apply kM | apply kN); (iterate 3 (· exact rfl)); (· first | exact ya)) | (show C _ _ _ _ _ _ _ _ _ _ _; first | refine cnil ?_ | (apply c_any; (· exact rfl); (· exact rfl); (· intro y' hy'; first | exact ya)) | (apply c_ld; (· exact rfl); (· exact rfl); (· exact rfl); (· first | exact ya)) | refine c_grdN rfl rfl rfl ?_) | refine kO rfl rfl rfl rfl rfl ?_ | refine kP rfl rfl rfl ?_ | ((first | refine kQ rfl rfl ?_ ?_ | refine kR rfl rfl rfl rfl rfl ?_ ?_ | refine kS rfl rfl rfl ?_ ?_ | refine c_grd rfl rfl rfl ?_ ?_) <;> intro hc <;> (try simp only [KL, cond_true, cond_false, beq_iff_eq, bne_iff_ne, ne_eq, reduceCtorEq] at hc) <;> (try (have hT : True := hc; clear hT hc)) <;> (try (exfalso; omega))) | apply kT | apply kU | apply kV | apply kW | refine kX rfl ?_ | apply kY | apply kZ)
        exact ⟨k + 1, by omega, by omega, les, by simp only [hnx]; exact leh⟩
    · rw [if_neg hs0, fNode] at hnx
      have c2 := rIns_fn (w.getD pc default)
      rw [show insI (w.getD pc default) = wAt w pc from rfl] at c2
      have hwa := wAt_ok w pc
      obtain ⟨z, hz⟩ : ∃ z, p.getD pc default = z := ⟨_, rfl⟩
      obtain ⟨wz, hwz⟩ : ∃ z, w.getD pc default = z := ⟨_, rfl⟩
      rw [hwz] at c2
      rw [hz, ha] at hnx
      have c3 := more12_fn a (wAt w pc)
      have hmo := more_ok a (wAt w pc)
      simp only [okI] at hmo
      generalize moreI a (wAt w pc) = sum at *
      by_cases h21 : z.op = 21
      · rw [if_pos h21] at hnx
        repeat' (first | (show W _ _ _ _ _ _; first | apply kA | refine kB rfl ?_ | refine kC rfl rfl ?_ | refine kD rfl rfl ?_ | apply kE | apply kF | apply kG | apply kH | refine kI (by kernel_rfl) (by kernel_rfl) ?_) | (show O _ _ _ _ _ _ _; first | (show O _ _ _ _ (⟨_, .store _ _ _, _, _, _, _⟩ :: _) _ _; refine kJ rfl rfl rfl rfl rfl rfl rfl rfl rfl rfl rfl ?_) | apply kK) | apply kL | ((first | apply kM | apply kN); (iterate 3 (· exact rfl)); (· first | (show Y _ ⟨_, .indexAddr _ _ _, _, _, _, _⟩ _ _ _; first | exact q_ioE (pc) rfl rfl rfl rfl rfl rfl (by omega) (by omega) | exact Y.mk (ok_indexE (hwz) rfl rfl rfl rfl rfl (by omega)) | exact Y.mk (ok_indexE (hz) rfl rfl rfl rfl rfl (by omega))) | (show Y _ ⟨_, .load _ _, _, _, _, _⟩ _ _ _; first | exact q_pE' ha) | (show Y _ ⟨_, .call ⟨.value _, _, _⟩, _, _, _, _⟩ _ _ _; first | exact q_c (c2) rfl | exact q_c (c3) rfl) | exact ya)) | refine kO rfl rfl rfl rfl rfl ?_ | refine kP rfl rfl rfl ?_ | ((first | refine kQ rfl rfl ?_ ?_ | refine kR rfl rfl rfl rfl rfl ?_ ?_ | refine kS rfl rfl rfl ?_ ?_) <;> intro hc <;> (try simp only [KL, cond_true, cond_false, beq_iff_eq, bne_iff_ne, ne_eq, reduceCtorEq] at hc) <;> (try (have hT : True := hc; clear hT hc)) <;> (try (exfalso; omega))) | apply kT | apply kU | apply kV | apply kW | refine kX rfl ?_ | apply kY | apply kZ)
        all_goals first | (exfalso; omega) | exact ⟨k + 1, by omega, by omega, les, by simp only [hnx]; exact leh⟩
      rw [if_neg h21] at hnx
      by_cases h16 : z.op = 16
      · rw [if_pos h16] at hnx
        repeat' (first | (show W _ _ _ _ _ _; first | apply kA | refine kB rfl ?_ | refine kC rfl rfl ?_ | refine kD rfl rfl ?_ | apply kE | apply kF | apply kG | apply kH | refine kI (by kernel_rfl) (by kernel_rfl) ?_) | (show O _ _ _ _ _ _ _; first | (show O _ _ _ _ (⟨_, .store _ _ _, _, _, _, _⟩ :: _) _ _; refine kJ rfl rfl rfl rfl rfl rfl rfl rfl rfl rfl rfl ?_) | apply kK) | apply kL | ((first | apply kM | apply kN); (iterate 3 (· exact rfl)); (· first | (show Y _ ⟨_, .indexAddr _ _ _, _, _, _, _⟩ _ _ _; first | exact q_ioE (pc) rfl rfl rfl rfl rfl rfl (by omega) (by omega) | exact Y.mk (ok_indexE (hwz) rfl rfl rfl rfl rfl (by omega)) | exact Y.mk (ok_indexE (hz) rfl rfl rfl rfl rfl (by omega))) | (show Y _ ⟨_, .load _ _, _, _, _, _⟩ _ _ _; first | exact q_pE' ha) | (show Y _ ⟨_, .call ⟨.value _, _, _⟩, _, _, _, _⟩ _ _ _; first | exact q_c (c2) rfl | exact q_c (c3) rfl) | exact ya)) | refine kO rfl rfl rfl rfl rfl ?_ | refine kP rfl rfl rfl ?_ | ((first | refine kQ rfl rfl ?_ ?_ | refine kR rfl rfl rfl rfl rfl ?_ ?_ | refine kS rfl rfl rfl ?_ ?_) <;> intro hc <;> (try simp only [KL, cond_true, cond_false, beq_iff_eq, bne_iff_ne, ne_eq, reduceCtorEq] at hc) <;> (try (have hT : True := hc; clear hT hc)) <;> (try (exfalso; omega))) | apply kT | apply kU | apply kV | apply kW | refine kX rfl ?_ | apply kY | apply kZ)
        all_goals first | (exfalso; omega) | exact ⟨k + 1, by omega, by omega, les, by simp only [hnx]; exact leh⟩
      rw [if_neg h16] at hnx
      have c4 := rnext_fn p pc (by omega) (by omega)
      rw [may_next hfp hn (by omega)] at c4
      have hup : ∀ y ∈ nextL p pc, 0 ≤ y ∧ y < p.length := fun y hy => by
        obtain ⟨j, rfl, q1, q2, _⟩ := next_up hfp hn (by omega) (by rw [hz]; exact h16) hy
        omega
      have hnl := next_len p pc
      repeat' (first | (show W _ _ _ _ _ _; first | apply kA | refine kB rfl ?_ | refine kC rfl rfl ?_ | refine kD rfl rfl ?_ | apply kE | apply kF | apply kG | apply kH | refine kI (by kernel_rfl) (by kernel_rfl) ?_) | (show O _ _ _ _ _ _ _; first | (show O _ _ _ _ (⟨_, .store _ _ _, _, _, _, _⟩ :: _) _ _; refine kJ rfl rfl rfl rfl rfl rfl rfl rfl rfl rfl rfl ?_) | apply kK) | apply kL | ((first | apply kM | apply kN); (iterate 3 (· exact rfl)); (· first | (show Y _ ⟨_, .indexAddr _ _ _, _, _, _, _⟩ _ _ _; first | exact q_ioE (pc) rfl rfl rfl rfl rfl rfl (by omega) (by omega) | exact Y.mk (ok_indexE (hwz) rfl rfl rfl rfl rfl (by omega)) | exact Y.mk (ok_indexE (hz) rfl rfl rfl rfl rfl (by omega))) | (show Y _ ⟨_, .load _ _, _, _, _, _⟩ _ _ _; first | exact q_pE' ha) | (show Y _ ⟨_, .call ⟨.value _, _, _⟩, _, _, _, _⟩ _ _ _; first | exact q_c (c2) rfl | exact q_c (c3) rfl | exact q_c (c4) rfl) | exact ya)) | refine kO rfl rfl rfl rfl rfl ?_ | refine kP rfl rfl rfl ?_ | ((first | refine kQ rfl rfl ?_ ?_ | refine kR rfl rfl rfl rfl rfl ?_ ?_ | refine kS rfl rfl rfl ?_ ?_) <;> intro hc <;> (try simp only [KL, cond_true, cond_false, beq_iff_eq, bne_iff_ne, ne_eq, reduceCtorEq] at hc) <;> (try (have hT : True := hc; clear hT hc)) <;> (try (exfalso; omega))) | apply kT | apply kU | apply kV | apply kW | refine kX rfl ?_ | apply kY | apply kZ)
      all_goals first | (exfalso; omega) | skip
      refine wloop (fun j : Nat => ([(0, .lst 5 (p.map eInstr)), (1, .lst 1 (w.map eI)), (2, .lst 2 (l.map eSpan)), (7, .ref (eSpan part)), (8, .ptr 20 0), (9, .own 11), (11, .ptr 21 0), (12, .int .i64 pc), (18, .int .i64 sum), (166, .lst 1 ((nextL p pc).map eI)), (167, .int .i64 (nextL p pc).length), (168, .int .i64 j)], [(11, .row 3 1 ((((nextL p pc).take j).foldl (push sum) x.at_).map eI)), (20, .blk 130 [.int .i64 0, .int .i64 0]), (21, .blk 130 [.int .i64 x.thr, .int .i64 x.fin])])) (fun j => j ≤ (nextL p pc).length) (fun j => (nextL p pc).length - j) 0 (Nat.zero_le _) les leh (fun j hj => ?_)
      have hpl : (((nextL p pc).take j).foldl (push sum) x.at_).length = p.length + 1 := by rw [push_len]; exact hal
      rcases Nat.lt_or_eq_of_le hj with hjl | hjl
      · have hpn := push_next sum x.at_ (nextL p pc) j hjl
        have hy := hup _ (getD_mem hjl)
        obtain ⟨y, hyd⟩ : ∃ y, (nextL p pc).getD j default = y := ⟨_, rfl⟩
        rw [hyd] at hpn hy
        obtain ⟨q, rfl⟩ : ∃ q : Nat, y = q := ⟨y.toNat, by omega⟩
        generalize ((nextL p pc).take j).foldl (push sum) x.at_ = at_ at *
        rw [push, Int.toNat_natCast] at hpn
        obtain ⟨b, hb⟩ : ∃ b, at_.getD q default = b := ⟨_, rfl⟩
        rw [hb] at hpn
        repeat' (first | (show W _ _ _ _ _ _; first | apply kA | refine kB rfl ?_ | refine kC rfl rfl ?_ | refine kD rfl rfl ?_ | apply kE | apply kF | apply kG | apply kH | refine kI (by kernel_rfl) (by kernel_rfl) ?_) | (show O _ _ _ _ _ _ _; first | (show O _ _ _ _ (⟨_, .store _ _ _, _, _, _, _⟩ :: _) _ _; refine kJ rfl rfl rfl rfl rfl rfl rfl rfl rfl rfl rfl ?_) | apply kK) | apply kL | ((first | apply kM | apply kN); (iterate 3 (· exact rfl)); (· first | (show Y _ ⟨_, .indexAddr _ _ _, _, _, _, _⟩ _ _ _; first | exact q_ioE (q) rfl rfl rfl rfl rfl rfl (by omega) (by omega) | exact Y.mk (ok_indexE (hyd) rfl rfl rfl rfl rfl (by omega))) | (show Y _ ⟨_, .load _ _, _, _, _, _⟩ _ _ _; first | exact q_pE' hb) | exact ya)) | refine kO rfl rfl rfl rfl rfl ?_ | refine kP rfl rfl rfl ?_ | ((first | refine kQ rfl rfl ?_ ?_ | refine kR rfl rfl rfl rfl rfl ?_ ?_ | refine kS rfl rfl rfl ?_ ?_) <;> intro hc <;> (try simp only [KL, cond_true, cond_false, beq_iff_eq, bne_iff_ne, ne_eq, reduceCtorEq] at hc) <;> (try (have hT : True := hc; clear hT hc)) <;> (try (exfalso; omega))) | apply kT | apply kU | apply kV | apply kW | refine kX rfl ?_ | apply kY | apply kZ)
        all_goals first | (exfalso; omega) | skip
        subst hb
        (refine ao_se (x' := max (at_.getD q default) sum) rfl rfl rfl rfl rfl rfl rfl rfl rfl ?_ rfl rfl rfl ?_; (· (first | omega | ((try simp only [List.length_set, List.length_cons, List.length_nil, List.length_append, List.length_map]) <;> omega))))
        repeat' (first | (show W _ _ _ _ _ _; first | apply kA | refine kB rfl ?_ | refine kC rfl rfl ?_ | refine kD rfl rfl ?_ | apply kE | apply kF | apply kG | apply kH | refine kI (by kernel_rfl) (by kernel_rfl) ?_) | (show O _ _ _ _ _ _ _; first | (show O _ _ _ _ (⟨_, .store _ _ _, _, _, _, _⟩ :: _) _ _; refine kJ rfl rfl rfl rfl rfl rfl rfl rfl rfl rfl rfl ?_) | apply kK) | apply kL | ((first | apply kM | apply kN); (iterate 3 (· exact rfl)); (· first | exact ya)) | refine kO rfl rfl rfl rfl rfl ?_ | refine kP rfl rfl rfl ?_ | ((first | refine kQ rfl rfl ?_ ?_ | refine kR rfl rfl rfl rfl rfl ?_ ?_ | refine kS rfl rfl rfl ?_ ?_) <;> intro hc <;> (try simp only [KL, cond_true, cond_false, beq_iff_eq, bne_iff_ne, ne_eq, reduceCtorEq] at hc) <;> (try (have hT : True := hc; clear hT hc)) <;> (try (exfalso; omega))) | apply kT | apply kU | apply kV | apply kW | refine kX rfl ?_ | apply kY | apply kZ)
        exact ⟨j + 1, by omega, by omega, les, by simp only [hpn]; exact leh⟩
      · subst hjl
        rw [List.take_length]
        repeat' (first | (show W _ _ _ _ _ _; first | apply kA | refine kB rfl ?_ | refine kC rfl rfl ?_ | refine kD rfl rfl ?_ | apply kE | apply kF | apply kG | apply kH | refine kI (by kernel_rfl) (by kernel_rfl) ?_) | (show O _ _ _ _ _ _ _; first | (show O _ _ _ _ (⟨_, .store _ _ _, _, _, _, _⟩ :: _) _ _; refine kJ rfl rfl rfl rfl rfl rfl rfl rfl rfl rfl rfl ?_) | apply kK) | apply kL | ((first | apply kM | apply kN); (iterate 3 (· exact rfl)); (· first | exact ya)) | refine kO rfl rfl rfl rfl rfl ?_ | refine kP rfl rfl rfl ?_ | ((first | refine kQ rfl rfl ?_ ?_ | refine kR rfl rfl rfl rfl rfl ?_ ?_ | refine kS rfl rfl rfl ?_ ?_) <;> intro hc <;> (try simp only [KL, cond_true, cond_false, beq_iff_eq, bne_iff_ne, ne_eq, reduceCtorEq] at hc) <;> (try (have hT : True := hc; clear hT hc)) <;> (try (exfalso; omega))) | apply kT | apply kU | apply kV | apply kW | refine kX rfl ?_ | apply kY | apply kZ)
        all_goals first | (exfalso; omega) | exact ⟨k + 1, by omega, by omega, les, by simp only [hnx]; exact leh⟩
  · subst hkl
    rw [partR]
    repeat' (first | (show W _ _ _ _ _ _; first | apply kA | refine kB rfl ?_ | refine kC rfl rfl ?_ | refine kD rfl rfl ?_ | apply kE | apply kF | apply kG | apply kH | refine kI (by kernel_rfl) (by kernel_rfl) ?_) | (show O _ _ _ _ _ _ _; first | (show O _ _ _ _ (⟨_, .store _ _ _, _, _, _, _⟩ :: _) _ _; refine kJ rfl rfl rfl rfl rfl rfl rfl rfl rfl rfl rfl ?_) | apply kK) | apply kL | ((first | apply kM | apply kN); (iterate 3 (· exact rfl)); (· first | exact ya)) | refine kO rfl rfl rfl rfl rfl ?_ | refine kP rfl rfl rfl ?_ | ((first | refine kQ rfl rfl ?_ ?_ | refine kR rfl rfl rfl rfl rfl ?_ ?_ | refine kS rfl rfl rfl ?_ ?_) <;> intro hc <;> (try simp only [KL, cond_true, cond_false, beq_iff_eq, bne_iff_ne, ne_eq, reduceCtorEq] at hc) <;> (try (have hT : True := hc; clear hT hc)) <;> (try (exfalso; omega))) | apply kT | apply kU | apply kV | apply kW | refine kX rfl ?_ | apply kY | apply kZ)
    all_goals first | (exfalso; omega) | exact retq rfl rfl
def mostI (p : List Instr) (w : List Int) : Int := (partW max p w (loopsL p) p.length ⟨0, (p.length : Int) - 1⟩).fin
theorem mostI_B (p : List Instr) (w : List Int) : -1 ≤ mostI p w ∧ mostI p w ≤ 1099511627776 := (partW_ok max_ok p w _ _ _).2
theorem most12_fn (p : List Instr) (w : List Int) (hf : fineB p = true) (hn : ∀ i, 0 ≤ (p.getD i default).n) (hw : w.length = p.length) : Fn Try.prog 51 [.lst 5 (p.map eInstr), .lst 1 (w.map eI)] (.int .i64 (mostI p w)) := by
  have hfp := fine_inv hf
  have hmost := hfp.most
  have hll : (loopsL p).length ≤ 64 := Nat.le_trans (loopsTo_len p p.length) hmost
  have c1 := rloops_fn p (by omega)
  have c2 := part12_fn p w hf hn hw p.length (loopsL p) ⟨0, (p.length : Int) - 1⟩ (.inr rfl) rfl hll (by unfold sizeS; simp only; omega)
  rw [partR_eq hfp hn w _ _ _ (.inr rfl) rfl] at c2
  have hB := mostI_B p w
  unfold mostI at *
  refine fnb Try.func51 (entered_of (by kernel_rfl)) rfl rfl rfl ?_
  repeat' (first | (show W _ _ _ _ _ _; first | apply kA | refine kB rfl ?_ | refine kC rfl rfl ?_ | refine kD rfl rfl ?_ | apply kE | apply kF | apply kG | apply kH | refine kI (by kernel_rfl) (by kernel_rfl) ?_) | (show O _ _ _ _ _ _ _; first | (show O _ _ _ _ (⟨_, .store _ _ _, _, _, _, _⟩ :: _) _ _; refine kJ rfl rfl rfl rfl rfl rfl rfl rfl rfl rfl rfl ?_) | apply kK) | apply kL | ((first | apply kM | apply kN); (iterate 3 (· exact rfl)); (· first | (show Y _ ⟨_, .call ⟨.value _, _, _⟩, _, _, _, _⟩ _ _ _; first | exact q_c (c1) rfl | exact q_c (c2) rfl) | exact ya)) | refine kO rfl rfl rfl rfl rfl ?_ | refine kP rfl rfl rfl ?_ | ((first | refine kQ rfl rfl ?_ ?_ | refine kR rfl rfl rfl rfl rfl ?_ ?_ | refine kS rfl rfl rfl ?_ ?_) <;> intro hc <;> (try simp only [KL, cond_true, cond_false, beq_iff_eq, bne_iff_ne, ne_eq, reduceCtorEq] at hc) <;> (try (have hT : True := hc; clear hT hc)) <;> (try (exfalso; omega))) | apply kT | apply kU | apply kV | apply kW | refine kX rfl ?_ | apply kY | apply kZ)
  exact retq rfl rfl
theorem costF_fine {p : List Instr} {w : List Int} (hf : fineB p = true) (hw : w.length = p.length) : costF max p w = (mostI p w, 0) := by
  rw [fineB, decide_eq_true_eq] at hf
  rw [costF, if_neg (by omega), if_neg (by omega)]; rfl
theorem costF_no {bt : Int → Int → Int} {p : List Instr} {w : List Int} (hf : fineB p = false) : costF bt p w = (0, (checkF p).2) := by
  rw [fineB, decide_eq_false_iff_not] at hf
  rw [costF, if_pos hf]
end Go.Proofs.Ytkkmageogkkchaa
