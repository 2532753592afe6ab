/- What walks through a program weigh: part by part, reckoned from behind, and from ahead; both are the same. No condition. -/
import Derived.Test.YtffciebjpiljgaaG11
import Derived.Test.YtffciebjpiljgaaG20
import Derived.Test.YtffciebjpiljgaaG12
import Derived.Test.YtffciebjpiljgaaG13
namespace Go.Proofs.Ytffciebjpiljgaa
set_option linter.unusedSimpArgs false
set_option linter.unusedVariables false
set_option maxRecDepth 100000
set_option linter.unusedSimpArgs false
set_option linter.unusedVariables false
set_option maxRecDepth 100000
open Go.RowKit
structure Way where
  thr : Int
  fin : Int
instance : Inhabited Way := ⟨⟨-1, -1⟩⟩
def moreI (a b : Int) : Int := if a < 0 ∨ b < 0 then -1 else addI a b
def oftI (n x : Int) : Int := if x < 0 then -1 else mulI n x
def bestI (bt : Int → Int → Int) (a b : Int) : Int := if a < 0 then b else if b < 0 then a else bt a b
def inQ (part s : Span) : Bool := decide (s ≠ part ∧ part.frm ≤ s.frm ∧ s.to ≤ part.to)
def outQ (pc : Int) (part s : Span) : Bool := decide (s ≠ part ∧ part.frm ≤ s.frm ∧ s.to ≤ part.to ∧ s.frm ≤ pc ∧ pc ≤ s.to)
def outL (L : List Span) (pc : Int) (part : Span) : Option Span := L.reverse.find? (outQ pc part)
def wAt (w : List Int) (pc : Nat) : Int := insI (w.getD pc default)
def edge (bt : Int → Int → Int) (v : Int) (at_ : List Way) (o : Way) (to : Int) : Way := ⟨bestI bt o.thr (moreI v (at_.getD to.toNat default).thr), bestI bt o.fin (moreI v (at_.getD to.toNat default).fin)⟩
def nodeW (bt : Int → Int → Int) (p : List Instr) (w : List Int) (at_ : List Way) (pc : Nat) : Way :=
  if (p.getD pc default).op = 21 then ⟨-1, wAt w pc⟩ else if (p.getD pc default).op = 16 then ⟨wAt w pc, -1⟩ else (nextL p pc).foldl (edge bt (wAt w pc) at_) ⟨-1, -1⟩
def rndW (bt : Int → Int → Int) (one on : Way) (turns : Int) : Way :=
  ⟨moreI (oftI (turns + 1) one.thr) on.thr, bestI bt (bestI bt one.fin (moreI (oftI turns one.thr) one.fin)) (moreI (oftI (turns + 1) one.thr) on.fin)⟩
def valW (bt : Int → Int → Int) (p : List Instr) (w : List Int) (L : List Span) (rec : Span → Way) (part : Span) (at_ : List Way) (pc : Nat) : Way :=
  match outL L pc part with
  | none => nodeW bt p w at_ pc
  | some s => if s.frm = pc then rndW bt (rec s) (at_.getD (s.to + 1).toNat default) (p.getD s.to.toNat default).c else ⟨-1, -1⟩
def atTo (bt : Int → Int → Int) (p : List Instr) (w : List Int) (L : List Span) (rec : Span → Way) (part : Span) : Nat → List Way
  | 0 => List.replicate (p.length + 1) ⟨-1, -1⟩
  | k + 1 => (atTo bt p w L rec part k).set (part.to - k).toNat (valW bt p w L rec part (atTo bt p w L rec part k) (part.to - k).toNat)
def sizeS (part : Span) : Nat := (part.to + 1 - part.frm).toNat
def partW (bt : Int → Int → Int) (p : List Instr) (w : List Int) (L : List Span) : Nat → Span → Way
  | 0, _ => ⟨-1, -1⟩
  | f + 1, part => (atTo bt p w L (partW bt p w L f) part (sizeS part)).getD part.frm.toNat default
/-- From ahead. -/
structure FW where
  at_ : List Int
  thr : Int
  fin : Int
def innL (l : List Span) (part : Span) : List Span := l.filter (inQ part)
def lstS (l : List Span) (pc : Int) : Span := l.foldl (fun o s => if s.frm = pc then s else o) ⟨-1, 0⟩
def push (sum : Int) (at_ : List Int) (to : Int) : List Int := at_.set to.toNat (max (at_.getD to.toNat default) sum)
def fLoop (x : FW) (pc : Nat) (one : Way) (t : Nat) (c : Int) : FW :=
  if 0 ≤ one.thr then
    { at_ := x.at_.set t (max (x.at_.getD t default) (moreI (x.at_.getD pc default) (mulI (c + 1) one.thr))), thr := x.thr,
      fin := max (max x.fin (moreI (moreI (x.at_.getD pc default) (mulI c one.thr)) one.fin)) (moreI (x.at_.getD pc default) one.fin) }
  else { x with fin := max x.fin (moreI (x.at_.getD pc default) one.fin) }
def fNode (x : FW) (p : List Instr) (w : List Int) (pc : Nat) : FW :=
  if (p.getD pc default).op = 21 then { x with fin := max x.fin (moreI (x.at_.getD pc default) (wAt w pc)) }
  else if (p.getD pc default).op = 16 then { x with thr := moreI (x.at_.getD pc default) (wAt w pc) }
  else { x with at_ := (nextL p pc).foldl (push (moreI (x.at_.getD pc default) (wAt w pc))) x.at_ }
def fStep (rec : List Span → Span → Way) (p : List Instr) (w : List Int) (l : List Span) (part : Span) (x : FW) (pc : Nat) : FW :=
  if x.at_.getD pc default < 0 then x else
  if 0 ≤ (lstS (innL l part) pc).frm then fLoop x pc (rec (innL l (lstS (innL l part) pc)) (lstS (innL l part) pc)) ((lstS (innL l part) pc).to + 1).toNat (p.getD (lstS (innL l part) pc).to.toNat default).c
  else fNode x p w pc
def fTo (rec : List Span → Span → Way) (p : List Instr) (w : List Int) (l : List Span) (part : Span) : Nat → FW
  | 0 => ⟨(List.replicate (p.length + 1) (-1)).set part.frm.toNat 0, -1, -1⟩
  | k + 1 => fStep rec p w l part (fTo rec p w l part k) (part.frm + k).toNat
def partR (p : List Instr) (w : List Int) : Nat → List Span → Span → Way
  | 0, _, _ => ⟨-1, -1⟩
  | f + 1, l, part => ⟨(fTo (partR p w f) p w l part (sizeS part)).thr, (fTo (partR p w f) p w l part (sizeS part)).fin⟩

/-! The numbers' laws. -/
def okI (a : Int) : Prop := -1 ≤ a ∧ a ≤ 1099511627776
def okW (x : Way) : Prop := okI x.thr ∧ okI x.fin
theorem more_neg {a b : Int} (h : a < 0 ∨ b < 0) : moreI a b = -1 := by rw [moreI, if_pos h]
theorem more_pos {a b : Int} (ha : 0 ≤ a) (hb : 0 ≤ b) : moreI a b = addI a b := by rw [moreI, if_neg (by omega)]
theorem wAt_ok (w : List Int) (pc : Nat) : 0 ≤ wAt w pc ∧ wAt w pc ≤ 1099511627776 := insB _
theorem atTo_len (bt : Int → Int → Int) (p : List Instr) (w : List Int) (L : List Span) (rec : Span → Way) (part : Span) : ∀ k, (atTo bt p w L rec part k).length = p.length + 1
  | 0 => by simp [atTo]
  | k + 1 => by rw [atTo, List.length_set]; exact atTo_len bt p w L rec part k
theorem getD_setG {α : Type} {l : List α} {k j : Nat} {v d : α} : (l.set k v).getD j d = if k = j ∧ k < l.length then v else l.getD j d := by
  simp only [List.getD_eq_getElem?_getD, List.getElem?_set]
  by_cases h : k = j
  · subst h
    by_cases h2 : k < l.length
    · simp [h2]
    · simp [h2]
  · simp [h]
theorem getD_rep {α : Type} {n j : Nat} {v d : α} : (List.replicate n v).getD j d = if j < n then v else d := by
  rw [List.getD_eq_getElem?_getD, List.getElem?_replicate]; split <;> rfl
/-! Loops. -/
section
variable {p : List Instr}
/-- A loop's place among all. -/
theorem loop_at {s : Span} (h : s ∈ loopsL p) : ∃ k, k < (loopsL p).length ∧ (loopsL p).getD k default = s := getD_of h
theorem loop_sound (hf : FineP p) (hn : ∀ i, 0 ≤ (p.getD i default).n) {s : Span} (h : s ∈ loopsL p) : 0 ≤ s.frm ∧ s.frm < s.to ∧ s.to + 1 < p.length ∧ (p.getD s.to.toNat default).op = 16 ∧ (p.getD s.to.toNat default).n = s.frm := by
  obtain ⟨i, hi, h1, h2, h3⟩ := loops_mem h
  have h4 := leads_to hf hn hi (by omega) (by omega)
  have h5 := inner_lt hf hi (by omega)
  have h6 := hn i
  rw [h3]
  simp only [Int.toNat_natCast]
  exact ⟨by omega, by omega, by omega, h1, h2.symm⟩
/-- Loops that end at the same place are one. -/
theorem loop_same {s s' : Span} (h : s ∈ loopsL p) (h' : s' ∈ loopsL p) (he : s.to = s'.to) : s = s' := by
  obtain ⟨i, hi, h1, h2, h3⟩ := loops_mem h
  obtain ⟨j, hj, g1, g2, g3⟩ := loops_mem h'
  obtain rfl : i = j := by omega
  exact Span.ext_ ⟨by rw [h2, g2], he⟩
/-- Of two loops that end in order the first one lies within the other one, or ahead of it. -/
theorem loop_nest (hf : FineP p) {s s' : Span} (h : s ∈ loopsL p) (h' : s' ∈ loopsL p) (hlt : s.to < s'.to) : s'.frm ≤ s.frm ∨ s.to < s'.frm := by
  obtain ⟨j, hj, rfl⟩ := loop_at h
  obtain ⟨k, hk, rfl⟩ := loop_at h'
  have hjk : j < k := by
    rcases Nat.lt_trichotomy j k with q | q | q
    · exact q
    · subst q; omega
    · have := loops_lt q hj; omega
  have := no_over hf hjk hk
  omega
theorem edge_loop (hf : FineP p) (hn : ∀ i, 0 ≤ (p.getD i default).n) {i j : Nat} (hi : i < p.length) (hm : mayB p i j = true) {s : Span} (h : s ∈ loopsL p) :
    ((s.frm ≤ j ∧ j ≤ s.to) → ¬ (s.frm ≤ i ∧ i ≤ s.to) → (j : Int) = s.frm) ∧ ((s.frm ≤ i ∧ i ≤ s.to) → ¬ (s.frm ≤ j ∧ j ≤ s.to) → (i : Int) = s.to) := by
  obtain ⟨k, hk, rfl⟩ := loop_at h
  have h1 := ends_loop hf hn hi hm hk
  rw [hasB, hasB, decide_eq_true_eq, decide_eq_true_eq, decide_eq_false_iff_not, decide_eq_false_iff_not] at h1
  exact h1
/-- What a part is: a loop, or the whole. -/
def isPart (p : List Instr) (part : Span) : Prop := part ∈ loopsL p ∨ part = ⟨0, (p.length : Int) - 1⟩
theorem part_sound (hf : FineP p) (hn : ∀ i, 0 ≤ (p.getD i default).n) {part : Span} (h : isPart p part) : 0 ≤ part.frm ∧ part.frm ≤ part.to ∧ part.to < p.length := by
  have hpos := hf.pos
  rcases h with h | rfl
  · have := loop_sound hf hn h; omega
  · simp only; omega
/-- A loop within a part ends ahead of the part's end. -/
theorem in_part (hf : FineP p) (hn : ∀ i, 0 ≤ (p.getD i default).n) {part s : Span} (h : isPart p part) (hs : s ∈ loopsL p) (hq : inQ part s = true) : part.frm ≤ s.frm ∧ s.to < part.to := by
  rw [inQ, decide_eq_true_eq] at hq
  have h2 := loop_sound hf hn hs
  refine ⟨hq.2.1, ?_⟩
  rcases Int.lt_or_eq_of_le hq.2.2 with h3 | h3
  · exact h3
  · rcases h with h | rfl
    · exact absurd (loop_same hs h h3) hq.1
    · simp only at h3; omega
theorem outQ_iff {pc : Int} {part s : Span} : outQ pc part s = true ↔ inQ part s = true ∧ s.frm ≤ pc ∧ pc ≤ s.to := by
  rw [outQ, inQ, decide_eq_true_eq, decide_eq_true_eq]
  constructor
  · rintro ⟨a, b, c, d, e⟩; exact ⟨⟨a, b, c⟩, d, e⟩
  · rintro ⟨⟨a, b, c⟩, d, e⟩; exact ⟨a, b, c, d, e⟩
theorem outL_none {pc : Int} {part : Span} : outL (loopsL p) pc part = none ↔ ∀ s ∈ loopsL p, inQ part s = true → ¬ (s.frm ≤ pc ∧ pc ≤ s.to) := by
  rw [outL, List.find?_eq_none]
  constructor
  · intro h s hs hq hc
    exact h s (List.mem_reverse.2 hs) (outQ_iff.2 ⟨hq, hc⟩)
  · intro h s hs hq
    obtain ⟨a, b⟩ := outQ_iff.1 hq
    exact h s (List.mem_reverse.1 hs) a b
/-- What is found from behind ends last. -/
theorem find_last : ∀ (l : List Span), l.Pairwise (fun a b => b.to < a.to) → ∀ (q : Span → Bool) (s : Span), l.find? q = some s ↔ s ∈ l ∧ q s = true ∧ ∀ x ∈ l, q x = true → x.to ≤ s.to
  | [], _, q, s => by simp
  | a :: l, h, q, s => by
    rw [List.pairwise_cons] at h
    rw [List.find?_cons]
    by_cases hq : q a = true
    · rw [hq]
      simp only [Option.some.injEq]
      constructor
      · rintro rfl
        refine ⟨List.mem_cons_self, hq, fun x hx _ => ?_⟩
        rcases List.mem_cons.1 hx with rfl | hx
        · exact Int.le_refl _
        · exact Int.le_of_lt (h.1 x hx)
      · rintro ⟨h1, h2, h3⟩
        rcases List.mem_cons.1 h1 with rfl | h1
        · rfl
        · have := h.1 s h1
          have := h3 a List.mem_cons_self hq
          omega
    · rw [Bool.not_eq_true] at hq
      rw [hq]
      simp only
      rw [find_last l h.2 q s]
      constructor
      · rintro ⟨h1, h2, h3⟩
        refine ⟨List.mem_cons_of_mem _ h1, h2, fun x hx hqx => ?_⟩
        rcases List.mem_cons.1 hx with rfl | hx
        · rw [hq] at hqx; cases hqx
        · exact h3 x hx hqx
      · rintro ⟨h1, h2, h3⟩
        rcases List.mem_cons.1 h1 with rfl | h1
        · rw [hq] at h2; cases h2
        · exact ⟨h1, h2, fun x hx => h3 x (List.mem_cons_of_mem _ hx)⟩
theorem rev_inc : (loopsL p).reverse.Pairwise (fun a b => b.to < a.to) := by
  rw [List.pairwise_reverse]; exact loops_inc
theorem outL_some {pc : Int} {part s : Span} : outL (loopsL p) pc part = some s ↔ s ∈ loopsL p ∧ (inQ part s = true ∧ s.frm ≤ pc ∧ pc ≤ s.to) ∧ ∀ x ∈ loopsL p, inQ part x = true → x.frm ≤ pc → pc ≤ x.to → x.to ≤ s.to := by
  rw [outL, find_last _ rev_inc, List.mem_reverse, outQ_iff]
  constructor
  · rintro ⟨h1, h2, h3⟩
    exact ⟨h1, h2, fun x hx hq a b => h3 x (List.mem_reverse.2 hx) (outQ_iff.2 ⟨hq, a, b⟩)⟩
  · rintro ⟨h1, h2, h3⟩
    exact ⟨h1, h2, fun x hx hq => by obtain ⟨a, b, c⟩ := outQ_iff.1 hq; exact h3 x (List.mem_reverse.1 hx) a b c⟩
end
/-! What is reckoned from behind. -/
section
variable {p : List Instr}
theorem next_up (hf : FineP p) (hn : ∀ i, 0 ≤ (p.getD i default).n) {i : Nat} (hi : i < p.length) (h : (p.getD i default).op ≠ 16) {x : Int} (hx : x ∈ nextL p i) : ∃ j : Nat, x = j ∧ i < j ∧ j < p.length ∧ mayB p i j = true := by
  obtain ⟨j, h1, h2, h3⟩ := (next_iff hf hn hi).1 hx
  have h4 := ends_ne hf hn hi h3
  refine ⟨j, h1, ?_, h2, h3⟩
  rcases Nat.lt_trichotomy i j with q | q | q
  · exact q
  · exact absurd q.symm h4.1
  · exact absurd (h4.2 q) h
theorem edge_congr {bt : Int → Int → Int} {v : Int} {a b : List Way} : ∀ (l : List Int) (o : Way), (∀ x ∈ l, a.getD x.toNat default = b.getD x.toNat default) → l.foldl (edge bt v a) o = l.foldl (edge bt v b) o
  | [], o, h => rfl
  | t :: l, o, h => by
    rw [List.foldl_cons, List.foldl_cons, edge, edge, h t List.mem_cons_self]
    exact edge_congr l _ fun x hx => h x (List.mem_cons_of_mem _ hx)
theorem valW_congr {bt : Int → Int → Int} {w : List Int} {rec : Span → Way} {part : Span} (hf : FineP p) (hn : ∀ i, 0 ≤ (p.getD i default).n) {a b : List Way} {pc : Nat} (hpc : pc < p.length) (h : ∀ q : Nat, pc < q → a.getD q default = b.getD q default) :
    valW bt p w (loopsL p) rec part a pc = valW bt p w (loopsL p) rec part b pc := by
  unfold valW
  cases ho : outL (loopsL p) pc part with
  | none =>
    simp only
    unfold nodeW
    split
    · rfl
    · split
      · rfl
      · rename_i h16
        exact edge_congr _ _ fun x hx => by
          obtain ⟨j, rfl, h1, _, _⟩ := next_up hf hn hpc h16 hx
          exact h _ (by simpa using h1)
  | some s =>
    simp only
    split
    · obtain ⟨h1, ⟨_, _, h2⟩, _⟩ := outL_some.1 ho
      have := loop_sound hf hn h1
      rw [h _ (by omega)]
    · rfl
section
variable {bt : Int → Int → Int} {w : List Int} {rec : Span → Way} {part : Span}
theorem atTo_keep (h0 : 0 ≤ part.frm) {k : Nat} {q : Nat} (hq : part.to - k < q) : ∀ (m : Nat), k ≤ m → (m : Int) ≤ part.to + 1 → (atTo bt p w (loopsL p) rec part m).getD q default = (atTo bt p w (loopsL p) rec part k).getD q default
  | 0, h, _ => by rw [show k = 0 by omega]
  | m + 1, h, hm => by
    rcases Nat.lt_or_ge m k with h1 | h1
    · rw [show k = m + 1 by omega]
    · rw [atTo, getD_setG, if_neg (by omega)]
      exact atTo_keep h0 hq m h1 (by omega)
theorem back_eq (hf : FineP p) (hn : ∀ i, 0 ≤ (p.getD i default).n) (hp : isPart p part) {pc : Nat} (h1 : part.frm ≤ pc) (h2 : (pc : Int) ≤ part.to) :
    (atTo bt p w (loopsL p) rec part (sizeS part)).getD pc default = valW bt p w (loopsL p) rec part (atTo bt p w (loopsL p) rec part (sizeS part)) pc := by
  have hs := part_sound hf hn hp
  obtain ⟨j, hj⟩ : ∃ j : Nat, (j : Int) = part.to - pc := ⟨(part.to - pc).toNat, by omega⟩
  have e : (part.to - j).toNat = pc := by omega
  have hsz : (sizeS part : Int) = part.to + 1 - part.frm := by unfold sizeS; omega
  rw [atTo_keep (k := j + 1) hs.1 (by omega) (sizeS part) (by omega) (by omega), atTo, e, getD_setG, if_pos ⟨rfl, by rw [atTo_len]; omega⟩]
  refine valW_congr hf hn (by omega) fun q hq => ?_
  rw [atTo_keep (k := j) hs.1 (by omega) (sizeS part) (by omega) (by omega)]
end
/-! What is reckoned from ahead. -/
def UQ (N : Nat) (o : Int) (at_ : List Int) (h : Nat → Int) (pc : Nat) (y : Int) : Prop := o ≤ y ∧ ∀ q, pc ≤ q → q ≤ N → moreI (at_.getD q default) (h q) ≤ y
section
variable {N : Nat} {o : Int} {at_ : List Int} {h : Nat → Int} {pc : Nat} {y : Int}
end
/-- A place that lies in a loop, but is not its first one. -/
def deep (p : List Instr) (part : Span) (q : Nat) : Prop := ∃ s, outL (loopsL p) q part = some s ∧ s.frm ≠ q
structure FInv (p : List Instr) (part : Span) (g : Nat → Way) (pc : Nat) (x : FW) : Prop where
  len : x.at_.length = p.length + 1
  z : ∀ q : Nat, pc ≤ q → deep p part q → x.at_.getD q default = -1
  t0 : (pc : Int) ≤ part.to → x.thr = -1
  ge : -1 ≤ x.thr ∧ -1 ≤ x.fin
  ft : ∀ y, -1 ≤ y → (UQ p.length x.thr x.at_ (fun q => (g q).thr) pc y ↔ (g part.frm.toNat).thr ≤ y)
  ff : ∀ y, -1 ≤ y → (UQ p.length x.fin x.at_ (fun q => (g q).fin) pc y ↔ (g part.frm.toNat).fin ≤ y)
end
end Go.Proofs.Ytffciebjpiljgaa
namespace Go.Proofs.Ytffciebjpiljgaa
set_option linter.unusedSimpArgs false
set_option linter.unusedVariables false
set_option maxRecDepth 100000
set_option linter.unusedSimpArgs false
set_option linter.unusedVariables false
set_option maxRecDepth 100000
open Go.RowKit
def eWay (x : Way) : List AV := [.int .i64 x.thr, .int .i64 x.fin]
def mA (p : List Instr) (w : List Int) (L : List Span) (fc : FuncId) : List AV := [.lst 5 (p.map eInstr), .lst 1 (w.map eI), .lst 2 (L.map eSpan), .fn (.func fc) [] []]
theorem addI_0 (a : Int) : addI a 0 = insI a := by have := insB a; unfold addI insI at *; omega
theorem both_fn (a b : Int) : Fn Try.prog 129 [.int .i64 a, .int .i64 b] (.int .i64 (moreI a b)) := by
  by_cases h : a < 0 ∨ b < 0
  · rw [moreI, if_pos h]
    refine fnb Try.func129 (entered_of (by kernel_rfl)) rfl rfl rfl ?_
    repeat' (first | (show W _ _ _ _ _ _; first | apply kA | refine kB rfl ?_ | refine kC rfl rfl ?_ | refine kD rfl rfl ?_ | apply kE | apply kF | apply kG | apply kH | refine kI (by kernel_rfl) (by kernel_rfl) ?_) | (show O _ _ _ _ _ _ _; first | (show O _ _ _ _ (⟨_, .store _ _ _, _, _, _, _⟩ :: _) _ _; refine kJ rfl rfl rfl rfl rfl rfl rfl rfl rfl rfl rfl ?_) | apply kK) | apply kL | ((first | apply kM | apply kN); (iterate 3 (· exact rfl)); (· first | exact ya)) | refine kO rfl rfl rfl rfl rfl ?_ | refine kP rfl rfl rfl ?_ | ((first | refine kQ rfl rfl ?_ ?_ | refine kR rfl rfl rfl rfl rfl ?_ ?_ | refine kS rfl rfl rfl ?_ ?_) <;> intro hc <;> (try simp only [KL, cond_true, cond_false, beq_iff_eq, bne_iff_ne, ne_eq, reduceCtorEq] at hc) <;> (try (have hT : True := hc; clear hT hc)) <;> (try (exfalso; omega))) | apply kT | apply kU | apply kV | apply kW | refine kX rfl ?_ | apply kY | apply kZ)
    all_goals first | (exfalso; omega) | exact retq rfl rfl
  · rw [moreI, if_neg h]
    refine fnb Try.func129 (entered_of (by kernel_rfl)) rfl rfl rfl ?_
    repeat' (first | (show W _ _ _ _ _ _; first | apply kA | refine kB rfl ?_ | refine kC rfl rfl ?_ | refine kD rfl rfl ?_ | apply kE | apply kF | apply kG | apply kH | refine kI (by kernel_rfl) (by kernel_rfl) ?_) | (show O _ _ _ _ _ _ _; first | (show O _ _ _ _ (⟨_, .store _ _ _, _, _, _, _⟩ :: _) _ _; refine kJ rfl rfl rfl rfl rfl rfl rfl rfl rfl rfl rfl ?_) | apply kK) | apply kL | ((first | apply kM | apply kN); (iterate 3 (· exact rfl)); (· first | (show Y _ ⟨_, .call ⟨.value _, _, _⟩, _, _, _, _⟩ _ _ _; first | exact q_c (kAdd_fn _ _) rfl) | exact ya)) | refine kO rfl rfl rfl rfl rfl ?_ | refine kP rfl rfl rfl ?_ | ((first | refine kQ rfl rfl ?_ ?_ | refine kR rfl rfl rfl rfl rfl ?_ ?_ | refine kS rfl rfl rfl ?_ ?_) <;> intro hc <;> (try simp only [KL, cond_true, cond_false, beq_iff_eq, bne_iff_ne, ne_eq, reduceCtorEq] at hc) <;> (try (have hT : True := hc; clear hT hc)) <;> (try (exfalso; omega))) | apply kT | apply kU | apply kV | apply kW | refine kX rfl ?_ | apply kY | apply kZ)
    all_goals first | (exfalso; omega) | exact retq rfl rfl
theorem often_fn (n x : Int) : Fn Try.prog 130 [.int .i64 n, .int .i64 x] (.int .i64 (oftI n x)) := by
  by_cases h : x < 0
  · rw [oftI, if_pos h]
    refine fnb Try.func130 (entered_of (by kernel_rfl)) rfl rfl rfl ?_
    repeat' (first | (show W _ _ _ _ _ _; first | apply kA | refine kB rfl ?_ | refine kC rfl rfl ?_ | refine kD rfl rfl ?_ | apply kE | apply kF | apply kG | apply kH | refine kI (by kernel_rfl) (by kernel_rfl) ?_) | (show O _ _ _ _ _ _ _; first | (show O _ _ _ _ (⟨_, .store _ _ _, _, _, _, _⟩ :: _) _ _; refine kJ rfl rfl rfl rfl rfl rfl rfl rfl rfl rfl rfl ?_) | apply kK) | apply kL | ((first | apply kM | apply kN); (iterate 3 (· exact rfl)); (· first | exact ya)) | refine kO rfl rfl rfl rfl rfl ?_ | refine kP rfl rfl rfl ?_ | ((first | refine kQ rfl rfl ?_ ?_ | refine kR rfl rfl rfl rfl rfl ?_ ?_ | refine kS rfl rfl rfl ?_ ?_) <;> intro hc <;> (try simp only [KL, cond_true, cond_false, beq_iff_eq, bne_iff_ne, ne_eq, reduceCtorEq] at hc) <;> (try (have hT : True := hc; clear hT hc)) <;> (try (exfalso; omega))) | apply kT | apply kU | apply kV | apply kW | refine kX rfl ?_ | apply kY | apply kZ)
    all_goals first | (exfalso; omega) | exact retq rfl rfl
  · rw [oftI, if_neg h]
    refine fnb Try.func130 (entered_of (by kernel_rfl)) rfl rfl rfl ?_
    repeat' (first | (show W _ _ _ _ _ _; first | apply kA | refine kB rfl ?_ | refine kC rfl rfl ?_ | refine kD rfl rfl ?_ | apply kE | apply kF | apply kG | apply kH | refine kI (by kernel_rfl) (by kernel_rfl) ?_) | (show O _ _ _ _ _ _ _; first | (show O _ _ _ _ (⟨_, .store _ _ _, _, _, _, _⟩ :: _) _ _; refine kJ rfl rfl rfl rfl rfl rfl rfl rfl rfl rfl rfl ?_) | apply kK) | apply kL | ((first | apply kM | apply kN); (iterate 3 (· exact rfl)); (· first | (show Y _ ⟨_, .call ⟨.value _, _, _⟩, _, _, _, _⟩ _ _ _; first | exact q_c (kMul_fn _ _) rfl) | exact ya)) | refine kO rfl rfl rfl rfl rfl ?_ | refine kP rfl rfl rfl ?_ | ((first | refine kQ rfl rfl ?_ ?_ | refine kR rfl rfl rfl rfl rfl ?_ ?_ | refine kS rfl rfl rfl ?_ ?_) <;> intro hc <;> (try simp only [KL, cond_true, cond_false, beq_iff_eq, bne_iff_ne, ne_eq, reduceCtorEq] at hc) <;> (try (have hT : True := hc; clear hT hc)) <;> (try (exfalso; omega))) | apply kT | apply kU | apply kV | apply kW | refine kX rfl ?_ | apply kY | apply kZ)
    all_goals first | (exfalso; omega) | exact retq rfl rfl
section
variable {p : List Instr} {w : List Int} {L : List Span} {fc : FuncId} {bt : Int → Int → Int}
theorem best_fn (hF : ∀ a b, Fn Try.prog fc [.int .i64 a, .int .i64 b] (.int .i64 (bt a b))) (a b : Int) : Fn Try.prog 128 [.ref (mA p w L fc), .int .i64 a, .int .i64 b] (.int .i64 (bestI bt a b)) := by
  by_cases h : a < 0
  · rw [bestI, if_pos h]
    refine fnb Try.func128 (entered_of (by kernel_rfl)) rfl rfl rfl ?_
    repeat' (first | (show W _ _ _ _ _ _; first | apply kA | refine kB rfl ?_ | refine kC rfl rfl ?_ | refine kD rfl rfl ?_ | apply kE | apply kF | apply kG | apply kH | refine kI (by kernel_rfl) (by kernel_rfl) ?_) | (show O _ _ _ _ _ _ _; first | (show O _ _ _ _ (⟨_, .store _ _ _, _, _, _, _⟩ :: _) _ _; refine kJ rfl rfl rfl rfl rfl rfl rfl rfl rfl rfl rfl ?_) | apply kK) | apply kL | ((first | apply kM | apply kN); (iterate 3 (· exact rfl)); (· first | exact ya)) | refine kO rfl rfl rfl rfl rfl ?_ | refine kP rfl rfl rfl ?_ | ((first | refine kQ rfl rfl ?_ ?_ | refine kR rfl rfl rfl rfl rfl ?_ ?_ | refine kS rfl rfl rfl ?_ ?_) <;> intro hc <;> (try simp only [KL, cond_true, cond_false, beq_iff_eq, bne_iff_ne, ne_eq, reduceCtorEq] at hc) <;> (try (have hT : True := hc; clear hT hc)) <;> (try (exfalso; omega))) | apply kT | apply kU | apply kV | apply kW | refine kX rfl ?_ | apply kY | apply kZ)
    all_goals first | (exfalso; omega) | exact retq rfl rfl
  by_cases h2 : b < 0
  · rw [bestI, if_neg h, if_pos h2]
    refine fnb Try.func128 (entered_of (by kernel_rfl)) rfl rfl rfl ?_
    repeat' (first | (show W _ _ _ _ _ _; first | apply kA | refine kB rfl ?_ | refine kC rfl rfl ?_ | refine kD rfl rfl ?_ | apply kE | apply kF | apply kG | apply kH | refine kI (by kernel_rfl) (by kernel_rfl) ?_) | (show O _ _ _ _ _ _ _; first | (show O _ _ _ _ (⟨_, .store _ _ _, _, _, _, _⟩ :: _) _ _; refine kJ rfl rfl rfl rfl rfl rfl rfl rfl rfl rfl rfl ?_) | apply kK) | apply kL | ((first | apply kM | apply kN); (iterate 3 (· exact rfl)); (· first | exact ya)) | refine kO rfl rfl rfl rfl rfl ?_ | refine kP rfl rfl rfl ?_ | ((first | refine kQ rfl rfl ?_ ?_ | refine kR rfl rfl rfl rfl rfl ?_ ?_ | refine kS rfl rfl rfl ?_ ?_) <;> intro hc <;> (try simp only [KL, cond_true, cond_false, beq_iff_eq, bne_iff_ne, ne_eq, reduceCtorEq] at hc) <;> (try (have hT : True := hc; clear hT hc)) <;> (try (exfalso; omega))) | apply kT | apply kU | apply kV | apply kW | refine kX rfl ?_ | apply kY | apply kZ)
    all_goals first | (exfalso; omega) | exact retq rfl rfl
  · rw [bestI, if_neg h, if_neg h2]
    refine fnb Try.func128 (entered_of (by kernel_rfl)) rfl rfl rfl ?_
    repeat' (first | (show W _ _ _ _ _ _; first | apply kA | refine kB rfl ?_ | refine kC rfl rfl ?_ | refine kD rfl rfl ?_ | apply kE | apply kF | apply kG | apply kH | refine kI (by kernel_rfl) (by kernel_rfl) ?_) | (show O _ _ _ _ _ _ _; first | (show O _ _ _ _ (⟨_, .store _ _ _, _, _, _, _⟩ :: _) _ _; refine kJ rfl rfl rfl rfl rfl rfl rfl rfl rfl rfl rfl ?_) | apply kK) | apply kL | ((first | apply kM | apply kN); (iterate 3 (· exact rfl)); (· first | (show Y _ ⟨_, .call ⟨.value _, _, _⟩, _, _, _, _⟩ _ _ _; first | exact q_c (hF _ _) rfl) | exact ya)) | refine kO rfl rfl rfl rfl rfl ?_ | refine kP rfl rfl rfl ?_ | ((first | refine kQ rfl rfl ?_ ?_ | refine kR rfl rfl rfl rfl rfl ?_ ?_ | refine kS rfl rfl rfl ?_ ?_) <;> intro hc <;> (try simp only [KL, cond_true, cond_false, beq_iff_eq, bne_iff_ne, ne_eq, reduceCtorEq] at hc) <;> (try (have hT : True := hc; clear hT hc)) <;> (try (exfalso; omega))) | apply kT | apply kU | apply kV | apply kW | refine kX rfl ?_ | apply kY | apply kZ)
    all_goals first | (exfalso; omega) | exact retq rfl rfl
theorem rounds_fn (hF : ∀ a b, Fn Try.prog fc [.int .i64 a, .int .i64 b] (.int .i64 (bt a b))) (one on : Way) (t : Int) (ht : 0 ≤ t ∧ t ≤ 1000000) : Fn Try.prog 114 [.ref (mA p w L fc), .agg (eWay one), .agg (eWay on), .int .i64 t] (.agg (eWay (rndW bt one on t))) := by
  refine fnb Try.func114 (entered_of (by kernel_rfl)) rfl rfl rfl ?_
  repeat' (first | (show W _ _ _ _ _ _; first | apply kA | refine kB rfl ?_ | refine kC rfl rfl ?_ | refine kD rfl rfl ?_ | apply kE | apply kF | apply kG | apply kH) | (show O _ _ _ _ _ _ _; first | (show O _ _ _ _ (⟨_, .alloc _, _, _, _, _⟩ :: _) _ _; first | refine ao_alloc (id := 20) rfl rfl rfl rfl rfl rfl rfl ?_) | (show O _ _ _ _ (⟨_, .store _ _ _, _, _, _, _⟩ :: _) _ _; refine kJ rfl rfl rfl rfl rfl rfl rfl rfl rfl rfl rfl ?_) | apply kK) | apply kL | ((first | apply kM | apply kN); (iterate 3 (· exact rfl)); (· first | (show Y _ ⟨_, .call ⟨.value _, _, _⟩, _, _, _, _⟩ _ _ _; first | exact q_c (often_fn _ _) rfl | exact q_c (both_fn _ _) rfl | exact q_c (best_fn hF _ _) rfl) | exact ya)) | refine kO rfl rfl rfl rfl rfl ?_ | refine kP rfl rfl rfl ?_ | ((first | refine kQ rfl rfl ?_ ?_ | refine kR rfl rfl rfl rfl rfl ?_ ?_ | refine kS rfl rfl rfl ?_ ?_) <;> intro hc <;> (try simp only [KL, cond_true, cond_false, beq_iff_eq, bne_iff_ne, ne_eq, reduceCtorEq] at hc) <;> (try (have hT : True := hc; clear hT hc)) <;> (try (exfalso; omega))) | apply kT | apply kU | apply kV | apply kW | refine kX rfl ?_ | apply kY | apply kZ)
  refine wdraw (by kernel_rfl) (by kernel_rfl) ?_
  repeat' (first | (show W _ _ _ _ _ _; first | apply kA | refine kB rfl ?_ | refine kC rfl rfl ?_ | refine kD rfl rfl ?_ | apply kE | apply kF | apply kG | apply kH) | (show O _ _ _ _ _ _ _; first | (show O _ _ _ _ (⟨_, .store _ _ _, _, _, _, _⟩ :: _) _ _; refine kJ rfl rfl rfl rfl rfl rfl rfl rfl rfl rfl rfl ?_) | apply kK) | apply kL | ((first | apply kM | apply kN); (iterate 3 (· exact rfl)); (· first | (show Y _ ⟨_, .call ⟨.value _, _, _⟩, _, _, _, _⟩ _ _ _; first | exact q_c (often_fn _ _) rfl | exact q_c (both_fn _ _) rfl | exact q_c (best_fn hF _ _) rfl) | exact ya)) | refine kO rfl rfl rfl rfl rfl ?_ | refine kP rfl rfl rfl ?_ | ((first | refine kQ rfl rfl ?_ ?_ | refine kR rfl rfl rfl rfl rfl ?_ ?_ | refine kS rfl rfl rfl ?_ ?_) <;> intro hc <;> (try simp only [KL, cond_true, cond_false, beq_iff_eq, bne_iff_ne, ne_eq, reduceCtorEq] at hc) <;> (try (have hT : True := hc; clear hT hc)) <;> (try (exfalso; omega))) | apply kT | apply kU | apply kV | apply kW | refine kX rfl ?_ | apply kY | apply kZ)
  refine wdrawC (H := fun y : Way => [(20, .blk 129 (eWay y))]) (ok := fun _ => True) (tn := [12]) (ln := []) (⟨0, 0⟩ : Way) leh (by kernel_rfl) (by kernel_rfl) (by kernel_rfl) trivial ?_
  repeat' (first | (show W _ _ _ _ _ _; first | apply kA | refine kB rfl ?_ | refine kC rfl rfl ?_ | refine kD rfl rfl ?_ | apply kE | apply kF | apply kG | apply kH) | (show O _ _ _ _ _ _ _; first | (show O _ _ _ _ (⟨_, .store _ _ _, _, _, _, _⟩ :: _) _ _; refine kJ rfl rfl rfl rfl rfl rfl rfl rfl rfl rfl rfl ?_) | apply kK) | apply kL | ((first | apply kM | apply kN); (iterate 3 (· exact rfl)); (· first | (show Y _ ⟨_, .call ⟨.value _, _, _⟩, _, _, _, _⟩ _ _ _; first | exact q_c (both_fn _ _) rfl | exact q_c (best_fn hF _ _) rfl) | exact ya)) | (show C _ _ _ _ _ _ _ _ _ _ _; first | refine cnil ?_ | (apply c_any; (· exact rfl); (· exact rfl); (· intro y' hy'; first | (show Y _ ⟨_, .call ⟨.value _, _, _⟩, _, _, _, _⟩ _ _ _; first | exact q_c (both_fn _ _) rfl | exact q_c (best_fn hF _ _) rfl) | exact ya)) | (apply c_ld; (· exact rfl); (· exact rfl); (· exact rfl); (· first | (show Y _ ⟨_, .call ⟨.value _, _, _⟩, _, _, _, _⟩ _ _ _; first | exact q_c (both_fn _ _) rfl | exact q_c (best_fn hF _ _) rfl) | exact ya)) | refine c_grdN rfl rfl rfl ?_) | refine kO rfl rfl rfl rfl rfl ?_ | refine kP rfl rfl rfl ?_ | ((first | refine kQ rfl rfl ?_ ?_ | refine kR rfl rfl rfl rfl rfl ?_ ?_ | refine kS rfl rfl rfl ?_ ?_ | refine c_grd rfl rfl rfl ?_ ?_) <;> intro hc <;> (try simp only [KL, cond_true, cond_false, beq_iff_eq, bne_iff_ne, ne_eq, reduceCtorEq] at hc) <;> (try (have hT : True := hc; clear hT hc)) <;> (try (exfalso; omega))) | apply kT | apply kU | apply kV | apply kW | refine kX rfl ?_ | apply kY | apply kZ)
  refine c_tu (x' := rndW bt one on t) rfl rfl trivial (TuO.post (tu_st (sto_B rfl rfl rfl rfl rfl rfl (Nat.le_of_ble_eq_true rfl)) rfl) leh) ?_
  repeat' (first | (show W _ _ _ _ _ _; first | apply kA | refine kB rfl ?_ | refine kC rfl rfl ?_ | refine kD rfl rfl ?_ | apply kE | apply kF | apply kG | apply kH) | (show O _ _ _ _ _ _ _; first | (show O _ _ _ _ (⟨_, .store _ _ _, _, _, _, _⟩ :: _) _ _; refine kJ rfl rfl rfl rfl rfl rfl rfl rfl rfl rfl rfl ?_) | apply kK) | apply kL | ((first | apply kM | apply kN); (iterate 3 (· exact rfl)); (· first | exact ya)) | (show C _ _ _ _ _ _ _ _ _ _ _; first | refine cnil ?_ | (apply c_any; (· exact rfl); (· exact rfl); (· intro y' hy'; first | exact ya)) | (apply c_ld; (· exact rfl); (· exact rfl); (· exact rfl); (· first | exact ya)) | refine c_grdN rfl rfl rfl ?_) | refine kO rfl rfl rfl rfl rfl ?_ | refine kP rfl rfl rfl ?_ | ((first | refine kQ rfl rfl ?_ ?_ | refine kR rfl rfl rfl rfl rfl ?_ ?_ | refine kS rfl rfl rfl ?_ ?_ | refine c_grd rfl rfl rfl ?_ ?_) <;> intro hc <;> (try simp only [KL, cond_true, cond_false, beq_iff_eq, bne_iff_ne, ne_eq, reduceCtorEq] at hc) <;> (try (have hT : True := hc; clear hT hc)) <;> (try (exfalso; omega))) | apply kT | apply kU | apply kV | apply kW | refine kX rfl ?_ | apply kY | apply kZ)
  exact retq rfl rfl
end
theorem backw_fn (L : List Span) : Fn Try.prog 117 [.lst 2 (L.map eSpan)] (.fn (.func 132) [] [.ref [.lst 2 (L.map eSpan)]]) := by
  refine fnb Try.func117 (entered_of (by kernel_rfl)) rfl rfl rfl ?_
  repeat' (first | (show W _ _ _ _ _ _; first | apply kA | refine kB rfl ?_ | refine kC rfl rfl ?_ | refine kD rfl rfl ?_ | apply kE | apply kF | apply kG | apply kH | refine kI (by kernel_rfl) (by kernel_rfl) ?_) | (show O _ _ _ _ _ _ _; first | (show O _ _ _ _ (⟨_, .store _ _ _, _, _, _, _⟩ :: _) _ _; refine kJ rfl rfl rfl rfl rfl rfl rfl rfl rfl rfl rfl ?_) | apply kK) | apply kL | ((first | apply kM | apply kN); (iterate 3 (· exact rfl)); (· first | exact ya)) | refine kO rfl rfl rfl rfl rfl ?_ | refine kP rfl rfl rfl ?_ | ((first | refine kQ rfl rfl ?_ ?_ | refine kR rfl rfl rfl rfl rfl ?_ ?_ | refine kS rfl rfl rfl ?_ ?_) <;> intro hc <;> (try simp only [KL, cond_true, cond_false, beq_iff_eq, bne_iff_ne, ne_eq, reduceCtorEq] at hc) <;> (try (have hT : True := hc; clear hT hc)) <;> (try (exfalso; omega))) | apply kT | apply kU | apply kV | apply kW | refine kX rfl ?_ | apply kY | apply kZ)
  exact retq rfl rfl
abbrev outH (l : Nat) (r : Loop) (σ0 : Sig) (a : Span) (b : Bool) : Heap := (8, .sem (objC l (.loop r))) :: (9, .sem (knowC σ0)) :: [(0, .blk 84 (eSpan a)), (1, .blk 4 [.bool b])]
theorem outer_rd (l : Nat) (r : Loop) (σ0 : Sig) (pins : List (Nat × Value)) (pc : Int) (part s a : Span) (i : Int) (hr : r.state = .ready) (hpd : r.pending = none) (hab : rfOf Try.f112.body = some (r.params, r.assign, r.body)) (hk : r.tmps.size = Try.f112.ntmps)
    (hs : SlotsOk σ0 pins [(4, .ref [.int .i64 pc]), (5, .ref (eSpan part)), (6, .ptr 0 0), (7, .ptr 1 0)] r.tmps) :
    YF Try.prog l pins [.int .i64 i, .agg (eSpan s)] (outH l r σ0 a false) (fun b h' => (b = true ∧ outQ pc part s = false ∧ h' = outH l { r with state := .ready, pending := none } σ0 a false) ∨ (b = false ∧ outQ pc part s = true ∧ h' = outH l { r with state := .done, pending := some .ret } σ0 s true)) := by
  change Option.some (_, _, _) = some _ at hab
  injection hab with hab
  injection hab with h1 hab
  injection hab with h2 h3
  refine yf_le (yf_body2 (R := fun b h' => (b = true ∧ outQ pc part s = false ∧ LeH h' (outH l { r with state := .ready, pending := none } σ0 a false)) ∨ (b = false ∧ outQ pc part s = true ∧ LeH h' (outH l { r with state := .done, pending := some .ret } σ0 s true))) (idL := 8) (idK := 9) (σ0 := σ0) rfl rfl hr h1.symm hk (by decide) (by decide) (by decide) hs ?_) ?_
  · refine wcode h2 ?_
    repeat' (first | (show W _ _ _ _ _ _; first | apply kA | refine kB rfl ?_ | refine kC rfl rfl ?_ | refine kD rfl rfl ?_ | apply kE | apply kF | apply kG | apply kH | refine kI (by kernel_rfl) (by kernel_rfl) ?_) | (show O _ _ _ _ _ _ _; first | (show O _ _ _ _ (⟨_, .alloc _, _, _, _, _⟩ :: _) _ _; first | refine ao_alloc (id := 20) rfl rfl rfl rfl rfl rfl rfl ?_) | (show O _ _ _ _ (⟨_, .store _ _ _, _, _, _, _⟩ :: _) _ _; refine kJ rfl rfl rfl rfl rfl rfl rfl rfl rfl rfl rfl ?_) | apply kK) | apply kL | ((first | apply kM | apply kN); (iterate 3 (· exact rfl)); (· first | exact ya)) | refine kO rfl rfl rfl rfl rfl ?_ | refine kP rfl rfl rfl ?_ | ((first | refine kQ rfl rfl ?_ ?_ | refine kR rfl rfl rfl rfl rfl ?_ ?_ | refine kS rfl rfl rfl ?_ ?_) <;> intro hc <;> (try simp only [KL, cond_true, cond_false, beq_iff_eq, bne_iff_ne, ne_eq, reduceCtorEq] at hc) <;> (try (have hT : True := hc; clear hT hc)) <;> (try (exfalso; omega))) | apply kT | apply kU | apply kV | apply kW | refine kX rfl ?_ | apply kY | apply kZ)
    refine ⟨rfl, ?_⟩
    refine wcode h3 ?_
    repeat' (first | (show W _ _ _ _ _ _; first | apply kA | refine kB rfl ?_ | refine kC rfl rfl ?_ | refine kD rfl rfl ?_ | apply kE | apply kF | apply kG | apply kH | refine kI (by kernel_rfl) (by kernel_rfl) ?_) | (show O _ _ _ _ _ _ _; first | (show O _ _ _ _ (⟨_, .store _ _ _, _, _, _, _⟩ :: _) _ _; refine kJ rfl rfl rfl rfl rfl rfl rfl rfl rfl rfl rfl ?_) | apply kK) | apply kL | ((first | apply kM | apply kN); (iterate 3 (· exact rfl)); (· first | exact ya | exact Y.mk (neq_Span rfl rfl rfl))) | refine kO rfl rfl rfl rfl rfl ?_ | refine kP rfl rfl rfl ?_ | ((first | refine kQ rfl rfl ?_ ?_ | refine kR rfl rfl rfl rfl rfl ?_ ?_ | refine kS rfl rfl rfl ?_ ?_) <;> intro hc <;> (try simp only [KL, cond_true, cond_false, beq_iff_eq, bne_iff_ne, ne_eq, reduceCtorEq] at hc) <;> (try (have hT : True := hc; clear hT hc)) <;> (try (exfalso; omega))) | apply kT | apply kU | apply kV | apply kW | refine kX rfl ?_ | apply kY | apply kZ)
    all_goals first
      | exact ⟨rfl, .inr ⟨rfl, decide_eq_true ⟨by assumption, by omega, by omega, by omega, by omega⟩, leh⟩⟩
      | exact ⟨rfl, .inl ⟨rfl, decide_eq_false (fun e => by first | omega | exact e.1 (by assumption)), leh⟩⟩
      | trace_state
  · rintro b h' (⟨rfl, h4, h5⟩ | ⟨rfl, h4, h5⟩)
    · exact ⟨_, h5, .inl ⟨rfl, h4, rfl⟩⟩
    · exact ⟨_, h5, .inr ⟨rfl, h4, rfl⟩⟩
theorem outer_it (L : List Span) (pc : Int) (part a : Span) (hn : L.length ≤ 1000000) (l : Nat) (r : Loop) (σ0 : Sig) (pins : List (Nat × Value)) (hr : r.state = .ready) (hpd : r.pending = none) (hab : rfOf Try.f112.body = some (r.params, r.assign, r.body)) (hk : r.tmps.size = Try.f112.ntmps)
    (hs : SlotsOk σ0 pins [(4, .ref [.int .i64 pc]), (5, .ref (eSpan part)), (6, .ptr 0 0), (7, .ptr 1 0)] r.tmps) (hp5 : ∀ p ∈ pins, p.1 < 5) :
    FnHp Try.prog pins 132 (.fn (.yield l) [] [] :: [.ref [.lst 2 (L.map eSpan)]]) (outH l r σ0 a false) (fun v h' => v = .tup [] ∧ ((outL L pc part = none ∧ h' = outH l r σ0 a false) ∨ ∃ s, outL L pc part = some s ∧ h' = outH l { r with state := .done, pending := some .ret } σ0 s true)) := by
  have hrd := rdy hr hpd
  refine fnhbp Try.func132 (entered_of (by kernel_rfl)) rfl rfl ?_
  repeat' (first | (show W _ _ _ _ _ _; first | apply kA | refine kB rfl ?_ | refine kC rfl rfl ?_ | refine kD rfl rfl ?_ | apply kE | apply kF | apply kG | apply kH | refine kI (by kernel_rfl) (by kernel_rfl) ?_) | (show O _ _ _ _ _ _ _; first | (show O _ _ _ _ (⟨_, .store _ _ _, _, _, _, _⟩ :: _) _ _; refine kJ rfl rfl rfl rfl rfl rfl rfl rfl rfl rfl rfl ?_) | apply kK) | apply kL | ((first | apply kM | apply kN); (iterate 3 (· exact rfl)); (· first | exact ya)) | refine kO rfl rfl rfl rfl rfl ?_ | refine kP rfl rfl rfl ?_ | ((first | refine kQ rfl rfl ?_ ?_ | refine kR rfl rfl rfl rfl rfl ?_ ?_ | refine kS rfl rfl rfl ?_ ?_) <;> intro hc <;> (try simp only [KL, cond_true, cond_false, beq_iff_eq, bne_iff_ne, ne_eq, reduceCtorEq] at hc) <;> (try (have hT : True := hc; clear hT hc)) <;> (try (exfalso; omega))) | apply kT | apply kU | apply kV | apply kW | refine kX rfl ?_ | apply kY | apply kZ)
  refine wloop (fun k : Nat => ([(0, .fn (.yield l) [] []), (1, .ref [.lst 2 (L.map eSpan)]), (3, .int .i64 ((k : Int) - 1))], outH l r σ0 a false)) (fun k => k ≤ L.length ∧ (L.take k).reverse.find? (outQ pc part) = outL L pc part) (fun k => k) L.length ⟨Nat.le_refl _, by rw [List.take_length]; rfl⟩ les leh (fun k hk => ?_)
  obtain ⟨hk1, hk2⟩ := hk
  cases k with
  | zero =>
    refine wle (s' := [(0, .fn (.yield l) [] []), (1, .ref [.lst 2 (L.map eSpan)]), (3, .int .i64 (-1))]) (h' := outH l r σ0 a false) les leh ?_
    repeat' (first | (show W _ _ _ _ _ _; first | apply kA | refine kB rfl ?_ | refine kC rfl rfl ?_ | refine kD rfl rfl ?_ | apply kE | apply kF | apply kG | apply kH | refine kI (by kernel_rfl) (by kernel_rfl) ?_) | (show O _ _ _ _ _ _ _; first | (show O _ _ _ _ (⟨_, .store _ _ _, _, _, _, _⟩ :: _) _ _; refine kJ rfl rfl rfl rfl rfl rfl rfl rfl rfl rfl rfl ?_) | apply kK) | apply kL | ((first | apply kM | apply kN); (iterate 3 (· exact rfl)); (· first | exact ya)) | refine kO rfl rfl rfl rfl rfl ?_ | refine kP rfl rfl rfl ?_ | ((first | refine kQ rfl rfl ?_ ?_ | refine kR rfl rfl rfl rfl rfl ?_ ?_ | refine kS rfl rfl rfl ?_ ?_) <;> intro hc <;> (try simp only [KL, cond_true, cond_false, beq_iff_eq, bne_iff_ne, ne_eq, reduceCtorEq] at hc) <;> (try (have hT : True := hc; clear hT hc)) <;> (try (exfalso; omega))) | apply kT | apply kU | apply kV | apply kW | refine kX rfl ?_ | apply kY | apply kZ)
    exact retn rfl ⟨rfl, .inl ⟨hk2.symm, rfl⟩⟩
  | succ i =>
    refine wle (s' := [(0, .fn (.yield l) [] []), (1, .ref [.lst 2 (L.map eSpan)]), (3, .int .i64 i)]) (h' := outH l r σ0 a false) les leh ?_
    obtain ⟨s, hsi⟩ : ∃ s, L.getD i default = s := ⟨_, rfl⟩
    have e1 : (L.take (i + 1)).reverse = s :: (L.take i).reverse := by
      rw [List.take_succ_eq_append_getElem (by omega), List.reverse_append, ← hsi]
      simp [show i < L.length by omega]
    rw [e1, List.find?_cons] at hk2
    repeat' (first | (show W _ _ _ _ _ _; first | apply kA | refine kB rfl ?_ | refine kC rfl rfl ?_ | refine kD rfl rfl ?_ | apply kE | apply kF | apply kG | apply kH | refine kI (by kernel_rfl) (by kernel_rfl) ?_) | (show O _ _ _ _ _ _ _; first | (show O _ _ _ _ (⟨_, .store _ _ _, _, _, _, _⟩ :: _) _ _; refine kJ rfl rfl rfl rfl rfl rfl rfl rfl rfl rfl rfl ?_) | apply kK) | apply kL | ((first | apply kM | apply kN); (iterate 3 (· exact rfl)); (· first | (show Y _ ⟨_, .indexAddr _ _ _, _, _, _, _⟩ _ _ _; first | exact Y.mk (ok_indexE (hsi) rfl rfl rfl rfl rfl (by omega))) | exact ya)) | refine kO rfl rfl rfl rfl rfl ?_ | refine kP rfl rfl rfl ?_ | ((first | refine kQ rfl rfl ?_ ?_ | refine kR rfl rfl rfl rfl rfl ?_ ?_ | refine kS rfl rfl rfl ?_ ?_) <;> intro hc <;> (try simp only [KL, cond_true, cond_false, beq_iff_eq, bne_iff_ne, ne_eq, reduceCtorEq] at hc) <;> (try (have hT : True := hc; clear hT hc)) <;> (try (exfalso; omega))) | apply kT | apply kU | apply kV | apply kW | refine kX rfl ?_ | apply kY | apply kZ)
    all_goals first | (exfalso; omega) | skip
    refine ycall (fun i => i) (outer_rd l r σ0 pins pc part s a i hr hpd hab hk hs) (fun p hp => hp) hp5 rfl rfl rfl rfl leh rfl rfl rfl rfl rfl rfl (fun r1 h' hR => ?_)
    rw [hrd] at hR
    rcases hR with ⟨rfl, h4, rfl⟩ | ⟨rfl, h4, rfl⟩
    · rw [h4] at hk2
      refine ⟨rfl, ?_⟩
      refine ole (h' := outH l r σ0 a false) (LeS.refl _) leh ?_
      repeat' (first | (show W _ _ _ _ _ _; first | apply kA | refine kB rfl ?_ | refine kC rfl rfl ?_ | refine kD rfl rfl ?_ | apply kE | apply kF | apply kG | apply kH | refine kI (by kernel_rfl) (by kernel_rfl) ?_) | (show O _ _ _ _ _ _ _; first | (show O _ _ _ _ (⟨_, .store _ _ _, _, _, _, _⟩ :: _) _ _; refine kJ rfl rfl rfl rfl rfl rfl rfl rfl rfl rfl rfl ?_) | apply kK) | apply kL | ((first | apply kM | apply kN); (iterate 3 (· exact rfl)); (· first | exact ya)) | refine kO rfl rfl rfl rfl rfl ?_ | refine kP rfl rfl rfl ?_ | ((first | refine kQ rfl rfl ?_ ?_ | refine kR rfl rfl rfl rfl rfl ?_ ?_ | refine kS rfl rfl rfl ?_ ?_) <;> intro hc <;> (try simp only [KL, cond_true, cond_false, beq_iff_eq, bne_iff_ne, ne_eq, reduceCtorEq] at hc) <;> (try (have hT : True := hc; clear hT hc)) <;> (try (exfalso; omega))) | apply kT | apply kU | apply kV | apply kW | refine kX rfl ?_ | apply kY | apply kZ)
      exact ⟨i, ⟨by omega, hk2⟩, by omega, les, leh⟩
    · rw [h4] at hk2
      refine ⟨rfl, ?_⟩
      refine ole (h' := outH l { r with state := .done, pending := some .ret } σ0 s true) (LeS.refl _) leh ?_
      repeat' (first | (show W _ _ _ _ _ _; first | apply kA | refine kB rfl ?_ | refine kC rfl rfl ?_ | refine kD rfl rfl ?_ | apply kE | apply kF | apply kG | apply kH | refine kI (by kernel_rfl) (by kernel_rfl) ?_) | (show O _ _ _ _ _ _ _; first | (show O _ _ _ _ (⟨_, .store _ _ _, _, _, _, _⟩ :: _) _ _; refine kJ rfl rfl rfl rfl rfl rfl rfl rfl rfl rfl rfl ?_) | apply kK) | apply kL | ((first | apply kM | apply kN); (iterate 3 (· exact rfl)); (· first | exact ya)) | refine kO rfl rfl rfl rfl rfl ?_ | refine kP rfl rfl rfl ?_ | ((first | refine kQ rfl rfl ?_ ?_ | refine kR rfl rfl rfl rfl rfl ?_ ?_ | refine kS rfl rfl rfl ?_ ?_) <;> intro hc <;> (try simp only [KL, cond_true, cond_false, beq_iff_eq, bne_iff_ne, ne_eq, reduceCtorEq] at hc) <;> (try (have hT : True := hc; clear hT hc)) <;> (try (exfalso; omega))) | apply kT | apply kU | apply kV | apply kW | refine kX rfl ?_ | apply kY | apply kZ)
      exact retn rfl ⟨rfl, .inr ⟨s, hk2.symm, rfl⟩⟩
def outS (L : List Span) (pc : Int) (part : Span) : Span := (outL L pc part).getD ⟨0, 0⟩
def ρo (i : Nat) : Nat := [10, 11, 2, 3, 4, 5, 6, 7, 21, 22].getD i i
theorem outer_fn (p : List Instr) (w : List Int) (L : List Span) (fc : FuncId) (pc : Int) (part : Span) (hn : L.length ≤ 1000000) : Fn Try.prog 112 [.ref (mA p w L fc), .int .i64 pc, .agg (eSpan part)] (.tup [.agg (eSpan (outS L pc part)), .bool (outL L pc part).isSome]) := by
  refine fnm Try.func112 (entered_of (by kernel_rfl)) rfl rfl rfl ?_
  repeat' (first | (show M _ _ _ _ _ _; first | refine mseq ?_ | refine mregion (fun _ => ?_) | refine mcondT rfl rfl ?_ | refine mcondF rfl rfl ?_ | refine mblock ?_ | refine mskip ?_ | refine mexit ?_ | refine mret ?_) | (show W _ _ _ _ _ _; first | apply kA | refine kB rfl ?_ | refine kC rfl rfl ?_ | refine kD rfl rfl ?_ | apply kE | apply kF | apply kG | apply kH | refine kI (by kernel_rfl) (by kernel_rfl) ?_) | (show O _ _ _ _ _ _ _; first | (show O _ _ _ _ (⟨_, .alloc _, _, _, _, _⟩ :: _) _ _; first | refine ao_alloc (id := 10) rfl rfl rfl rfl rfl rfl rfl ?_ | refine ao_alloc (id := 11) rfl rfl rfl rfl rfl rfl rfl ?_) | (show O _ _ _ _ (⟨_, .store _ _ _, _, _, _, _⟩ :: _) _ _; refine kJ rfl rfl rfl rfl rfl rfl rfl rfl rfl rfl rfl ?_) | apply kK) | apply kL | ((first | apply kM | apply kN); (iterate 3 (· exact rfl)); (· first | (show Y _ ⟨_, .call ⟨.value _, _, _⟩, _, _, _, _⟩ _ _ _; first | exact q_c (backw_fn L) rfl) | exact ya)) | refine kO rfl rfl rfl rfl rfl ?_ | refine kP rfl rfl rfl ?_ | ((first | refine kQ rfl rfl ?_ ?_ | refine mcond rfl rfl ?_ ?_ | refine kR rfl rfl rfl rfl rfl ?_ ?_ | refine kS rfl rfl rfl ?_ ?_) <;> intro hc <;> (try simp only [KL, cond_true, cond_false, beq_iff_eq, bne_iff_ne, ne_eq, reduceCtorEq] at hc) <;> (try (have hT : True := hc; clear hT hc)) <;> (try (exfalso; omega))) | apply kT | apply kU | apply kV | apply kW | refine kX rfl ?_ | apply kY | apply kZ)
  refine mle (s' := [(4, .ref [.int .i64 pc]), (5, .ref (eSpan part)), (6, .ptr 10 0), (7, .ptr 11 0), (14, .fn (.func 132) [] [.ref [.lst 2 (L.map eSpan)]])]) (h' := [(10, .blk 84 (eSpan ⟨0, 0⟩)), (11, .blk 4 [.bool false])]) les leh ?_
  refine mrange ρo (caps0 := [.ref [.lst 2 (L.map eSpan)]]) (s0 := [(4, .ref [.int .i64 pc]), (5, .ref (eSpan part)), (6, .ptr 0 0), (7, .ptr 1 0)]) (hin0 := [(0, .blk 84 (eSpan ⟨0, 0⟩)), (1, .blk 4 [.bool false])]) 21 22
    (R := fun l r v h' => r.state = .ready ∧ r.pending = none ∧ v = .tup [] ∧ ∃ σ0, ((outL L pc part = none ∧ h' = outH l r σ0 ⟨0, 0⟩ false) ∨ ∃ s, outL L pc part = some s ∧ h' = outH l { r with state := .done, pending := some .ret } σ0 s true))
    rfl rfl rfl rfl (fun _ _ => rfl) (fun _ _ _ => leh) rfl rfl rfl (fun _ _ _ => rfl) les rfl (fun l r σ0 pins q1 q2 q3 q4 q5 q6 q7 q8 => ?_) (fun l r σ0 v h' hR => ?_) rfl
  · exact fnhp_mono (outer_it L pc part ⟨0, 0⟩ hn l r σ0 pins q1 q2 (by rw [q3, q4, q5]; rfl) q6 q7 q8) fun v h' ⟨e1, e2⟩ => ⟨q1, q2, e1, σ0, e2⟩
  · obtain ⟨q1, q2, rfl, σ1, ⟨h1, rfl⟩ | ⟨s, h1, rfl⟩⟩ := hR
    · refine ⟨rfl, r, rfl, by rw [q1]; simp, fun _ => ?_, fun c e => by rw [q2] at e; cases e⟩
      rw [outS, h1]
      refine nIn (nThen ?_)
      refine mle (s' := [(6, .ptr 10 0), (7, .ptr 11 0)]) (h' := [(10, .blk 84 (eSpan ⟨0, 0⟩)), (11, .blk 4 [.bool false])]) les leh ?_
      repeat' (first | (show M _ _ _ _ _ _; first | refine mseq ?_ | refine mregion (fun _ => ?_) | refine mcondT rfl rfl ?_ | refine mcondF rfl rfl ?_ | refine mblock ?_ | refine mskip ?_ | refine mexit ?_ | refine mret ?_) | (show W _ _ _ _ _ _; first | apply kA | refine kB rfl ?_ | refine kC rfl rfl ?_ | refine kD rfl rfl ?_ | apply kE | apply kF | apply kG | apply kH | refine kI (by kernel_rfl) (by kernel_rfl) ?_) | (show O _ _ _ _ _ _ _; first | (show O _ _ _ _ (⟨_, .store _ _ _, _, _, _, _⟩ :: _) _ _; refine kJ rfl rfl rfl rfl rfl rfl rfl rfl rfl rfl rfl ?_) | apply kK) | apply kL | ((first | apply kM | apply kN); (iterate 3 (· exact rfl)); (· first | exact ya)) | refine kO rfl rfl rfl rfl rfl ?_ | refine kP rfl rfl rfl ?_ | ((first | refine kQ rfl rfl ?_ ?_ | refine mcond rfl rfl ?_ ?_ | refine kR rfl rfl rfl rfl rfl ?_ ?_ | refine kS rfl rfl rfl ?_ ?_) <;> intro hc <;> (try simp only [KL, cond_true, cond_false, beq_iff_eq, bne_iff_ne, ne_eq, reduceCtorEq] at hc) <;> (try (have hT : True := hc; clear hT hc)) <;> (try (exfalso; omega))) | apply kT | apply kU | apply kV | apply kW | refine kX rfl ?_ | apply kY | apply kZ)
      exact retq rfl rfl
    · refine ⟨rfl, { r with state := .done, pending := some .ret }, rfl, by simp, fun e => by simp at e, fun c e => ?_⟩
      injection e with e
      subst e
      rw [outS, h1]
      refine mret (rIn (rThen ?_))
      exact retq rfl rfl
theorem nextF_fine {p : List Instr} (hf : fineB p = true) {pc : Nat} (h : pc < p.length) : nextF p pc = nextL p pc := by
  rw [nextF, if_pos ⟨hf, by omega, by omega⟩, Int.toNat_natCast]
theorem fold_next (bt : Int → Int → Int) (v : Int) (at_ : List Way) (l : List Int) (k : Nat) (h : k < l.length) : (l.take (k + 1)).foldl (edge bt v at_) ⟨-1, -1⟩ = edge bt v at_ ((l.take k).foldl (edge bt v at_) ⟨-1, -1⟩) (l.getD k default) := by
  have e : l.getD k default = l[k] := by simp [h]
  rw [List.take_succ_eq_append_getElem h, List.foldl_append, e]; rfl
theorem step_fn (p : List Instr) (w : List Int) (fc : FuncId) (bt : Int → Int → Int) (hF : ∀ a b, Fn Try.prog fc [.int .i64 a, .int .i64 b] (.int .i64 (bt a b))) (hf : fineB p = true) (hn : ∀ i, 0 ≤ (p.getD i default).n) (hw : w.length = p.length) (at_ : List Way) (hl : at_.length = p.length + 1) (pc : Nat) (hpc : pc < p.length) :
    FnH Try.prog 113 [.ref (mA p w (loopsL p) fc), .int .i64 pc, .own 4] [(4, .row 129 2 (at_.map eWay))] (fun r h' => r = .agg (eWay (nodeW bt p w at_ pc)) ∧ h' = [(4, .row 129 2 (at_.map eWay))]) := by
  refine FnH.drop' (fnhb Try.func113 (entered_of (by kernel_rfl)) rfl rfl ?_)
  have hfp := fine_inv hf
  have hmost := hfp.most
  have c1 := kAdd_fn (w.getD pc default) 0
  rw [addI_0] at c1
  have c2 := Next_fn p pc (by omega)
  rw [nextF_fine hf hpc] at c2
  have h1 := wAt_ok w pc
  obtain ⟨x, hx⟩ : ∃ x, p.getD pc default = x := ⟨_, rfl⟩
  obtain ⟨wz, hwz⟩ : ∃ z, w.getD pc default = z := ⟨_, rfl⟩
  rw [hwz] at c1
  have ev : insI wz = wAt w pc := by rw [wAt, hwz]
  rw [ev] at c1
  by_cases h21 : x.op = 21
  · have e : nodeW bt p w at_ pc = ⟨-1, wAt w pc⟩ := by rw [nodeW, hx, if_pos h21]
    rw [e]
    repeat' (first | (show W _ _ _ _ _ _; first | apply kA | refine kB rfl ?_ | refine kC rfl rfl ?_ | refine kD rfl rfl ?_ | apply kE | apply kF | apply kG | apply kH | refine kI (by kernel_rfl) (by kernel_rfl) ?_) | (show O _ _ _ _ _ _ _; first | (show O _ _ _ _ (⟨_, .alloc _, _, _, _, _⟩ :: _) _ _; first | refine ao_alloc (id := 20) rfl rfl rfl rfl rfl rfl rfl ?_) | (show O _ _ _ _ (⟨_, .store _ _ _, _, _, _, _⟩ :: _) _ _; refine kJ rfl rfl rfl rfl rfl rfl rfl rfl rfl rfl rfl ?_) | apply kK) | apply kL | ((first | apply kM | apply kN); (iterate 3 (· exact rfl)); (· first | (show Y _ ⟨_, .indexAddr _ _ _, _, _, _, _⟩ _ _ _; first | exact Y.mk (ok_indexE (hx) rfl rfl rfl rfl rfl (by omega)) | exact Y.mk (ok_indexE (hwz) rfl rfl rfl rfl rfl (by omega))) | (show Y _ ⟨_, .call ⟨.value _, _, _⟩, _, _, _, _⟩ _ _ _; first | exact q_c (c1) rfl) | exact ya)) | refine kO rfl rfl rfl rfl rfl ?_ | refine kP rfl rfl rfl ?_ | ((first | refine kQ rfl rfl ?_ ?_ | refine kR rfl rfl rfl rfl rfl ?_ ?_ | refine kS rfl rfl rfl ?_ ?_) <;> intro hc <;> (try simp only [KL, cond_true, cond_false, beq_iff_eq, bne_iff_ne, ne_eq, reduceCtorEq] at hc) <;> (try (have hT : True := hc; clear hT hc)) <;> (try (exfalso; omega))) | apply kT | apply kU | apply kV | apply kW | refine kX rfl ?_ | apply kY | apply kZ)
    all_goals first | (exfalso; omega) | exact retq rfl ⟨[(4, .row 129 2 (at_.map eWay))], leh, rfl, rfl⟩
  by_cases h16 : x.op = 16
  · have e : nodeW bt p w at_ pc = ⟨wAt w pc, -1⟩ := by rw [nodeW, hx, if_neg h21, if_pos h16]
    rw [e]
    repeat' (first | (show W _ _ _ _ _ _; first | apply kA | refine kB rfl ?_ | refine kC rfl rfl ?_ | refine kD rfl rfl ?_ | apply kE | apply kF | apply kG | apply kH | refine kI (by kernel_rfl) (by kernel_rfl) ?_) | (show O _ _ _ _ _ _ _; first | (show O _ _ _ _ (⟨_, .alloc _, _, _, _, _⟩ :: _) _ _; first | refine ao_alloc (id := 20) rfl rfl rfl rfl rfl rfl rfl ?_) | (show O _ _ _ _ (⟨_, .store _ _ _, _, _, _, _⟩ :: _) _ _; refine kJ rfl rfl rfl rfl rfl rfl rfl rfl rfl rfl rfl ?_) | apply kK) | apply kL | ((first | apply kM | apply kN); (iterate 3 (· exact rfl)); (· first | (show Y _ ⟨_, .indexAddr _ _ _, _, _, _, _⟩ _ _ _; first | exact Y.mk (ok_indexE (hx) rfl rfl rfl rfl rfl (by omega)) | exact Y.mk (ok_indexE (hwz) rfl rfl rfl rfl rfl (by omega))) | (show Y _ ⟨_, .call ⟨.value _, _, _⟩, _, _, _, _⟩ _ _ _; first | exact q_c (c1) rfl) | exact ya)) | refine kO rfl rfl rfl rfl rfl ?_ | refine kP rfl rfl rfl ?_ | ((first | refine kQ rfl rfl ?_ ?_ | refine kR rfl rfl rfl rfl rfl ?_ ?_ | refine kS rfl rfl rfl ?_ ?_) <;> intro hc <;> (try simp only [KL, cond_true, cond_false, beq_iff_eq, bne_iff_ne, ne_eq, reduceCtorEq] at hc) <;> (try (have hT : True := hc; clear hT hc)) <;> (try (exfalso; omega))) | apply kT | apply kU | apply kV | apply kW | refine kX rfl ?_ | apply kY | apply kZ)
    all_goals first | (exfalso; omega) | exact retq rfl ⟨[(4, .row 129 2 (at_.map eWay))], leh, rfl, rfl⟩
  have e : nodeW bt p w at_ pc = (nextL p pc).foldl (edge bt (wAt w pc) at_) ⟨-1, -1⟩ := by rw [nodeW, hx, if_neg h21, if_neg h16]
  rw [e]
  have hnx : ∀ y ∈ nextL p pc, 0 ≤ y ∧ y < p.length := fun y hy => by
    obtain ⟨j, rfl, q1, q2, _⟩ := next_up hfp hn hpc (by rw [hx]; exact h16) hy
    omega
  have hlen := next_len p pc
  repeat' (first | (show W _ _ _ _ _ _; first | apply kA | refine kB rfl ?_ | refine kC rfl rfl ?_ | refine kD rfl rfl ?_ | apply kE | apply kF | apply kG | apply kH | refine kI (by kernel_rfl) (by kernel_rfl) ?_) | (show O _ _ _ _ _ _ _; first | (show O _ _ _ _ (⟨_, .alloc _, _, _, _, _⟩ :: _) _ _; first | refine ao_alloc (id := 20) rfl rfl rfl rfl rfl rfl rfl ?_ | refine ao_alloc (id := 21) rfl rfl rfl rfl rfl rfl rfl ?_) | (show O _ _ _ _ (⟨_, .store _ _ _, _, _, _, _⟩ :: _) _ _; refine kJ rfl rfl rfl rfl rfl rfl rfl rfl rfl rfl rfl ?_) | apply kK) | apply kL | ((first | apply kM | apply kN); (iterate 3 (· exact rfl)); (· first | (show Y _ ⟨_, .indexAddr _ _ _, _, _, _, _⟩ _ _ _; first | exact Y.mk (ok_indexE (hx) rfl rfl rfl rfl rfl (by omega)) | exact Y.mk (ok_indexE (hwz) rfl rfl rfl rfl rfl (by omega))) | (show Y _ ⟨_, .call ⟨.value _, _, _⟩, _, _, _, _⟩ _ _ _; first | exact q_c (c1) rfl | exact q_c (c2) rfl) | exact ya)) | refine kO rfl rfl rfl rfl rfl ?_ | refine kP rfl rfl rfl ?_ | ((first | refine kQ rfl rfl ?_ ?_ | refine kR rfl rfl rfl rfl rfl ?_ ?_ | refine kS rfl rfl rfl ?_ ?_) <;> intro hc <;> (try simp only [KL, cond_true, cond_false, beq_iff_eq, bne_iff_ne, ne_eq, reduceCtorEq] at hc) <;> (try (have hT : True := hc; clear hT hc)) <;> (try (exfalso; omega))) | apply kT | apply kU | apply kV | apply kW | refine kX rfl ?_ | apply kY | apply kZ)
  all_goals first | (exfalso; omega) | skip
  refine wloop (fun k : Nat => ([(0, .ref (mA p w (loopsL p) fc)), (2, .own 4), (6, .ptr 20 0), (7, .int .i64 (wAt w pc)), (8, .ptr 21 0), (41, .lst 1 ((nextL p pc).map eI)), (42, .int .i64 (nextL p pc).length), (43, .int .i64 k)], [(20, .blk 129 (eWay ⟨0, 0⟩)), (21, .blk 129 (eWay (((nextL p pc).take k).foldl (edge bt (wAt w pc) at_) ⟨-1, -1⟩))), (4, .row 129 2 (at_.map eWay))])) (fun k => k ≤ (nextL p pc).length) (fun k => (nextL p pc).length - k) 0 (Nat.zero_le _) les leh (fun k hk => ?_)
  rcases Nat.lt_or_eq_of_le hk with hkl | hkl
  · have hfn := fold_next bt (wAt w pc) at_ (nextL p pc) k hkl
    have hy := hnx _ (getD_mem hkl)
    obtain ⟨y, hyd⟩ : ∃ y, (nextL p pc).getD k default = y := ⟨_, rfl⟩
    rw [hyd] at hfn hy
    obtain ⟨j, rfl⟩ : ∃ j : Nat, y = j := ⟨y.toNat, by omega⟩
    generalize ((nextL p pc).take k).foldl (edge bt (wAt w pc) at_) ⟨-1, -1⟩ = o at *
    rw [edge, Int.toNat_natCast] at hfn
    obtain ⟨z, hz⟩ : ∃ z, at_.getD j default = z := ⟨_, rfl⟩
    rw [hz] at hfn
    repeat' (first | (show W _ _ _ _ _ _; first | apply kA | refine kB rfl ?_ | refine kC rfl rfl ?_ | refine kD rfl rfl ?_ | apply kE | apply kF | apply kG | apply kH) | (show O _ _ _ _ _ _ _; first | (show O _ _ _ _ (⟨_, .store _ _ _, _, _, _, _⟩ :: _) _ _; refine kJ rfl rfl rfl rfl rfl rfl rfl rfl rfl rfl rfl ?_) | apply kK) | apply kL | ((first | apply kM | apply kN); (iterate 3 (· exact rfl)); (· first | (show Y _ ⟨_, .indexAddr _ _ _, _, _, _, _⟩ _ _ _; first | exact Y.mk (ok_indexE (hyd) rfl rfl rfl rfl rfl (by omega))) | exact ya)) | refine kO rfl rfl rfl rfl rfl ?_ | refine kP rfl rfl rfl ?_ | ((first | refine kQ rfl rfl ?_ ?_ | refine kR rfl rfl rfl rfl rfl ?_ ?_ | refine kS rfl rfl rfl ?_ ?_) <;> intro hc <;> (try simp only [KL, cond_true, cond_false, beq_iff_eq, bne_iff_ne, ne_eq, reduceCtorEq] at hc) <;> (try (have hT : True := hc; clear hT hc)) <;> (try (exfalso; omega))) | apply kT | apply kU | apply kV | apply kW | refine kX rfl ?_ | apply kY | apply kZ)
    all_goals first | (exfalso; omega) | skip
    refine wle (s' := [(0, .ref (mA p w (loopsL p) fc)), (2, .own 4), (6, .ptr 20 0), (7, .int .i64 (wAt w pc)), (8, .ptr 21 0), (10, .int .i64 (j : Int)), (41, .lst 1 ((nextL p pc).map eI)), (42, .int .i64 (nextL p pc).length), (43, .int .i64 k)]) (h' := [(20, .blk 129 (eWay ⟨0, 0⟩)), (21, .blk 129 (eWay o)), (4, .row 129 2 (at_.map eWay))]) les leh ?_
    refine wdrawC (H := fun y : Way => [(20, .blk 129 (eWay ⟨0, 0⟩)), (21, .blk 129 (eWay y)), (4, .row 129 2 (at_.map eWay))]) (ok := fun _ => True) (tn := [12]) (ln := [2]) o leh (by kernel_rfl) (by kernel_rfl) (by kernel_rfl) trivial ?_
    repeat' (first | (show W _ _ _ _ _ _; first | apply kA | refine kB rfl ?_ | refine kC rfl rfl ?_ | refine kD rfl rfl ?_ | apply kE | apply kF | apply kG | apply kH) | (show O _ _ _ _ _ _ _; first | (show O _ _ _ _ (⟨_, .store _ _ _, _, _, _, _⟩ :: _) _ _; refine kJ rfl rfl rfl rfl rfl rfl rfl rfl rfl rfl rfl ?_) | apply kK) | apply kL | ((first | apply kM | apply kN); (iterate 3 (· exact rfl)); (· first | (show Y _ ⟨_, .indexAddr _ _ _, _, _, _, _⟩ _ _ _; first | exact q_ioE (j) rfl rfl rfl rfl rfl rfl (by omega) (by omega)) | (show Y _ ⟨_, .load _ _, _, _, _, _⟩ _ _ _; first | exact q_pE' hz) | (show Y _ ⟨_, .call ⟨.value _, _, _⟩, _, _, _, _⟩ _ _ _; first | exact q_c (both_fn _ _) rfl | exact q_c (best_fn hF _ _) rfl) | exact ya)) | (show C _ _ _ _ _ _ _ _ _ _ _; first | refine cnil ?_ | (apply c_any; (· exact rfl); (· exact rfl); (· intro y' hy'; first | (show Y _ ⟨_, .indexAddr _ _ _, _, _, _, _⟩ _ _ _; first | exact q_ioE (j) rfl rfl rfl rfl rfl rfl (by omega) (by omega)) | (show Y _ ⟨_, .load _ _, _, _, _, _⟩ _ _ _; first | exact q_pE' hz) | (show Y _ ⟨_, .call ⟨.value _, _, _⟩, _, _, _, _⟩ _ _ _; first | exact q_c (both_fn _ _) rfl | exact q_c (best_fn hF _ _) rfl) | exact ya)) | (apply c_ld; (· exact rfl); (· exact rfl); (· exact rfl); (· first | exact q_pE' hz | (show Y _ ⟨_, .indexAddr _ _ _, _, _, _, _⟩ _ _ _; first | exact q_ioE (j) rfl rfl rfl rfl rfl rfl (by omega) (by omega)) | (show Y _ ⟨_, .load _ _, _, _, _, _⟩ _ _ _; first | exact q_pE' hz) | (show Y _ ⟨_, .call ⟨.value _, _, _⟩, _, _, _, _⟩ _ _ _; first | exact q_c (both_fn _ _) rfl | exact q_c (best_fn hF _ _) rfl) | exact ya)) | refine c_grdN rfl rfl rfl ?_) | refine kO rfl rfl rfl rfl rfl ?_ | refine kP rfl rfl rfl ?_ | ((first | refine kQ rfl rfl ?_ ?_ | refine kR rfl rfl rfl rfl rfl ?_ ?_ | refine kS rfl rfl rfl ?_ ?_ | refine c_grd rfl rfl rfl ?_ ?_) <;> intro hc <;> (try simp only [KL, cond_true, cond_false, beq_iff_eq, bne_iff_ne, ne_eq, reduceCtorEq] at hc) <;> (try (have hT : True := hc; clear hT hc)) <;> (try (exfalso; omega))) | apply kT | apply kU | apply kV | apply kW | refine kX rfl ?_ | apply kY | apply kZ)
    refine c_tu (x' := (⟨bestI bt o.thr (moreI (wAt w pc) z.thr), o.fin⟩ : Way)) rfl rfl trivial (TuO.post (tu_st (sto_B rfl rfl rfl rfl rfl rfl (Nat.le_of_ble_eq_true rfl)) rfl) leh) ?_
    repeat' (first | (show W _ _ _ _ _ _; first | apply kA | refine kB rfl ?_ | refine kC rfl rfl ?_ | refine kD rfl rfl ?_ | apply kE | apply kF | apply kG | apply kH) | (show O _ _ _ _ _ _ _; first | (show O _ _ _ _ (⟨_, .store _ _ _, _, _, _, _⟩ :: _) _ _; refine kJ rfl rfl rfl rfl rfl rfl rfl rfl rfl rfl rfl ?_) | apply kK) | apply kL | ((first | apply kM | apply kN); (iterate 3 (· exact rfl)); (· first | exact ya)) | (show C _ _ _ _ _ _ _ _ _ _ _; first | refine cnil ?_ | (apply c_any; (· exact rfl); (· exact rfl); (· intro y' hy'; first | exact ya)) | (apply c_ld; (· exact rfl); (· exact rfl); (· exact rfl); (· first | exact ya)) | refine c_grdN rfl rfl rfl ?_) | refine kO rfl rfl rfl rfl rfl ?_ | refine kP rfl rfl rfl ?_ | ((first | refine kQ rfl rfl ?_ ?_ | refine kR rfl rfl rfl rfl rfl ?_ ?_ | refine kS rfl rfl rfl ?_ ?_ | refine c_grd rfl rfl rfl ?_ ?_) <;> intro hc <;> (try simp only [KL, cond_true, cond_false, beq_iff_eq, bne_iff_ne, ne_eq, reduceCtorEq] at hc) <;> (try (have hT : True := hc; clear hT hc)) <;> (try (exfalso; omega))) | apply kT | apply kU | apply kV | apply kW | refine kX rfl ?_ | apply kY | apply kZ)
    refine wdrawC (H := fun y : Way => [(20, .blk 129 (eWay ⟨0, 0⟩)), (21, .blk 129 (eWay y)), (4, .row 129 2 (at_.map eWay))]) (ok := fun _ => True) (tn := [12]) (ln := [2]) (⟨bestI bt o.thr (moreI (wAt w pc) z.thr), o.fin⟩ : Way) leh (by kernel_rfl) (by kernel_rfl) (by kernel_rfl) trivial ?_
    repeat' (first | (show W _ _ _ _ _ _; first | apply kA | refine kB rfl ?_ | refine kC rfl rfl ?_ | refine kD rfl rfl ?_ | apply kE | apply kF | apply kG | apply kH) | (show O _ _ _ _ _ _ _; first | (show O _ _ _ _ (⟨_, .store _ _ _, _, _, _, _⟩ :: _) _ _; refine kJ rfl rfl rfl rfl rfl rfl rfl rfl rfl rfl rfl ?_) | apply kK) | apply kL | ((first | apply kM | apply kN); (iterate 3 (· exact rfl)); (· first | (show Y _ ⟨_, .indexAddr _ _ _, _, _, _, _⟩ _ _ _; first | exact q_ioE (j) rfl rfl rfl rfl rfl rfl (by omega) (by omega)) | (show Y _ ⟨_, .load _ _, _, _, _, _⟩ _ _ _; first | exact q_pE' hz) | (show Y _ ⟨_, .call ⟨.value _, _, _⟩, _, _, _, _⟩ _ _ _; first | exact q_c (both_fn _ _) rfl | exact q_c (best_fn hF _ _) rfl) | exact ya)) | (show C _ _ _ _ _ _ _ _ _ _ _; first | refine cnil ?_ | (apply c_any; (· exact rfl); (· exact rfl); (· intro y' hy'; first | (show Y _ ⟨_, .indexAddr _ _ _, _, _, _, _⟩ _ _ _; first | exact q_ioE (j) rfl rfl rfl rfl rfl rfl (by omega) (by omega)) | (show Y _ ⟨_, .load _ _, _, _, _, _⟩ _ _ _; first | exact q_pE' hz) | (show Y _ ⟨_, .call ⟨.value _, _, _⟩, _, _, _, _⟩ _ _ _; first | exact q_c (both_fn _ _) rfl | exact q_c (best_fn hF _ _) rfl) | exact ya)) | (apply c_ld; (· exact rfl); (· exact rfl); (· exact rfl); (· first | exact q_pE' hz | (show Y _ ⟨_, .indexAddr _ _ _, _, _, _, _⟩ _ _ _; first | exact q_ioE (j) rfl rfl rfl rfl rfl rfl (by omega) (by omega)) | (show Y _ ⟨_, .load _ _, _, _, _, _⟩ _ _ _; first | exact q_pE' hz) | (show Y _ ⟨_, .call ⟨.value _, _, _⟩, _, _, _, _⟩ _ _ _; first | exact q_c (both_fn _ _) rfl | exact q_c (best_fn hF _ _) rfl) | exact ya)) | refine c_grdN rfl rfl rfl ?_) | refine kO rfl rfl rfl rfl rfl ?_ | refine kP rfl rfl rfl ?_ | ((first | refine kQ rfl rfl ?_ ?_ | refine kR rfl rfl rfl rfl rfl ?_ ?_ | refine kS rfl rfl rfl ?_ ?_ | refine c_grd rfl rfl rfl ?_ ?_) <;> intro hc <;> (try simp only [KL, cond_true, cond_false, beq_iff_eq, bne_iff_ne, ne_eq, reduceCtorEq] at hc) <;> (try (have hT : True := hc; clear hT hc)) <;> (try (exfalso; omega))) | apply kT | apply kU | apply kV | apply kW | refine kX rfl ?_ | apply kY | apply kZ)
    refine c_tu (x' := (⟨bestI bt o.thr (moreI (wAt w pc) z.thr), bestI bt o.fin (moreI (wAt w pc) z.fin)⟩ : Way)) rfl rfl trivial (TuO.post (tu_st (sto_B rfl rfl rfl rfl rfl rfl (Nat.le_of_ble_eq_true rfl)) rfl) leh) ?_
    repeat' (first | (show W _ _ _ _ _ _; first | apply kA | refine kB rfl ?_ | refine kC rfl rfl ?_ | refine kD rfl rfl ?_ | apply kE | apply kF | apply kG | apply kH) | (show O _ _ _ _ _ _ _; first | (show O _ _ _ _ (⟨_, .store _ _ _, _, _, _, _⟩ :: _) _ _; refine kJ rfl rfl rfl rfl rfl rfl rfl rfl rfl rfl rfl ?_) | apply kK) | apply kL | ((first | apply kM | apply kN); (iterate 3 (· exact rfl)); (· first | exact ya)) | (show C _ _ _ _ _ _ _ _ _ _ _; first | refine cnil ?_ | (apply c_any; (· exact rfl); (· exact rfl); (· intro y' hy'; first | exact ya)) | (apply c_ld; (· exact rfl); (· exact rfl); (· exact rfl); (· first | exact ya)) | refine c_grdN rfl rfl rfl ?_) | refine kO rfl rfl rfl rfl rfl ?_ | refine kP rfl rfl rfl ?_ | ((first | refine kQ rfl rfl ?_ ?_ | refine kR rfl rfl rfl rfl rfl ?_ ?_ | refine kS rfl rfl rfl ?_ ?_ | refine c_grd rfl rfl rfl ?_ ?_) <;> intro hc <;> (try simp only [KL, cond_true, cond_false, beq_iff_eq, bne_iff_ne, ne_eq, reduceCtorEq] at hc) <;> (try (have hT : True := hc; clear hT hc)) <;> (try (exfalso; omega))) | apply kT | apply kU | apply kV | apply kW | refine kX rfl ?_ | apply kY | apply kZ)
    exact ⟨k + 1, by omega, by omega, les, by simp only [hfn]; exact leh⟩
  · subst hkl
    rw [List.take_length]
    repeat' (first | (show W _ _ _ _ _ _; first | apply kA | refine kB rfl ?_ | refine kC rfl rfl ?_ | refine kD rfl rfl ?_ | apply kE | apply kF | apply kG | apply kH | refine kI (by kernel_rfl) (by kernel_rfl) ?_) | (show O _ _ _ _ _ _ _; first | (show O _ _ _ _ (⟨_, .store _ _ _, _, _, _, _⟩ :: _) _ _; refine kJ rfl rfl rfl rfl rfl rfl rfl rfl rfl rfl rfl ?_) | apply kK) | apply kL | ((first | apply kM | apply kN); (iterate 3 (· exact rfl)); (· first | exact ya)) | refine kO rfl rfl rfl rfl rfl ?_ | refine kP rfl rfl rfl ?_ | ((first | refine kQ rfl rfl ?_ ?_ | refine kR rfl rfl rfl rfl rfl ?_ ?_ | refine kS rfl rfl rfl ?_ ?_) <;> intro hc <;> (try simp only [KL, cond_true, cond_false, beq_iff_eq, bne_iff_ne, ne_eq, reduceCtorEq] at hc) <;> (try (have hT : True := hc; clear hT hc)) <;> (try (exfalso; omega))) | apply kT | apply kU | apply kV | apply kW | refine kX rfl ?_ | apply kY | apply kZ)
    all_goals first | (exfalso; omega) | exact retq rfl ⟨[(4, .row 129 2 (at_.map eWay))], leh, rfl, rfl⟩
def initTo (n j : Nat) : List Way := List.replicate j ⟨-1, -1⟩ ++ List.replicate (n - j) ⟨0, 0⟩
theorem init_len {n j : Nat} (h : j ≤ n) : (initTo n j).length = n := by simp [initTo]; omega
theorem init_next {n j : Nat} (h : j < n) : (initTo n j).set j ⟨-1, -1⟩ = initTo n (j + 1) := by
  rw [initTo, initTo, show n - j = (n - (j + 1)) + 1 by omega, List.replicate_succ, List.set_append_right _ _ (by simp), List.replicate_succ', List.append_assoc]
  simp
theorem atTo_fresh (bt : Int → Int → Int) (p : List Instr) (w : List Int) (L : List Span) (rec : Span → Way) (part : Span) : ∀ (k q : Nat), (q : Int) ≤ part.to - k → (atTo bt p w L rec part k).getD q default = ⟨-1, -1⟩
  | 0, q, h => by rw [atTo, getD_rep]; split <;> rfl
  | k + 1, q, h => by rw [atTo, getD_setG, if_neg (by omega)]; exact atTo_fresh bt p w L rec part k q (by omega)
theorem set_same {α : Type} {l : List α} {i : Nat} {d v : α} (h : l.getD i d = v) : l.set i v = l := by
  apply List.ext_getElem? fun j => ?_
  rw [List.getElem?_set]
  split
  · rename_i e; subst e
    split
    · rename_i h2; rw [List.getD_eq_getElem?_getD, List.getElem?_eq_getElem h2] at h; rw [List.getElem?_eq_getElem h2]; exact congrArg some h.symm
    · rename_i h2; rw [List.getElem?_eq_none (by omega)]
  · rfl
theorem right_back {x : Instr} (h : rightI x = true) (h16 : x.op = 16) : 1 ≤ x.c ∧ x.c ≤ 255 := by
  rw [rightI, h16] at h
  simp [kindsOf, kindsN, fitsB] at h
  omega
def ρs (i : Nat) : Nat := [30, 31, 32, 33, 11].getD i i
set_option maxHeartbeats 4000000 in
theorem part_fn (p : List Instr) (w : List Int) (fc : FuncId) (bt : Int → Int → Int) (hF : ∀ a b, Fn Try.prog fc [.int .i64 a, .int .i64 b] (.int .i64 (bt a b))) (hf : fineB p = true) (hn : ∀ i, 0 ≤ (p.getD i default).n) (hw : w.length = p.length) :
    ∀ (f : Nat) (part : Span), isPart p part → sizeS part ≤ f → Fn Try.prog 77 [.ref (mA p w (loopsL p) fc), .agg (eSpan part)] (.agg (eWay (partW bt p w (loopsL p) f part))) := by
  have hfp := fine_inv hf
  have hmost := hfp.most
  have hll : (loopsL p).length ≤ 64 := Nat.le_trans (loopsTo_len p p.length) hmost
  intro f
  induction f with
  | zero =>
    intro part hp hs
    have := part_sound hfp hn hp
    unfold sizeS at hs; omega
  | succ f ih =>
  intro part hp hs
  have hso := part_sound hfp hn hp
  have hsz : (sizeS part : Int) = part.to + 1 - part.frm := by unfold sizeS; omega
  refine fnb Try.func77 (entered_of (by kernel_rfl)) rfl rfl rfl ?_
  repeat' (first | (show W _ _ _ _ _ _; first | apply kA | refine kB rfl ?_ | refine kC rfl rfl ?_ | refine kD rfl rfl ?_ | apply kE | apply kF | apply kG | apply kH | refine kI (by kernel_rfl) (by kernel_rfl) ?_) | (show O _ _ _ _ _ _ _; first | (show O _ _ _ _ (⟨_, .alloc _, _, _, _, _⟩ :: _) _ _; first | refine ao_alloc (id := 20) rfl rfl rfl rfl rfl rfl rfl ?_) | (show O _ _ _ _ (⟨_, .store _ _ _, _, _, _, _⟩ :: _) _ _; refine kJ rfl rfl rfl rfl rfl rfl rfl rfl rfl rfl rfl ?_) | apply kK) | apply kL | ((first | apply kM | apply kN); (iterate 3 (· exact rfl)); (· first | exact ya)) | refine kO rfl rfl rfl rfl rfl ?_ | refine kP rfl rfl rfl ?_ | ((first | refine kQ rfl rfl ?_ ?_ | refine kR rfl rfl rfl rfl rfl ?_ ?_ | refine kS rfl rfl rfl ?_ ?_) <;> intro hc <;> (try simp only [KL, cond_true, cond_false, beq_iff_eq, bne_iff_ne, ne_eq, reduceCtorEq] at hc) <;> (try (have hT : True := hc; clear hT hc)) <;> (try (exfalso; omega))) | apply kT | apply kU | apply kV | apply kW | refine kX rfl ?_ | apply kY | apply kZ)
  refine ole (s' := [(0, .ref (mA p w (loopsL p) fc)), (3, .ref (eSpan part)), (4, .ptr 20 0), (15, .int .i64 ((p.length + 1 : Nat) : Int))]) (h' := [(20, .blk 129 (eWay ⟨0, 0⟩))]) les leh ?_
  (refine ao_mk (f := eWay) (d := (⟨0, 0⟩ : Way)) (id := 11) (by_ := 16) (sz := 2) rfl rfl rfl rfl rfl rfl rfl rfl rfl rfl ?_ ?_ rfl rfl rfl rfl ?_; (· omega); (· omega))
  repeat' (first | (show W _ _ _ _ _ _; first | apply kA | refine kB rfl ?_ | refine kC rfl rfl ?_ | refine kD rfl rfl ?_ | apply kE | apply kF | apply kG | apply kH | refine kI (by kernel_rfl) (by kernel_rfl) ?_) | (show O _ _ _ _ _ _ _; first | (show O _ _ _ _ (⟨_, .store _ _ _, _, _, _, _⟩ :: _) _ _; refine kJ rfl rfl rfl rfl rfl rfl rfl rfl rfl rfl rfl ?_) | apply kK) | apply kL | ((first | apply kM | apply kN); (iterate 3 (· exact rfl)); (· first | exact ya)) | refine kO rfl rfl rfl rfl rfl ?_ | refine kP rfl rfl rfl ?_ | ((first | refine kQ rfl rfl ?_ ?_ | refine kR rfl rfl rfl rfl rfl ?_ ?_ | refine kS rfl rfl rfl ?_ ?_) <;> intro hc <;> (try simp only [KL, cond_true, cond_false, beq_iff_eq, bne_iff_ne, ne_eq, reduceCtorEq] at hc) <;> (try (have hT : True := hc; clear hT hc)) <;> (try (exfalso; omega))) | apply kT | apply kU | apply kV | apply kW | refine kX rfl ?_ | apply kY | apply kZ)
  refine wloop (fun j : Nat => ([(0, .ref (mA p w (loopsL p) fc)), (3, .ref (eSpan part)), (4, .ptr 20 0), (5, .own 11), (18, .int .i64 ((p.length + 1 : Nat) : Int)), (19, .int .i64 j)], [(20, .blk 129 (eWay ⟨0, 0⟩)), (11, .row 129 2 ((initTo (p.length + 1) j).map eWay))])) (fun j => j ≤ p.length + 1) (fun j => p.length + 1 - j) 0 (Nat.zero_le _) les leh (fun j hj => ?_)
  have hil := init_len hj
  rcases Nat.lt_or_eq_of_le hj with hjl | hjl
  · have hin := init_next hjl
    repeat' (first | (show W _ _ _ _ _ _; first | apply kA | refine kB rfl ?_ | refine kC rfl rfl ?_ | refine kD rfl rfl ?_ | apply kE | apply kF | apply kG | apply kH | refine kI (by kernel_rfl) (by kernel_rfl) ?_) | (show O _ _ _ _ _ _ _; first | (show O _ _ _ _ (⟨_, .store _ _ _, _, _, _, _⟩ :: _) _ _; refine kJ rfl rfl rfl rfl rfl rfl rfl rfl rfl rfl rfl ?_) | apply kK) | apply kL | ((first | apply kM | apply kN); (iterate 3 (· exact rfl)); (· first | exact ya)) | refine kO rfl rfl rfl rfl rfl ?_ | refine kP rfl rfl rfl ?_ | ((first | refine kQ rfl rfl ?_ ?_ | refine kR rfl rfl rfl rfl rfl ?_ ?_ | refine kS rfl rfl rfl ?_ ?_) <;> intro hc <;> (try simp only [KL, cond_true, cond_false, beq_iff_eq, bne_iff_ne, ne_eq, reduceCtorEq] at hc) <;> (try (have hT : True := hc; clear hT hc)) <;> (try (exfalso; omega))) | apply kT | apply kU | apply kV | apply kW | refine kX rfl ?_ | apply kY | apply kZ)
    all_goals first | (exfalso; omega) | skip
    (refine ao_se (x' := (⟨-1, -1⟩ : Way)) rfl rfl rfl rfl rfl rfl rfl rfl rfl ?_ rfl rfl rfl ?_; (· (first | omega | ((try simp only [List.length_set, List.length_cons, List.length_nil, List.length_append, List.length_map]) <;> omega))))
    repeat' (first | (show W _ _ _ _ _ _; first | apply kA | refine kB rfl ?_ | refine kC rfl rfl ?_ | refine kD rfl rfl ?_ | apply kE | apply kF | apply kG | apply kH | refine kI (by kernel_rfl) (by kernel_rfl) ?_) | (show O _ _ _ _ _ _ _; first | (show O _ _ _ _ (⟨_, .store _ _ _, _, _, _, _⟩ :: _) _ _; refine kJ rfl rfl rfl rfl rfl rfl rfl rfl rfl rfl rfl ?_) | apply kK) | apply kL | ((first | apply kM | apply kN); (iterate 3 (· exact rfl)); (· first | exact ya)) | refine kO rfl rfl rfl rfl rfl ?_ | refine kP rfl rfl rfl ?_ | ((first | refine kQ rfl rfl ?_ ?_ | refine kR rfl rfl rfl rfl rfl ?_ ?_ | refine kS rfl rfl rfl ?_ ?_) <;> intro hc <;> (try simp only [KL, cond_true, cond_false, beq_iff_eq, bne_iff_ne, ne_eq, reduceCtorEq] at hc) <;> (try (have hT : True := hc; clear hT hc)) <;> (try (exfalso; omega))) | apply kT | apply kU | apply kV | apply kW | refine kX rfl ?_ | apply kY | apply kZ)
    exact ⟨j + 1, by omega, by omega, les, by simp only [← hin]; exact leh⟩
  subst hjl
  have hi0 : initTo (p.length + 1) (p.length + 1) = atTo bt p w (loopsL p) (partW bt p w (loopsL p) f) part 0 := by simp [initTo, atTo]
  rw [hi0]
  repeat' (first | (show W _ _ _ _ _ _; first | apply kA | refine kB rfl ?_ | refine kC rfl rfl ?_ | refine kD rfl rfl ?_ | apply kE | apply kF | apply kG | apply kH | refine kI (by kernel_rfl) (by kernel_rfl) ?_) | (show O _ _ _ _ _ _ _; first | (show O _ _ _ _ (⟨_, .store _ _ _, _, _, _, _⟩ :: _) _ _; refine kJ rfl rfl rfl rfl rfl rfl rfl rfl rfl rfl rfl ?_) | apply kK) | apply kL | ((first | apply kM | apply kN); (iterate 3 (· exact rfl)); (· first | exact ya)) | refine kO rfl rfl rfl rfl rfl ?_ | refine kP rfl rfl rfl ?_ | ((first | refine kQ rfl rfl ?_ ?_ | refine kR rfl rfl rfl rfl rfl ?_ ?_ | refine kS rfl rfl rfl ?_ ?_) <;> intro hc <;> (try simp only [KL, cond_true, cond_false, beq_iff_eq, bne_iff_ne, ne_eq, reduceCtorEq] at hc) <;> (try (have hT : True := hc; clear hT hc)) <;> (try (exfalso; omega))) | apply kT | apply kU | apply kV | apply kW | refine kX rfl ?_ | apply kY | apply kZ)
  all_goals first | (exfalso; omega) | skip
  refine wloop (fun k : Nat => ([(0, .ref (mA p w (loopsL p) fc)), (3, .ref (eSpan part)), (4, .ptr 20 0), (5, .own 11), (7, .int .i64 (part.to - k))], [(20, .blk 129 (eWay ⟨0, 0⟩)), (11, .row 129 2 ((atTo bt p w (loopsL p) (partW bt p w (loopsL p) f) part k).map eWay))])) (fun k => k ≤ sizeS part) (fun k => sizeS part - k) 0 (Nat.zero_le _) les leh (fun k hk => ?_)
  have hal := atTo_len bt p w (loopsL p) (partW bt p w (loopsL p) f) part k
  rcases Nat.lt_or_eq_of_le hk with hkl | hkl
  · obtain ⟨pc, hpc⟩ : ∃ pc : Nat, (pc : Int) = part.to - k := ⟨(part.to - k).toNat, by omega⟩
    have hnx : atTo bt p w (loopsL p) (partW bt p w (loopsL p) f) part (k + 1) = (atTo bt p w (loopsL p) (partW bt p w (loopsL p) f) part k).set pc (valW bt p w (loopsL p) (partW bt p w (loopsL p) f) part (atTo bt p w (loopsL p) (partW bt p w (loopsL p) f) part k) pc) := by
      rw [atTo, show (part.to - (k : Int)).toNat = pc by omega]
    have hfr := atTo_fresh bt p w (loopsL p) (partW bt p w (loopsL p) f) part k pc (by omega)
    generalize atTo bt p w (loopsL p) (partW bt p w (loopsL p) f) part k = at_ at *
    refine wle (s' := [(0, .ref (mA p w (loopsL p) fc)), (3, .ref (eSpan part)), (4, .ptr 20 0), (5, .own 11), (7, .int .i64 pc)]) (h' := [(20, .blk 129 (eWay ⟨0, 0⟩)), (11, .row 129 2 (at_.map eWay))]) les leh ?_
    have c1 := outer_fn p w (loopsL p) fc pc part (by omega)
    rw [valW] at hnx
    cases ho : outL (loopsL p) pc part with
    | none =>
      rw [outS, ho, Option.getD_none, Option.isSome_none] at c1
      rw [ho] at hnx
      simp only at hnx
      repeat' (first | (show W _ _ _ _ _ _; first | apply kA | refine kB rfl ?_ | refine kC rfl rfl ?_ | refine kD rfl rfl ?_ | apply kE | apply kF | apply kG | apply kH | refine kI (by kernel_rfl) (by kernel_rfl) ?_) | (show O _ _ _ _ _ _ _; first | (show O _ _ _ _ (⟨_, .alloc _, _, _, _, _⟩ :: _) _ _; first | refine ao_alloc (id := 21) rfl rfl rfl rfl rfl rfl rfl ?_) | (show O _ _ _ _ (⟨_, .store _ _ _, _, _, _, _⟩ :: _) _ _; refine kJ rfl rfl rfl rfl rfl rfl rfl rfl rfl rfl rfl ?_) | apply kK) | apply kL | ((first | apply kM | apply kN); (iterate 3 (· exact rfl)); (· first | (show Y _ ⟨_, .call ⟨.value _, _, _⟩, _, _, _, _⟩ _ _ _; first | exact q_c (c1) rfl) | exact ya)) | refine kO rfl rfl rfl rfl rfl ?_ | refine kP rfl rfl rfl ?_ | ((first | refine kQ rfl rfl ?_ ?_ | refine kR rfl rfl rfl rfl rfl ?_ ?_ | refine kS rfl rfl rfl ?_ ?_) <;> intro hc <;> (try simp only [KL, cond_true, cond_false, beq_iff_eq, bne_iff_ne, ne_eq, reduceCtorEq] at hc) <;> (try (have hT : True := hc; clear hT hc)) <;> (try (exfalso; omega))) | apply kT | apply kU | apply kV | apply kW | refine kX rfl ?_ | apply kY | apply kZ)
      all_goals first | (exfalso; omega) | skip
      refine zcall (fun i => ρs i) (step_fn p w fc bt hF hf hn hw at_ (by omega) pc (by omega)) rfl rfl leh rfl rfl rfl rfl rfl rfl (fun r h' hR => ?_)
      obtain ⟨rfl, rfl⟩ := hR
      refine ⟨rfl, rfl, ?_⟩
      repeat' (first | (show W _ _ _ _ _ _; first | apply kA | refine kB rfl ?_ | refine kC rfl rfl ?_ | refine kD rfl rfl ?_ | apply kE | apply kF | apply kG | apply kH | refine kI (by kernel_rfl) (by kernel_rfl) ?_) | (show O _ _ _ _ _ _ _; first | (show O _ _ _ _ (⟨_, .store _ _ _, _, _, _, _⟩ :: _) _ _; refine kJ rfl rfl rfl rfl rfl rfl rfl rfl rfl rfl rfl ?_) | apply kK) | apply kL | ((first | apply kM | apply kN); (iterate 3 (· exact rfl)); (· first | (show Y _ ⟨_, .indexAddr _ _ _, _, _, _, _⟩ _ _ _; first | exact q_ioE (pc) rfl rfl rfl rfl rfl rfl (by omega) (by omega)) | exact ya)) | refine kO rfl rfl rfl rfl rfl ?_ | refine kP rfl rfl rfl ?_ | ((first | refine kQ rfl rfl ?_ ?_ | refine kR rfl rfl rfl rfl rfl ?_ ?_ | refine kS rfl rfl rfl ?_ ?_) <;> intro hc <;> (try simp only [KL, cond_true, cond_false, beq_iff_eq, bne_iff_ne, ne_eq, reduceCtorEq] at hc) <;> (try (have hT : True := hc; clear hT hc)) <;> (try (exfalso; omega))) | apply kT | apply kU | apply kV | apply kW | refine kX rfl ?_ | apply kY | apply kZ)
      (refine ao_se (x' := nodeW bt p w at_ pc) rfl rfl rfl rfl rfl rfl rfl rfl rfl ?_ rfl rfl rfl ?_; (· (first | omega | ((try simp only [List.length_set, List.length_cons, List.length_nil, List.length_append, List.length_map]) <;> omega))))
      repeat' (first | (show W _ _ _ _ _ _; first | apply kA | refine kB rfl ?_ | refine kC rfl rfl ?_ | refine kD rfl rfl ?_ | apply kE | apply kF | apply kG | apply kH | refine kI (by kernel_rfl) (by kernel_rfl) ?_) | (show O _ _ _ _ _ _ _; first | (show O _ _ _ _ (⟨_, .store _ _ _, _, _, _, _⟩ :: _) _ _; refine kJ rfl rfl rfl rfl rfl rfl rfl rfl rfl rfl rfl ?_) | apply kK) | apply kL | ((first | apply kM | apply kN); (iterate 3 (· exact rfl)); (· first | exact ya)) | refine kO rfl rfl rfl rfl rfl ?_ | refine kP rfl rfl rfl ?_ | ((first | refine kQ rfl rfl ?_ ?_ | refine kR rfl rfl rfl rfl rfl ?_ ?_ | refine kS rfl rfl rfl ?_ ?_) <;> intro hc <;> (try simp only [KL, cond_true, cond_false, beq_iff_eq, bne_iff_ne, ne_eq, reduceCtorEq] at hc) <;> (try (have hT : True := hc; clear hT hc)) <;> (try (exfalso; omega))) | apply kT | apply kU | apply kV | apply kW | refine kX rfl ?_ | apply kY | apply kZ)
      exact ⟨k + 1, by omega, by omega, les, by simp only [hnx]; exact leh⟩
    | some s =>
      rw [outS, ho, Option.getD_some, Option.isSome_some] at c1
      rw [ho] at hnx
      simp only at hnx
      obtain ⟨s1, ⟨s2, s3, s4⟩, s5⟩ := outL_some.1 ho
      have t1 := loop_sound hfp hn s1
      have t2 := in_part hfp hn hp s1 s2
      by_cases hfe : s.frm = pc
      · rw [if_pos hfe] at hnx
        have c2 := ih s (.inl s1) (by unfold sizeS at *; omega)
        have t3 := right_back (hfp.right s.to.toNat (by omega)) t1.2.2.2.1
        have c3 := rounds_fn (p := p) (w := w) (L := loopsL p) hF (partW bt p w (loopsL p) f s) (at_.getD (s.to + 1).toNat default) (p.getD s.to.toNat default).c (by omega)
        repeat' (first | (show W _ _ _ _ _ _; first | apply kA | refine kB rfl ?_ | refine kC rfl rfl ?_ | refine kD rfl rfl ?_ | apply kE | apply kF | apply kG | apply kH) | (show O _ _ _ _ _ _ _; first | (show O _ _ _ _ (⟨_, .alloc _, _, _, _, _⟩ :: _) _ _; first | refine ao_alloc (id := 21) rfl rfl rfl rfl rfl rfl rfl ?_) | (show O _ _ _ _ (⟨_, .store _ _ _, _, _, _, _⟩ :: _) _ _; refine kJ rfl rfl rfl rfl rfl rfl rfl rfl rfl rfl rfl ?_) | apply kK) | apply kL | ((first | apply kM | apply kN); (iterate 3 (· exact rfl)); (· first | (show Y _ ⟨_, .call ⟨.value _, _, _⟩, _, _, _, _⟩ _ _ _; first | exact q_c (c1) rfl) | exact ya)) | refine kO rfl rfl rfl rfl rfl ?_ | refine kP rfl rfl rfl ?_ | ((first | refine kQ rfl rfl ?_ ?_ | refine kR rfl rfl rfl rfl rfl ?_ ?_ | refine kS rfl rfl rfl ?_ ?_) <;> intro hc <;> (try simp only [KL, cond_true, cond_false, beq_iff_eq, bne_iff_ne, ne_eq, reduceCtorEq] at hc) <;> (try (have hT : True := hc; clear hT hc)) <;> (try (exfalso; omega))) | apply kT | apply kU | apply kV | apply kW | refine kX rfl ?_ | apply kY | apply kZ)
        all_goals first | (exfalso; omega) | skip
        refine wle (s' := [(0, .ref (mA p w (loopsL p) fc)), (3, .ref (eSpan part)), (4, .ptr 20 0), (5, .own 11), (7, .int .i64 pc), (8, .ptr 21 0)]) (h' := [(11, .row 129 2 (at_.map eWay)), (20, .blk 129 (eWay ⟨0, 0⟩)), (21, .blk 84 (eSpan s))]) les leh ?_
        repeat' (first | (show W _ _ _ _ _ _; first | refine wdrawS rfl (by kernel_rfl) (by kernel_rfl) (by kernel_rfl) ?_ | apply kA | refine kB rfl ?_ | refine kC rfl rfl ?_ | refine kD rfl rfl ?_ | apply kE | apply kF | apply kG | apply kH | refine kI (by kernel_rfl) (by kernel_rfl) ?_) | (show O _ _ _ _ _ _ _; first | (show O _ _ _ _ (⟨_, .store _ _ _, _, _, _, _⟩ :: _) _ _; refine kJ rfl rfl rfl rfl rfl rfl rfl rfl rfl rfl rfl ?_) | apply kK) | apply kL | ((first | apply kM | apply kN); (iterate 3 (· exact rfl)); (· first | (show Y _ ⟨_, .indexAddr _ _ _, _, _, _, _⟩ _ _ _; first | exact q_ioE (pc) rfl rfl rfl rfl rfl rfl (by omega) (by omega)) | (show Y _ ⟨_, .call ⟨.value _, _, _⟩, _, _, _, _⟩ _ _ _; first | exact q_c (c2) rfl | exact q_c (c3) rfl) | exact ya)) | (show F _ _ _ _ _ _ _ _ _ _ _; first | refine fnil ?_ | (apply f_ld; (· exact rfl); (· exact rfl); (· first | exact yp)) | refine f_se (x' := rndW bt (partW bt p w (loopsL p) f s) (at_.getD (s.to + 1).toNat default) (p.getD s.to.toNat default).c) rfl rfl rfl rfl rfl rfl rfl rfl rfl (by (first | rfl | omega | (simp only [List.length_set]; omega) | simp only [List.length_set])) (by (first | rfl | omega | (simp only [List.length_set]; omega) | simp only [List.length_set])) ?_ | (apply f_k; (· exact rfl); (· intro y' hy'; first | (show Y _ ⟨_, .indexAddr _ _ _, _, _, _, _⟩ _ _ _; first | exact q_ioE (pc) rfl rfl rfl rfl rfl rfl (by omega) (by omega)) | (show Y _ ⟨_, .call ⟨.value _, _, _⟩, _, _, _, _⟩ _ _ _; first | exact q_c (c2) rfl | exact q_c (c3) rfl) | exact ya))) | refine kO rfl rfl rfl rfl rfl ?_ | refine kP rfl rfl rfl ?_ | ((first | refine kQ rfl rfl ?_ ?_ | refine kR rfl rfl rfl rfl rfl ?_ ?_ | refine kS rfl rfl rfl ?_ ?_) <;> intro hc <;> (try simp only [KL, cond_true, cond_false, beq_iff_eq, bne_iff_ne, ne_eq, reduceCtorEq] at hc) <;> (try (have hT : True := hc; clear hT hc)) <;> (try (exfalso; omega))) | apply kT | apply kU | apply kV | apply kW | refine kX rfl ?_ | apply kY | apply kZ)
        all_goals first | (exfalso; omega) | skip
        exact ⟨k + 1, by omega, by omega, les, by simp only [hnx]; exact leh⟩
      · rw [if_neg hfe, set_same hfr] at hnx
        repeat' (first | (show W _ _ _ _ _ _; first | apply kA | refine kB rfl ?_ | refine kC rfl rfl ?_ | refine kD rfl rfl ?_ | apply kE | apply kF | apply kG | apply kH | refine kI (by kernel_rfl) (by kernel_rfl) ?_) | (show O _ _ _ _ _ _ _; first | (show O _ _ _ _ (⟨_, .alloc _, _, _, _, _⟩ :: _) _ _; first | refine ao_alloc (id := 21) rfl rfl rfl rfl rfl rfl rfl ?_) | (show O _ _ _ _ (⟨_, .store _ _ _, _, _, _, _⟩ :: _) _ _; refine kJ rfl rfl rfl rfl rfl rfl rfl rfl rfl rfl rfl ?_) | apply kK) | apply kL | ((first | apply kM | apply kN); (iterate 3 (· exact rfl)); (· first | (show Y _ ⟨_, .call ⟨.value _, _, _⟩, _, _, _, _⟩ _ _ _; first | exact q_c (c1) rfl) | exact ya)) | refine kO rfl rfl rfl rfl rfl ?_ | refine kP rfl rfl rfl ?_ | ((first | refine kQ rfl rfl ?_ ?_ | refine kR rfl rfl rfl rfl rfl ?_ ?_ | refine kS rfl rfl rfl ?_ ?_) <;> intro hc <;> (try simp only [KL, cond_true, cond_false, beq_iff_eq, bne_iff_ne, ne_eq, reduceCtorEq] at hc) <;> (try (have hT : True := hc; clear hT hc)) <;> (try (exfalso; omega))) | apply kT | apply kU | apply kV | apply kW | refine kX rfl ?_ | apply kY | apply kZ)
        all_goals first | (exfalso; omega) | exact ⟨k + 1, by omega, by omega, les, by simp only [hnx]; exact leh⟩
  · subst hkl
    rw [partW]
    repeat' (first | (show W _ _ _ _ _ _; first | apply kA | refine kB rfl ?_ | refine kC rfl rfl ?_ | refine kD rfl rfl ?_ | apply kE | apply kF | apply kG | apply kH | refine kI (by kernel_rfl) (by kernel_rfl) ?_) | (show O _ _ _ _ _ _ _; first | (show O _ _ _ _ (⟨_, .store _ _ _, _, _, _, _⟩ :: _) _ _; refine kJ rfl rfl rfl rfl rfl rfl rfl rfl rfl rfl rfl ?_) | apply kK) | apply kL | ((first | apply kM | apply kN); (iterate 3 (· exact rfl)); (· first | exact ya)) | refine kO rfl rfl rfl rfl rfl ?_ | refine kP rfl rfl rfl ?_ | ((first | refine kQ rfl rfl ?_ ?_ | refine kR rfl rfl rfl rfl rfl ?_ ?_ | refine kS rfl rfl rfl ?_ ?_) <;> intro hc <;> (try simp only [KL, cond_true, cond_false, beq_iff_eq, bne_iff_ne, ne_eq, reduceCtorEq] at hc) <;> (try (have hT : True := hc; clear hT hc)) <;> (try (exfalso; omega))) | apply kT | apply kU | apply kV | apply kW | refine kX rfl ?_ | apply kY | apply kZ)
    all_goals first | (exfalso; omega) | exact retq rfl rfl
def costF (bt : Int → Int → Int) (p : List Instr) (w : List Int) : Int × Int :=
  if (checkF p).2 ≠ 0 then (0, (checkF p).2) else if w.length ≠ p.length then (0, 1) else ((partW bt p w (loopsL p) p.length ⟨0, (p.length : Int) - 1⟩).fin, 0)
theorem whole_fn (p : List Instr) (w : List Int) (fc : FuncId) (bt : Int → Int → Int) (hF : ∀ a b, Fn Try.prog fc [.int .i64 a, .int .i64 b] (.int .i64 (bt a b))) (hn : ∀ i, 0 ≤ (p.getD i default).n) (hlp : p.length ≤ 1000000) (hlw : w.length ≤ 1000000) :
    Fn Try.prog 46 [.lst 5 (p.map eInstr), .lst 1 (w.map eI), .fn (.func fc) [] []] (.tup [.int .i64 (costF bt p w).1, .int .i64 (costF bt p w).2]) := by
  have c1 := check_fn p hlp
  by_cases h1 : (checkF p).2 ≠ 0
  · rw [costF, if_pos h1]
    refine fnb Try.func46 (entered_of (by kernel_rfl)) rfl rfl rfl ?_
    repeat' (first | (show W _ _ _ _ _ _; first | apply kA | refine kB rfl ?_ | refine kC rfl rfl ?_ | refine kD rfl rfl ?_ | apply kE | apply kF | apply kG | apply kH | refine kI (by kernel_rfl) (by kernel_rfl) ?_) | (show O _ _ _ _ _ _ _; first | (show O _ _ _ _ (⟨_, .store _ _ _, _, _, _, _⟩ :: _) _ _; refine kJ rfl rfl rfl rfl rfl rfl rfl rfl rfl rfl rfl ?_) | apply kK) | apply kL | ((first | apply kM | apply kN); (iterate 3 (· exact rfl)); (· first | (show Y _ ⟨_, .call ⟨.value _, _, _⟩, _, _, _, _⟩ _ _ _; first | exact q_c (c1) rfl) | exact ya)) | refine kO rfl rfl rfl rfl rfl ?_ | refine kP rfl rfl rfl ?_ | ((first | refine kQ rfl rfl ?_ ?_ | refine kR rfl rfl rfl rfl rfl ?_ ?_ | refine kS rfl rfl rfl ?_ ?_) <;> intro hc <;> (try simp only [KL, cond_true, cond_false, beq_iff_eq, bne_iff_ne, ne_eq, reduceCtorEq] at hc) <;> (try (have hT : True := hc; clear hT hc)) <;> (try (exfalso; omega))) | apply kT | apply kU | apply kV | apply kW | refine kX rfl ?_ | apply kY | apply kZ)
    all_goals first | (exfalso; omega) | exact retq rfl rfl
  by_cases h2 : w.length ≠ p.length
  · rw [costF, if_neg h1, if_pos h2]
    refine fnb Try.func46 (entered_of (by kernel_rfl)) rfl rfl rfl ?_
    repeat' (first | (show W _ _ _ _ _ _; first | apply kA | refine kB rfl ?_ | refine kC rfl rfl ?_ | refine kD rfl rfl ?_ | apply kE | apply kF | apply kG | apply kH | refine kI (by kernel_rfl) (by kernel_rfl) ?_) | (show O _ _ _ _ _ _ _; first | (show O _ _ _ _ (⟨_, .store _ _ _, _, _, _, _⟩ :: _) _ _; refine kJ rfl rfl rfl rfl rfl rfl rfl rfl rfl rfl rfl ?_) | apply kK) | apply kL | ((first | apply kM | apply kN); (iterate 3 (· exact rfl)); (· first | (show Y _ ⟨_, .call ⟨.value _, _, _⟩, _, _, _, _⟩ _ _ _; first | exact q_c (c1) rfl) | exact ya)) | refine kO rfl rfl rfl rfl rfl ?_ | refine kP rfl rfl rfl ?_ | ((first | refine kQ rfl rfl ?_ ?_ | refine kR rfl rfl rfl rfl rfl ?_ ?_ | refine kS rfl rfl rfl ?_ ?_) <;> intro hc <;> (try simp only [KL, cond_true, cond_false, beq_iff_eq, bne_iff_ne, ne_eq, reduceCtorEq] at hc) <;> (try (have hT : True := hc; clear hT hc)) <;> (try (exfalso; omega))) | apply kT | apply kU | apply kV | apply kW | refine kX rfl ?_ | apply kY | apply kZ)
    all_goals first | (exfalso; omega) | exact retq rfl rfl
  rw [costF, if_neg h1, if_neg h2]
  have hf : fineB p = true := by rw [fineB]; exact decide_eq_true (by omega)
  have c2 := Loops_fn p hlp
  rw [loopsF, if_pos hf] at c2
  have c3 := part_fn p w fc bt hF hf hn (by omega) p.length ⟨0, (p.length : Int) - 1⟩ (.inr rfl) (by unfold sizeS; simp only; omega)
  refine fnb Try.func46 (entered_of (by kernel_rfl)) rfl rfl rfl ?_
  repeat' (first | (show W _ _ _ _ _ _; first | apply kA | refine kB rfl ?_ | refine kC rfl rfl ?_ | refine kD rfl rfl ?_ | apply kE | apply kF | apply kG | apply kH | refine kI (by kernel_rfl) (by kernel_rfl) ?_) | (show O _ _ _ _ _ _ _; first | (show O _ _ _ _ (⟨_, .store _ _ _, _, _, _, _⟩ :: _) _ _; refine kJ rfl rfl rfl rfl rfl rfl rfl rfl rfl rfl rfl ?_) | apply kK) | apply kL | ((first | apply kM | apply kN); (iterate 3 (· exact rfl)); (· first | (show Y _ ⟨_, .call ⟨.value _, _, _⟩, _, _, _, _⟩ _ _ _; first | exact q_c (c1) rfl | exact q_c (c2) rfl | exact q_c (c3) rfl) | exact ya)) | refine kO rfl rfl rfl rfl rfl ?_ | refine kP rfl rfl rfl ?_ | ((first | refine kQ rfl rfl ?_ ?_ | refine kR rfl rfl rfl rfl rfl ?_ ?_ | refine kS rfl rfl rfl ?_ ?_) <;> intro hc <;> (try simp only [KL, cond_true, cond_false, beq_iff_eq, bne_iff_ne, ne_eq, reduceCtorEq] at hc) <;> (try (have hT : True := hc; clear hT hc)) <;> (try (exfalso; omega))) | apply kT | apply kU | apply kV | apply kW | refine kX rfl ?_ | apply kY | apply kZ)
  all_goals first | (exfalso; omega) | exact retq rfl rfl
theorem mostC_fn (a b : Int) : Fn Try.prog 47 [.int .i64 a, .int .i64 b] (.int .i64 (max a b)) := by
  refine fnb Try.func47 (entered_of (by kernel_rfl)) rfl rfl rfl ?_
  repeat' (first | (show W _ _ _ _ _ _; first | apply kA | refine kB rfl ?_ | refine kC rfl rfl ?_ | refine kD rfl rfl ?_ | apply kE | apply kF | apply kG | apply kH | refine kI (by kernel_rfl) (by kernel_rfl) ?_) | (show O _ _ _ _ _ _ _; first | (show O _ _ _ _ (⟨_, .store _ _ _, _, _, _, _⟩ :: _) _ _; refine kJ rfl rfl rfl rfl rfl rfl rfl rfl rfl rfl rfl ?_) | apply kK) | apply kL | ((first | apply kM | apply kN); (iterate 3 (· exact rfl)); (· first | exact ya)) | refine kO rfl rfl rfl rfl rfl ?_ | refine kP rfl rfl rfl ?_ | ((first | refine kQ rfl rfl ?_ ?_ | refine kR rfl rfl rfl rfl rfl ?_ ?_ | refine kS rfl rfl rfl ?_ ?_) <;> intro hc <;> (try simp only [KL, cond_true, cond_false, beq_iff_eq, bne_iff_ne, ne_eq, reduceCtorEq] at hc) <;> (try (have hT : True := hc; clear hT hc)) <;> (try (exfalso; omega))) | apply kT | apply kU | apply kV | apply kW | refine kX rfl ?_ | apply kY | apply kZ)
  exact retq rfl rfl
theorem most_fn (p : List Instr) (w : List Int) (hn : ∀ i, 0 ≤ (p.getD i default).n) (hlp : p.length ≤ 1000000) (hlw : w.length ≤ 1000000) :
    Fn Try.prog 14 [.lst 5 (p.map eInstr), .lst 1 (w.map eI)] (.tup [.int .i64 (costF max p w).1, .int .i64 (costF max p w).2]) := by
  refine fnb Try.func14 (entered_of (by kernel_rfl)) rfl rfl rfl ?_
  repeat' (first | (show W _ _ _ _ _ _; first | apply kA | refine kB rfl ?_ | refine kC rfl rfl ?_ | refine kD rfl rfl ?_ | apply kE | apply kF | apply kG | apply kH | refine kI (by kernel_rfl) (by kernel_rfl) ?_) | (show O _ _ _ _ _ _ _; first | (show O _ _ _ _ (⟨_, .store _ _ _, _, _, _, _⟩ :: _) _ _; refine kJ rfl rfl rfl rfl rfl rfl rfl rfl rfl rfl rfl ?_) | apply kK) | apply kL | ((first | apply kM | apply kN); (iterate 3 (· exact rfl)); (· first | (show Y _ ⟨_, .call ⟨.value _, _, _⟩, _, _, _, _⟩ _ _ _; first | exact q_c (whole_fn p w _ max mostC_fn hn hlp hlw) rfl) | exact ya)) | refine kO rfl rfl rfl rfl rfl ?_ | refine kP rfl rfl rfl ?_ | ((first | refine kQ rfl rfl ?_ ?_ | refine kR rfl rfl rfl rfl rfl ?_ ?_ | refine kS rfl rfl rfl ?_ ?_) <;> intro hc <;> (try simp only [KL, cond_true, cond_false, beq_iff_eq, bne_iff_ne, ne_eq, reduceCtorEq] at hc) <;> (try (have hT : True := hc; clear hT hc)) <;> (try (exfalso; omega))) | apply kT | apply kU | apply kV | apply kW | refine kX rfl ?_ | apply kY | apply kZ)
  exact retq rfl rfl
end Go.Proofs.Ytffciebjpiljgaa
namespace Go.Proofs.Ytffciebjpiljgaa
set_option linter.unusedSimpArgs false
set_option linter.unusedVariables false
set_option maxRecDepth 100000
set_option linter.unusedSimpArgs false
set_option linter.unusedVariables false
set_option maxRecDepth 100000
open Go.RowKit
section
variable {p : List Instr}
end
def init12 (n j : Nat) : List Int := List.replicate j (-1) ++ List.replicate (n - j) 0
abbrev prH (x : FW) : Heap := [(11, .row 3 1 (x.at_.map eI)), (20, .blk 92 [.int .i64 0, .int .i64 0]), (21, .blk 92 [.int .i64 x.thr, .int .i64 x.fin])]
def mostI (p : List Instr) (w : List Int) : Int := (partW max p w (loopsL p) p.length ⟨0, (p.length : Int) - 1⟩).fin
end Go.Proofs.Ytffciebjpiljgaa
