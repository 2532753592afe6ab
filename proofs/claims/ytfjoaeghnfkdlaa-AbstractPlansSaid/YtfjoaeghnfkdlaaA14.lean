/- Sets of numbers: put, drop, has, count, first; the waking calls. No condition. -/
import Derived.Test.YtfjoaeghnfkdlaaA10
import Derived.Test.YtfjoaeghnfkdlaaA13
import Derived.Test.YtfjoaeghnfkdlaaA11
import Derived.Test.YtfjoaeghnfkdlaaA8
import Derived.Test.YtfjoaeghnfkdlaaA9
import Derived.MapKept
import Derived.Test.YtfjoaeghnfkdlaaA7
import Derived.WalkKit
set_option linter.unusedSimpArgs false
set_option linter.unusedVariables false
set_option maxHeartbeats 1000000
namespace Go.Proofs.Ytfjoaeghnfkdlaa
set_option maxRecDepth 100000
set_option maxRecDepth 100000
open Go.RowKit
def bitN (i : Int) : Nat := if 0 ≤ i ∧ i ≤ 63 then 2 ^ i.toNat else 0
theorem bitN_lt (i : Int) : bitN i < 2 ^ 64 := by
  unfold bitN; split
  · exact Nat.pow_lt_pow_right (by omega) (by omega)
  · omega
def hasN (m : Nat) (i : Int) : Bool := decide (m &&& bitN i ≠ 0)
end Go.Proofs.Ytfjoaeghnfkdlaa
namespace Go.Proofs.Ytfjoaeghnfkdlaa
set_option maxRecDepth 100000
set_option maxRecDepth 100000
open Go.RowKit
def rkTo (prio : List Int) (k : Nat) : List Int := (List.range k).map fun j : Nat => (rk prio prio.length (j : Int) : Int)
def setL (m : Nat) : List Int := (bitsL m).map fun i : Nat => (i : Int)
def bitsTo (m k : Nat) : List Int := ((List.range k).filter m.testBit).map fun i : Nat => (i : Int)
def pick1 (prio : List Int) (b i : Int) : Int := if 0 ≤ i ∧ i < prio.length ∧ (b < 0 ∨ befB prio i b = true) then i else b
def pickTo (prio l : List Int) (k : Nat) : Int := (l.take k).foldl (pick1 prio) (-1)
end Go.Proofs.Ytfjoaeghnfkdlaa
namespace Go.Proofs.Ytfjoaeghnfkdlaa
set_option maxRecDepth 100000
set_option maxRecDepth 100000
open Go.RowKit
end Go.Proofs.Ytfjoaeghnfkdlaa
namespace Go.Proofs.Ytfjoaeghnfkdlaa
set_option maxRecDepth 100000
set_option maxRecDepth 100000
open Go.RowKit
end Go.Proofs.Ytfjoaeghnfkdlaa
namespace Go.Proofs.Ytfjoaeghnfkdlaa
set_option maxRecDepth 100000
set_option maxRecDepth 100000
open Go.RowKit
end Go.Proofs.Ytfjoaeghnfkdlaa
namespace Go.Proofs.Ytfjoaeghnfkdlaa
set_option maxRecDepth 100000
set_option maxRecDepth 100000
open Go.RowKit
def putN (m : Nat) (i : Int) : Nat := m ||| bitN i
def dropN (m : Nat) (i : Int) : Nat := m &&& (2 ^ 64 - (bitN i + 1))
theorem putN_lt {m : Nat} (hm : m < 2 ^ 64) (i : Int) : putN m i < 2 ^ 64 := Nat.or_lt_two_pow hm (bitN_lt i)
theorem dropN_lt {m : Nat} (hm : m < 2 ^ 64) (i : Int) : dropN m i < 2 ^ 64 := Nat.lt_of_le_of_lt Nat.and_le_left hm
theorem bitN_bit (i : Int) (j : Nat) : (bitN i).testBit j = decide (0 ≤ i ∧ i ≤ 63 ∧ i = (j : Int)) := by
  unfold bitN
  by_cases h : 0 ≤ i ∧ i ≤ 63
  · rw [if_pos h, Nat.testBit_two_pow]
    rw [Bool.eq_iff_iff]
    simp only [decide_eq_true_eq]
    omega
  · rw [if_neg h, Nat.zero_testBit]
    rw [Bool.eq_iff_iff]
    simp only [decide_eq_true_eq, Bool.false_eq_true, false_iff]
    omega
theorem mem_setL {m : Nat} {i : Int} : i ∈ setL m ↔ 0 ≤ i ∧ i ≤ 63 ∧ m.testBit i.toNat = true := by
  unfold setL bitsL
  constructor
  · intro h
    obtain ⟨k, hk, rfl⟩ := List.mem_map.1 h
    obtain ⟨h1, h2⟩ := List.mem_filter.1 hk
    rw [List.mem_range] at h1
    exact ⟨by omega, by omega, by simpa using h2⟩
  · rintro ⟨h1, h2, h3⟩
    exact List.mem_map.2 ⟨i.toNat, List.mem_filter.2 ⟨List.mem_range.2 (by omega), h3⟩, by omega⟩
theorem putN_bit (m : Nat) (i : Int) (j : Nat) : (putN m i).testBit j = (m.testBit j || decide (0 ≤ i ∧ i ≤ 63 ∧ i = (j : Int))) := by
  unfold putN; rw [Nat.testBit_or, bitN_bit]
theorem dropN_bit (m : Nat) (i : Int) (j : Nat) : (dropN m i).testBit j = (m.testBit j && (decide (j < 64) && !decide (0 ≤ i ∧ i ≤ 63 ∧ i = (j : Int)))) := by
  unfold dropN; rw [Nat.testBit_and, Nat.testBit_two_pow_sub_succ (bitN_lt i), bitN_bit]
theorem hasN_eq (m : Nat) (i : Int) : hasN m i = decide (i ∈ setL m) := by
  unfold hasN
  rw [Bool.eq_iff_iff]
  simp only [decide_eq_true_eq]
  rw [mem_setL]
  constructor
  · intro h
    obtain ⟨j, hj⟩ := Nat.exists_testBit_of_ne_zero h
    rw [Nat.testBit_and, bitN_bit, Bool.and_eq_true, decide_eq_true_eq] at hj
    refine ⟨hj.2.1, hj.2.2.1, ?_⟩
    rw [show i.toNat = j by omega]; exact hj.1
  · rintro ⟨h1, h2, h3⟩ h4
    have : (m &&& bitN i).testBit i.toNat = true := by
      rw [Nat.testBit_and, bitN_bit, h3]; simp only [Bool.true_and, decide_eq_true_eq]; omega
    rw [h4, Nat.zero_testBit] at this
    cases this
def ofTo (l : List Int) : Nat → Nat
  | 0 => 0
  | k + 1 => 2 * ofTo l k + if (63 - (k : Int)) ∈ l then 1 else 0
def cTo (l : List Int) (v : Int) (j : Nat) : Nat := if v ∈ l.take j then 1 else 0
end Go.Proofs.Ytfjoaeghnfkdlaa
namespace Go.Proofs.Ytfjoaeghnfkdlaa
set_option maxRecDepth 100000
open Go.RowKit Go.MapKept
section
variable {α : Type}
def getM : List (Int × α) → Int → Option α
  | [], _ => none
  | (k', v) :: r, k => if k' = k then some v else getM r k
def setM : List (Int × α) → Int → α → List (Int × α)
  | [], k, x => [(k, x)]
  | (k', v) :: r, k, x => if k' = k then (k, x) :: r else (k', v) :: setM r k x
def delM : List (Int × α) → Int → List (Int × α)
  | [], _ => []
  | (k', v) :: r, k => if k' = k then r else (k', v) :: delM r k
def noK (m : List (Int × α)) (k : Int) : Prop := ∀ p ∈ m, p.1 ≠ k
theorem noK_nil (k : Int) : noK ([] : List (Int × α)) k := fun p hp => by cases hp
theorem noK_cons {k' : Int} {v : α} {m : List (Int × α)} {k : Int} (h1 : k' ≠ k) (h2 : noK m k) : noK ((k', v) :: m) k := fun p hp => by
  rcases List.mem_cons.1 hp with rfl | hp
  · exact h1
  · exact h2 p hp
theorem getM_no {m : List (Int × α)} {k : Int} (h : noK m k) : getM m k = none := by
  induction m with
  | nil => rfl
  | cons p r ih =>
    obtain ⟨k', v⟩ := p
    rw [getM, if_neg (h (k', v) List.mem_cons_self)]
    exact ih fun q hq => h q (List.mem_cons_of_mem _ hq)
theorem setM_no {m : List (Int × α)} {k : Int} {x : α} (h : noK m k) : setM m k x = m ++ [(k, x)] := by
  induction m with
  | nil => rfl
  | cons p r ih =>
    obtain ⟨k', v⟩ := p
    rw [setM, if_neg (h (k', v) List.mem_cons_self), ih fun q hq => h q (List.mem_cons_of_mem _ hq)]
    rfl
theorem M_at {m1 m2 : List (Int × α)} {k : Int} {v : α} (h : noK m1 k) (x : α) : getM (m1 ++ (k, v) :: m2) k = some v ∧ setM (m1 ++ (k, v) :: m2) k x = m1 ++ (k, x) :: m2 ∧ delM (m1 ++ (k, v) :: m2) k = m1 ++ m2 := by
  induction m1 with
  | nil => simp [getM, setM, delM]
  | cons p r ih =>
    obtain ⟨k', v'⟩ := p
    have h1 := h (k', v') List.mem_cons_self
    obtain ⟨h2, h3, h4⟩ := ih fun q hq => h q (List.mem_cons_of_mem _ hq)
    simp only [List.cons_append, getM, setM, delM, if_neg h1, h2, h3, h4, and_self]
def ME (σ : Sig) (f : α → AV) : List MapEntry → List (Int × α) → Prop
  | [], [] => True
  | e :: es, p :: m => e.key = .int .i64 p.1 ∧ VR0 σ (f p.2) e.val ∧ ME σ f es m
  | _, _ => False
theorem ME.mono {σ σ' : Sig} {f : α → AV} (hs : Sig.le σ σ') : ∀ {es : List MapEntry} {m : List (Int × α)}, ME σ f es m → ME σ' f es m
  | [], [], _ => trivial
  | [], _ :: _, h => h.elim
  | _ :: _, [], h => h.elim
  | _ :: _, _ :: _, ⟨h1, h2, h3⟩ => ⟨h1, h2.mono hs, ME.mono hs h3⟩
theorem ME.app {σ : Sig} {f : α → AV} : ∀ {es es' : List MapEntry} {m m' : List (Int × α)}, ME σ f es m → ME σ f es' m' → ME σ f (es ++ es') (m ++ m')
  | [], _, [], _, _, h => h
  | [], _, _ :: _, _, h, _ => h.elim
  | _ :: _, _, [], _, h, _ => h.elim
  | _ :: _, _, _ :: _, _, ⟨h1, h2, h3⟩, h => ⟨h1, h2, ME.app h3 h⟩
theorem ME.keys {σ : Sig} {f : α → AV} : ∀ {es : List MapEntry} {m : List (Int × α)}, ME σ f es m → ∀ x ∈ es, IsKey (.int .i64) x.key
  | [], [], _, x, hx => by cases hx
  | [], _ :: _, h, _, _ => h.elim
  | _ :: _, [], h, _, _ => h.elim
  | e :: es, p :: m, ⟨h1, _, h3⟩, x, hx => by
    rcases List.mem_cons.1 hx with rfl | hx
    · rw [h1]; rfl
    · exact ME.keys h3 x hx
theorem ME.find {σ : Sig} {f : α → AV} (k : Int) : ∀ {es : List MapEntry} {m : List (Int × α)} (i : Nat), ME σ f es m →
    (Instr.findNow (.int .i64) (.int .i64 k) es i = some none ∧ noK m k) ∨
    ∃ e1 e e2 m1 v m2, es = e1 ++ e :: e2 ∧ m = m1 ++ (k, v) :: m2 ∧ e1.length = m1.length ∧ noK m1 k ∧ ME σ f e1 m1 ∧ ME σ f e2 m2 ∧ e.key = .int .i64 k ∧ VR0 σ (f v) e.val ∧ Instr.findNow (.int .i64) (.int .i64 k) es i = some (some (i + e1.length, e.val))
  | [], [], i, _ => .inl ⟨rfl, noK_nil k⟩
  | [], _ :: _, _, h => h.elim
  | _ :: _, [], _, h => h.elim
  | e :: es, (k', v) :: m, i, ⟨h1, h2, h3⟩ => by
    simp only at h1 h2
    by_cases hk : k' = k
    · subst hk
      exact .inr ⟨[], e, es, [], v, m, rfl, rfl, rfl, noK_nil _, trivial, h3, h1, h2, by simp [Instr.findNow, h1, Instr.sameNow]⟩
    · rcases ME.find k (i + 1) h3 with ⟨g1, g2⟩ | ⟨e1, e', e2, m1, v', m2, rfl, rfl, g3, g4, g5, g6, g7, g8, g9⟩
      · refine .inl ⟨?_, noK_cons hk g2⟩
        rw [Instr.findNow, h1]
        simp only [Instr.sameNow, if_true]
        rw [show ((k == k') : Bool) = false by simp; exact fun e => hk e.symm]
        exact g1
      · refine .inr ⟨e :: e1, e', e2, (k', v) :: m1, v', m2, rfl, rfl, by simp [g3], noK_cons hk g4, ⟨h1, h2, g5⟩, g6, g7, g8, ?_⟩
        rw [Instr.findNow, h1]
        simp only [Instr.sameNow, if_true]
        rw [show ((k == k') : Bool) = false by simp; exact fun e => hk e.symm]
        simp only
        rw [g9, List.length_cons, Nat.add_assoc, Nat.add_comm 1]
def mapR (f : α → AV) (m : List (Int × α)) (σ : Sig) (H : Array Obj) (v : Value) : Prop := ∃ b es clock, v = .map (some b) ∧ H[b]? = some (.map es clock) ∧ ME σ f es.toList m
def mapC (f : α → AV) (m : List (Int × α)) : SemC where
  rel := mapR f m
  keep := fun σ σ' H H' v ⟨b, es, clock, h1, h2, h3⟩ hs hw => ⟨b, es, clock, h1, by rw [hw b (.inl (by rw [h1]; rfl))]; exact h2, h3.mono hs⟩
  lt := fun σ H v g ⟨b, es, clock, h1, h2, _⟩ hg => by
    have hg := hg.one (fun vs e => by rw [h1] at e; cases e)
    rw [h1] at hg; simp only [footOf, Option.some.injEq] at hg; subst hg
    exact (Array.getElem?_eq_some_iff.1 h2).1
end
theorem modify_at {β : Type} (l1 : List β) (x : β) (l2 : List β) (f : β → β) : (l1 ++ x :: l2).modify l1.length f = l1 ++ f x :: l2 := by
  induction l1 with
  | nil => rfl
  | cons y l1 ih => rw [List.cons_append, List.length_cons, List.modify_succ_cons, ih]; rfl
def mapE (P : Program) (t : TypeId) : Option (TypeId × TypeId) := match P.underlying t with
  | some (.map k e) => match P.underlying k with
    | some (.int .i64) => some (k, e)
    | _ => none
  | _ => none
theorem mapE_spec {P : Program} {t k e : TypeId} (h : mapE P t = some (k, e)) : P.underlying t = some (.map k e) ∧ P.underlying k = some (.int .i64) := by
  unfold mapE at h
  split at h
  · rename_i k' e' hu
    split at h
    · rename_i hk; cases h; exact ⟨hu, hk⟩
    · cases h
  · cases h
section
variable {P : Program} {n : Md} {Q : Exit → Slots → Heap → Prop} {s : Slots} {h : Heap} {ops : Array Oper} {rest : List Oper} {o : Oper}
theorem turn_ownJ {α : Type} (f : α → List AV) {b : Nat} {ty : TypeId} {cs : List AV} (j : Nat) (hg : hget h b = some (.blk ty cs)) (hj : cs[j]? = some .nils) (id : Nat) (e : TypeId) (sz : Nat) (hsz : 0 < sz) (hf : freshAll id s h = true) : Turns n s h s ((b, .blk ty (cs.set j (.own id))) :: (id, .row e sz (([] : List α).map f)) :: h) := by
  intro E σ ι a w hr ht
  simp only [freshAll, Bool.and_eq_true, Nat.ble_eq] at hf
  have hbi : b ≠ id := (freshH_get hf.2 b _ hg).1
  have r1 : Rel E σ (upd ι id (.slice none 0 0)) ((id, .row e sz (([] : List α).map f)) :: h) w := by
    refine hr.turn (c' := .row e sz []) ?_ (by rw [hget_cons, if_pos rfl]; rfl) ⟨hsz, by simp, [], by rw [upd_eq]; exact World.ownsRow_nil w 0 e sz, L2.nil _⟩ rfl rfl rfl (Nat.le_refl _) (fun _ _ _ => rfl) (fun g hg => by cases hg) (.inl hf.1.1)
    intro i c hi hc
    rw [hget_cons, if_neg (fun e => hi e.symm)] at hc
    exact ⟨hc, .inr (freshH_get hf.2 i c hc).2⟩
  have t1 := ht.upd hf.1.1 hf.1.2 (.slice none 0 0)
  have hown : VR σ (upd ι id (.slice none 0 0)) (.own id) (.slice none 0 0) := by
    have h4 := VR.own (σ := σ) (ι := upd ι id (.slice none 0 0)) id (by rw [upd_eq]; rfl)
    rwa [upd_eq] at h4
  generalize upd ι id (.slice none 0 0) = ι1 at *
  have hgb : hget ((id, .row e sz (([] : List α).map f)) :: h) b = some (.blk ty cs) := by rw [hget_cons, if_neg (fun e => hbi e.symm)]; exact hg
  obtain ⟨g, cur, e1, e2, e3⟩ := r1.ch b _ hgb
  have hsame : upd ι1 b (ι1 b) = ι1 := by funext i; unfold upd; split <;> simp_all
  have hnew := r1.turn (id := b) (u := ι1 b) (h' := (b, .blk ty (cs.set j (.own id))) :: (id, .row e sz (([] : List α).map f)) :: h) (c' := .blk ty (cs.set j (.own id))) (w' := w)
    (fun i c hi hc => by rw [hget_cons, if_neg (fun e => hi e.symm)] at hc; exact ⟨hc, .inl rfl⟩) (by rw [hget_cons, if_pos rfl])
    (by rw [hsame]; exact ⟨g, cur, e1, e2, by rw [List.length_set]; exact e3.1, fun k x y hx hy => by
      rw [List.getElem?_set] at hx
      by_cases hjk : j = k
      · subst hjk
        have h5 := e3.2 j .nils y hj hy
        have hjl := (List.getElem?_eq_some_iff.1 hj).1
        rw [if_pos rfl, if_pos hjl] at hx
        cases hx
        have h6 : y = .slice none 0 0 := by
          cases h5 with
          | base _ _ h0 => cases h0; rfl
        rw [h6]; exact hown
      · rw [if_neg hjk] at hx
        exact e3.2 k x y hx hy⟩)
    rfl rfl rfl (Nat.le_refl _) (fun _ _ _ => rfl) (fun g hv => .inl ⟨_, hgb, hv⟩) (.inr rfl)
  rw [hsame] at hnew
  exact ⟨σ, ι1, hnew, t1⟩
end
end Go.Proofs.Ytfjoaeghnfkdlaa
namespace Go.Proofs.Ytfjoaeghnfkdlaa
set_option maxRecDepth 100000
open Go.RowKit Go.MapKept
abbrev mI (m : List (Int × Int)) : Chunk := .sem (mapC (fun n : Int => AV.int .i64 n) m)
end Go.Proofs.Ytfjoaeghnfkdlaa
namespace Go.Proofs.Ytfjoaeghnfkdlaa
set_option maxRecDepth 100000
open Go.RowKit Go.MapKept
section
variable {α : Type}
def mapRK (f : α → AV) (m : List (Int × α)) (σ : Sig) (H : Array Obj) (v : Value) : Prop := ∃ b es clock, v = .map (some b) ∧ H[b]? = some (.map es clock) ∧ ME σ f es.toList m ∧ Stamped es clock ∧ ∀ p ∈ m, rangeP .i64 p.1
def mapK (f : α → AV) (m : List (Int × α)) : SemC where
  rel := mapRK f m
  keep := fun σ σ' H H' v ⟨b, es, clock, h1, h2, h3, h4⟩ hs hw => ⟨b, es, clock, h1, by rw [hw b (.inl (by rw [h1]; rfl))]; exact h2, h3.mono hs, h4⟩
  lt := fun σ H v g ⟨b, es, clock, h1, h2, _⟩ hg => by
    have hg := hg.one (fun vs e => by rw [h1] at e; cases e)
    rw [h1] at hg; simp only [footOf, Option.some.injEq] at hg; subst hg
    exact (Array.getElem?_eq_some_iff.1 h2).1
theorem ME.len {σ : Sig} {f : α → AV} : ∀ {es : List MapEntry} {m : List (Int × α)}, ME σ f es m → es.length = m.length
  | [], [], _ => rfl
  | [], _ :: _, h => h.elim
  | _ :: _, [], h => h.elim
  | _ :: _, _ :: _, ⟨_, _, h⟩ => by rw [List.length_cons, List.length_cons, ME.len h]
theorem ME.key_of {σ : Sig} {f : α → AV} : ∀ {es : List MapEntry} {m : List (Int × α)}, ME σ f es m → ∀ e ∈ es, ∃ p ∈ m, e.key = .int .i64 p.1
  | [], [], _, e, he => by cases he
  | [], _ :: _, h, _, _ => h.elim
  | _ :: _, [], h, _, _ => h.elim
  | e0 :: es, p :: m, ⟨h1, _, h⟩, e, he => by
    rcases List.mem_cons.1 he with rfl | he
    · exact ⟨p, List.mem_cons_self, h1⟩
    · obtain ⟨q, hq, h2⟩ := ME.key_of h e he
      exact ⟨q, List.mem_cons_of_mem _ hq, h2⟩
theorem ME.maps {σ : Sig} {f : α → AV} : ∀ {es : List MapEntry} {m : List (Int × α)}, ME σ f es m → es.map (·.key) = m.map fun p => Value.int .i64 p.1
  | [], [], _ => rfl
  | [], _ :: _, h => h.elim
  | _ :: _, [], h => h.elim
  | _ :: _, _ :: _, ⟨h1, _, h⟩ => by rw [List.map_cons, List.map_cons, h1, ME.maps h]
theorem setM_mem {m : List (Int × α)} {k : Int} {x : α} : ∀ {p}, p ∈ setM m k x → p.1 = k ∨ p ∈ m := by
  induction m with
  | nil => intro p hp; simp only [setM, List.mem_singleton] at hp; subst hp; exact .inl rfl
  | cons q r ih =>
    obtain ⟨k', v⟩ := q
    intro p hp
    rw [setM] at hp
    split at hp
    · rcases List.mem_cons.1 hp with rfl | hp
      · exact .inl rfl
      · exact .inr (List.mem_cons_of_mem _ hp)
    · rcases List.mem_cons.1 hp with rfl | hp
      · exact .inr List.mem_cons_self
      · exact (ih hp).imp id (List.mem_cons_of_mem _)
end
section
variable {P : Program} {n : Md} {Q : Exit → Slots → Heap → Prop} {s : Slots} {h : Heap} {ops : Array Oper} {rest : List Oper} {o : Oper}
theorem Rel.mapNewK {α : Type} {E : Env} {σ : Sig} {ι : Nat → Value} {w : World} (hr : Rel E σ ι h w) {f : α → AV} {m m' : List (Int × α)} {id b clock' : Nat} {es' : Array MapEntry} (hg : hget h id = some (.sem (mapK f m))) (hb : ι id = .map (some b)) (hlt : b < w.heap.size)
    (hE : ME σ f es'.toList m') (hst : Stamped es' clock') (hrg : ∀ p ∈ m', rangeP .i64 p.1) : Rel E σ ι ((id, .sem (mapK f m')) :: h) { w with heap := w.heap.setIfInBounds b (.map es' clock') } := by
  have hsame : upd ι id (ι id) = ι := by funext i; unfold upd; split <;> simp_all
  have hnew := hr.turn (id := id) (u := ι id) (h' := (id, .sem (mapK f m')) :: h) (c' := .sem (mapK f m')) (w' := { w with heap := w.heap.setIfInBounds b (.map es' clock') })
    (fun i c hi hc => by rw [hget_cons, if_neg (fun e => hi e.symm)] at hc; exact ⟨hc, .inl rfl⟩) (by rw [hget_cons, if_pos rfl])
    (by rw [hsame]; exact ⟨b, es', clock', hb, by simp [hlt], hE, hst, hrg⟩)
    rfl rfl rfl (by simp) (fun k hk hne => by
      have : k ≠ b := fun e => hne _ hg (by rw [hb, e]; rfl)
      simp [Ne.symm this])
    (fun g2 hg2 => .inl ⟨_, hg, hg2⟩) (.inr rfl)
  rw [hsame] at hnew
  exact hnew
theorem sto_mapK {α : Type} {f : α → AV} {m : List (Int × α)} {t kt et : TypeId} {x y z : Operand} {id : Nat} {k : Int} (a : α) (ho : o.op = .mapUpdate t x y z) (ht : mapE P t = some (kt, et)) (hx : evA s x = .own id) (hg : hget h id = some (.sem (mapK f m))) (hy : evA s y = .int .i64 k)
    (hz : evA s z = f a) (hp : pureA (f a) = true) : StO P o s h ((id, .sem (mapK f (setM m k a))) :: h) := fun E σ ι act w hr hop => by
  have hX : VR σ ι (evA s x) (act.eval x) := hop x (by rw [ho]; simp [Op.operands])
  have hY : VR σ ι (evA s y) (act.eval y) := hop y (by rw [ho]; simp [Op.operands])
  have hZ : VR σ ι (evA s z) (act.eval z) := hop z (by rw [ho]; simp [Op.operands])
  rw [hx] at hX
  rw [hy] at hY
  rw [hz] at hZ
  obtain ⟨hm, hd⟩ := mapE_spec ht
  obtain ⟨b, es, clock, h1, h2, h3, hst, hrg⟩ := hr.ch id _ hg
  have hlt : b < w.heap.size := (Array.getElem?_eq_some_iff.1 h2).1
  have hV := hZ.pure hp
  have ex := hX.own_inv.trans h1
  have ey := hY.int_inv.1
  have hrg' : ∀ p ∈ setM m k a, rangeP .i64 p.1 := fun p hp => by
    rcases setM_mem hp with e | hp
    · rw [e]; exact hY.int_inv.2
    · exact hrg p hp
  have hik : IsKey (.int .i64) (.int .i64 k) := rfl
  rcases h3.find k 0 with ⟨g1, g2⟩ | ⟨e1, e, e2, m1, v, m2, ges, rfl, g3, g4, g5, g6, g7, g8, g9⟩
  · refine ⟨{ w with heap := w.heap.setIfInBounds b (.map (es.push { key := .int .i64 k, val := act.eval z, born := clock }) (clock + 1)) }, ?_, hr.mapNewK hg h1 hlt ?_ ?_ hrg'⟩
    · simp [execOp, ho, ex, ey, Instr.mapUpdate, run_underlying hm, Go.MapKept.run_getObj_map h2, Go.MapKept.run_checkKey hd hik, Go.MapKept.run_findKey hd g1, Go.MapKept.run_setObj_map _ h2, Result.andThen]
    · rw [setM_no g2, Array.toList_push]
      exact h3.app ⟨rfl, hV, trivial⟩
    · exact stamped_push hst fun x hx e => by
        obtain ⟨p, hp, e2⟩ := ME.key_of h3 x hx
        rw [e] at e2
        exact g2 p hp (by simpa using e2.symm)
  · rw [Nat.zero_add] at g9
    have hj : es[e1.length]? = some e := by rw [← Array.getElem?_toList, ges]; simp
    refine ⟨{ w with heap := w.heap.setIfInBounds b (.map (es.modify e1.length fun e => { e with key := .int .i64 k, val := act.eval z }) clock) }, ?_, hr.mapNewK hg h1 hlt ?_ ?_ hrg'⟩
    · simp [execOp, ho, ex, ey, Instr.mapUpdate, run_underlying hm, Go.MapKept.run_getObj_map h2, Go.MapKept.run_checkKey hd hik, Go.MapKept.run_findKey hd g9, hj, g7, Go.MapKept.run_keyThatStays hik, Go.MapKept.run_setObj_map _ h2, Result.andThen]
    · rw [(M_at g4 a).2.1]
      have hmod : (es.modify e1.length fun e => { e with key := .int .i64 k, val := act.eval z }).toList = e1 ++ { e with key := .int .i64 k, val := act.eval z } :: e2 := by
        rw [Array.toList_modify, ges]
        exact modify_at e1 e e2 _
      rw [hmod]
      exact g5.app ⟨rfl, hV, g6⟩
    · exact stamped_modify hst _ _ (fun _ _ => rfl) fun e' _ hj' => by
        rw [hj] at hj'; cases hj'; exact g7.symm
theorem ao_mmK {α : Type} {t : TypeId} (id : Nat) (f : α → AV) (ho : o.op = .makeMap t none) (hf : freshAll id s h = true) (hgd : o.guard = none) (hdo : dstOk n o.dst = true)
    (hk : O P n ops Q rest (putS s o.dst (.own id)) ((id, .sem (mapK f [])) :: h)) : O P n ops Q (o :: rest) s h := ⟨aops_one hgd fun E σ ι a w hr ht => by
  simp only [freshAll, Bool.and_eq_true, Nat.ble_eq] at hf
  unfold Oper.wp
  have hrun : (execOp a.eval o).run P w = .ok (.value (.map (some w.heap.size))) (w.alloc (.map #[] 0)) := by
    simp [execOp, ho, Instr.makeMap, Result.andThen]
  rw [hrun]
  have hkeep : ∀ g, g < w.heap.size → (w.alloc (.map #[] 0)).heap[g]? = w.heap[g]? := fun g hg => Below.heap_alloc _ _ _ hg
  have hnew := hr.turn (id := id) (u := .map (some w.heap.size)) (h' := (id, .sem (mapK f [])) :: h) (c' := .sem (mapK f [])) (w' := w.alloc (.map #[] 0))
    (fun i c hi hc => by
      rw [hget_cons, if_neg (fun e => hi e.symm)] at hc
      exact ⟨hc, .inr (freshH_get hf.2 i c hc).2⟩)
    (by rw [hget_cons, if_pos rfl])
    (by show mapRK f [] _ _ _; rw [upd_eq]; exact ⟨w.heap.size, #[], 0, rfl, heap_alloc_new w _, trivial, stamped_empty 0, fun p hp => by cases hp⟩)
    rfl rfl rfl (by simp) (fun k hk _ => hkeep k hk) (fun g hv => by cases hv; exact .inr (Nat.le_refl _)) (.inl hf.1.1)
  refine hk.out E σ _ _ _ hnew ((ht.upd hf.1.1 hf.1.2 _).putS hdo ?_)
  have h5 := VR.own (σ := σ) (ι := upd ι id (.map (some w.heap.size))) id (by rw [upd_eq]; rfl)
  rwa [upd_eq] at h5⟩
theorem ok_lookH {α : Type} {f : α → AV} {m : List (Int × α)} {t kt et : TypeId} {x y : Operand} {id : Nat} {k : Int} (v : α) (ho : o.op = .lookup t x y false) (ht : mapE P t = some (kt, et)) (hx : evA s x = .own id) (hg : hget h id = some (.sem (mapK f m))) (hy : evA s y = .int .i64 k)
    (hv : getM m k = some v) : OkO P o s h (f v) := by
  refine ok_of_run fun E σ ι a w hr hop => ?_
  have hX : VR σ ι (evA s x) (a.eval x) := hop x (by rw [ho]; simp [Op.operands])
  have hY : VR σ ι (evA s y) (a.eval y) := hop y (by rw [ho]; simp [Op.operands])
  rw [hx] at hX
  rw [hy] at hY
  obtain ⟨hm, hd⟩ := mapE_spec ht
  obtain ⟨r, es, clock, h1, h2, h3, hst, hrg⟩ := hr.ch id _ hg
  have ex := hX.own_inv.trans h1
  have ey := hY.int_inv.1
  have hik : IsKey (.int .i64) (.int .i64 k) := rfl
  rcases h3.find k 0 with ⟨g1, g2⟩ | ⟨e1, e, e2, m1, v', m2, ges, rfl, g3, g4, g5, g6, g7, g8, g9⟩
  · rw [getM_no g2] at hv; cases hv
  · have h5 := (M_at (m2 := m2) (v := v') g4 v').1
    rw [h5] at hv; cases hv
    refine ⟨e.val, ?_, .base _ _ g8⟩
    simp [execOp, ho, ex, ey, Instr.lookup, run_underlying hm, Go.MapKept.run_getObj_map h2, Go.MapKept.run_checkKey hd hik, Go.MapKept.run_findKey hd g9, Result.andThen]
end
end Go.Proofs.Ytfjoaeghnfkdlaa
namespace Go.Proofs.Ytfjoaeghnfkdlaa
set_option maxRecDepth 100000
open Go.RowKit Go.ChangeShapes Go.WideShapes

structure Instr where
  op : Int
  a : Int
  b : Int
  c : Int
  n : Int
instance : Inhabited Instr := ⟨⟨0, 0, 0, 0, 0⟩⟩
theorem Instr.ext_ {x y : Instr} (h : x.op = y.op ∧ x.a = y.a ∧ x.b = y.b ∧ x.c = y.c ∧ x.n = y.n) : x = y := by cases x; cases y; simp_all
instance : DecidableEq Instr := fun x y => decidable_of_iff (x.op = y.op ∧ x.a = y.a ∧ x.b = y.b ∧ x.c = y.c ∧ x.n = y.n) ⟨Instr.ext_, fun h => by subst h; simp⟩
def Instr.cells (x : Instr) : List Value := [.int .i64 x.op, .int .i64 x.a, .int .i64 x.b, .int .i64 x.c, .int .u32 x.n]
def Instr.ok (x : Instr) : Prop := (Lit.int .i64 x.op).wf = true ∧ (Lit.int .i64 x.a).wf = true ∧ (Lit.int .i64 x.b).wf = true ∧ (Lit.int .i64 x.c).wf = true ∧ (Lit.int .u32 x.n).wf = true
def Instr.cod : Cod Instr := fun _ cs x => cs = x.cells ∧ x.ok
theorem Instr.mono : Mono Instr.cod := fun _ _ _ _ _ h => h
theorem Instr.size {w : World} {cs : List Value} {x : Instr} (h : Instr.cod w cs x) : cs.length = 5 := by rw [h.1]; rfl
theorem Instr.at {w : World} {b off : Nat} {xs : List Instr} (h : Row' Instr.cod 5 w b off xs) (i : Nat) (hi : i < xs.length) :
    w.cell? ⟨b, off + i * 5, none⟩ = some (.int .i64 xs[i].op) ∧ w.cell? ⟨b, off + i * 5 + 1, none⟩ = some (.int .i64 xs[i].a) ∧ w.cell? ⟨b, off + i * 5 + 2, none⟩ = some (.int .i64 xs[i].b) ∧ w.cell? ⟨b, off + i * 5 + 3, none⟩ = some (.int .i64 xs[i].c) ∧ w.cell? ⟨b, off + i * 5 + 4, none⟩ = some (.int .u32 xs[i].n) ∧ xs[i].ok := by
  obtain ⟨cs, hx, _, hc⟩ := h i xs[i] (List.getElem?_eq_getElem hi)
  obtain ⟨rfl, hk⟩ := hx
  exact ⟨hc 0 _ rfl, hc 1 _ rfl, hc 2 _ rfl, hc 3 _ rfl, hc 4 _ rfl, hk⟩
theorem Instr.run_eqIn (x y : Instr) (w : World) : (Op.equalIn 10000 194 (.agg #[.int .i64 x.op, .int .i64 x.a, .int .i64 x.b, .int .i64 x.c, .int .u32 x.n]) (.agg #[.int .i64 y.op, .int .i64 y.a, .int .i64 y.b, .int .i64 y.c, .int .u32 y.n])).run Try.prog w = .ok (decide (x = y)) w := by
  have hs : Try.prog.stoodInHeld 194 = false := by kernel_rfl
  rw [run_equalIn_agg w 9999 194 _ _ (by simp only [Program.fieldsOf, Try.underlying194]) hs]
  simp only [Program.fieldsOf, Try.underlying194]
  simp [go_sem]
  by_cases h : x = y
  · subst h; simp
  · rw [show decide (x = y) = false from by simp [h]]
    repeat' split
    all_goals first | rfl | exact absurd (Instr.ext_ ⟨by assumption, by assumption, by assumption, by assumption, by assumption⟩) h
theorem Instr.run_guard (op : BinOp) (xo yo : Operand) (xs ys : Array Value) (w : World) : (eqGuard op 194 xo yo (.agg xs) (.agg ys)).run Try.prog w = .ok () w := run_eqGuard_agg w op 194 xo yo xs ys (by kernel_rfl)
end Go.Proofs.Ytfjoaeghnfkdlaa
namespace Go.Proofs.Ytfjoaeghnfkdlaa
set_option maxRecDepth 100000
open Go.RowKit Go.ChangeShapes Go.WideShapes

structure Task where
  kind : Int
  prio : Int
  period : Int
  offset : Int
  deadline : Int
  own : Int
  code : List Instr
instance : Inhabited Task := ⟨⟨0, 0, 0, 0, 0, 0, []⟩⟩
theorem Task.ext_ {x y : Task} (h : x.kind = y.kind ∧ x.prio = y.prio ∧ x.period = y.period ∧ x.offset = y.offset ∧ x.deadline = y.deadline ∧ x.own = y.own ∧ x.code = y.code) : x = y := by cases x; cases y; simp_all
instance : DecidableEq Task := fun x y => decidable_of_iff (x.kind = y.kind ∧ x.prio = y.prio ∧ x.period = y.period ∧ x.offset = y.offset ∧ x.deadline = y.deadline ∧ x.own = y.own ∧ x.code = y.code) ⟨Task.ext_, fun h => by subst h; simp⟩
def Task.ok (x : Task) : Prop := (Lit.int .i64 x.kind).wf = true ∧ (Lit.int .i64 x.prio).wf = true ∧ (Lit.int .i64 x.period).wf = true ∧ (Lit.int .i64 x.offset).wf = true ∧ (Lit.int .i64 x.deadline).wf = true ∧ (Lit.int .i64 x.own).wf = true
def Task.cod : Cod Task := fun w cs x => ∃ (A_code : Option Addr) (c_code : Nat), cs = [.int .i64 x.kind, .int .i64 x.prio, .int .i64 x.period, .int .i64 x.offset, .int .i64 x.deadline, .int .i64 x.own, .slice A_code x.code.length c_code] ∧ x.ok ∧ x.code.length ≤ c_code ∧ c_code ≤ maxLen ∧ Row Instr.cod 5 w A_code x.code
theorem Task.mono : Mono Task.cod := fun _ _ _ _ he ⟨A_code, c_code, h, hk, l_code, m_code, r_code⟩ => ⟨A_code, c_code, h, hk, l_code, m_code, r_code.ext Instr.mono he⟩
theorem Task.size {w : World} {cs : List Value} {x : Task} (h : Task.cod w cs x) : cs.length = 7 := by obtain ⟨A_code, c_code, h, _⟩ := h; rw [h]; rfl
theorem Task.at {w : World} {b off : Nat} {xs : List Task} (h : Row' Task.cod 7 w b off xs) (i : Nat) (hi : i < xs.length) :
    ∃ (A_code : Option Addr) (c_code : Nat), w.cell? ⟨b, off + i * 7, none⟩ = some (.int .i64 xs[i].kind) ∧ w.cell? ⟨b, off + i * 7 + 1, none⟩ = some (.int .i64 xs[i].prio) ∧ w.cell? ⟨b, off + i * 7 + 2, none⟩ = some (.int .i64 xs[i].period) ∧ w.cell? ⟨b, off + i * 7 + 3, none⟩ = some (.int .i64 xs[i].offset) ∧ w.cell? ⟨b, off + i * 7 + 4, none⟩ = some (.int .i64 xs[i].deadline) ∧ w.cell? ⟨b, off + i * 7 + 5, none⟩ = some (.int .i64 xs[i].own) ∧ w.cell? ⟨b, off + i * 7 + 6, none⟩ = some (.slice A_code xs[i].code.length c_code) ∧ xs[i].ok ∧ xs[i].code.length ≤ c_code ∧ c_code ≤ maxLen ∧ Row Instr.cod 5 w A_code xs[i].code := by
  obtain ⟨cs, hx, _, hc⟩ := h i xs[i] (List.getElem?_eq_getElem hi)
  obtain ⟨A_code, c_code, rfl, hk, l_code, m_code, r_code⟩ := hx
  exact ⟨A_code, c_code, hc 0 _ rfl, hc 1 _ rfl, hc 2 _ rfl, hc 3 _ rfl, hc 4 _ rfl, hc 5 _ rfl, hc 6 _ rfl, hk, l_code, m_code, r_code⟩
end Go.Proofs.Ytfjoaeghnfkdlaa
namespace Go.Proofs.Ytfjoaeghnfkdlaa
set_option maxRecDepth 100000
open Go.RowKit
def eInstr (x : Instr) : List AV := [.int .i64 x.op, .int .i64 x.a, .int .i64 x.b, .int .i64 x.c, .int .u32 x.n]
theorem br_Instr : Br Instr.cod eInstr := fun w cs x ⟨h1, h2⟩ => by
  subst h1
  obtain ⟨h_op, h_a, h_b, h_c, h_n⟩ := h2
  exact (((((L2.nil _).cons (.int _ _ (rangeP_wf.2 h_n))).cons (.int _ _ (rangeP_wf.2 h_c))).cons (.int _ _ (rangeP_wf.2 h_b))).cons (.int _ _ (rangeP_wf.2 h_a))).cons (.int _ _ (rangeP_wf.2 h_op))
end Go.Proofs.Ytfjoaeghnfkdlaa
namespace Go.Proofs.Ytfjoaeghnfkdlaa
set_option maxRecDepth 100000
open Go.RowKit
def eTask (x : Task) : List AV := [.int .i64 x.kind, .int .i64 x.prio, .int .i64 x.period, .int .i64 x.offset, .int .i64 x.deadline, .int .i64 x.own, .lst 5 (x.code.map eInstr)]
theorem br_Task : Br Task.cod eTask := fun w cs x ⟨A_code, c_code, h1, hk, l_code, m_code, r_code⟩ => by
  subst h1
  obtain ⟨h_kind, h_prio, h_period, h_offset, h_deadline, h_own⟩ := hk
  exact (((((((L2.nil _).cons (br_row br_Instr (fun _ => rfl) r_code l_code m_code)).cons (.int _ _ (rangeP_wf.2 h_own))).cons (.int _ _ (rangeP_wf.2 h_deadline))).cons (.int _ _ (rangeP_wf.2 h_offset))).cons (.int _ _ (rangeP_wf.2 h_period))).cons (.int _ _ (rangeP_wf.2 h_prio))).cons (.int _ _ (rangeP_wf.2 h_kind))
end Go.Proofs.Ytfjoaeghnfkdlaa
namespace Go.Proofs.Ytfjoaeghnfkdlaa
set_option maxRecDepth 100000
set_option maxRecDepth 100000
open Go.RowKit
def inT (n : Int) : Int := max 0 (min n 1099511627776)
def addT (a b : Int) : Int := inT (inT a + inT b)
theorem inT_le (n : Int) : 0 ≤ inT n ∧ inT n ≤ 1099511627776 := by unfold inT; omega
def eLI (x : List Int) : List AV := [.lst 1 (x.map eI)]
theorem wclamp_fn (n low high : Int) : Fn Try.prog 126 [.int .i64 n, .int .i64 low, .int .i64 high] (.int .i64 (max low (min n high))) := by
  refine fnb Try.func126 (entered_of (by kernel_rfl)) rfl rfl rfl ?_
  repeat' (first | refine sA ?_ | ((first | apply kM | apply kN); (iterate 3 (· exact rfl)); (· first | exact ya)) | refine sG ?_ | (refine sK ?_ ?_ <;> intro hc <;> (try simp only [KL, sL, reduceCtorEq] at hc) <;> (try (have hT : True := hc; clear hT hc)) <;> (try (exfalso; omega))))
  exact retq rfl rfl
theorem inside_fn (n : Int) : Fn Try.prog 119 [.int .i64 n] (.int .i64 (inT n)) := by
  refine fnb Try.func119 (entered_of (by kernel_rfl)) rfl rfl rfl ?_
  repeat' (first | refine sA ?_ | ((first | apply kM | apply kN); (iterate 3 (· exact rfl)); (· first | exact ya | exact q_c (wclamp_fn _ _ _) rfl)) | refine sG ?_ | (refine sK ?_ ?_ <;> intro hc <;> (try simp only [KL, sL, reduceCtorEq] at hc) <;> (try (have hT : True := hc; clear hT hc)) <;> (try (exfalso; omega))))
  exact retq rfl rfl
theorem wadd_fn (a b : Int) : Fn Try.prog 106 [.int .i64 a, .int .i64 b] (.int .i64 (addT a b)) := by
  have h1 := inT_le a
  have h2 := inT_le b
  refine fnb Try.func106 (entered_of (by kernel_rfl)) rfl rfl rfl ?_
  repeat' (first | refine sA ?_ | ((first | apply kM | apply kN); (iterate 3 (· exact rfl)); (· first | exact ya | exact q_c (inside_fn _) rfl)) | refine sG ?_ | (refine sK ?_ ?_ <;> intro hc <;> (try simp only [KL, sL, reduceCtorEq] at hc) <;> (try (have hT : True := hc; clear hT hc)) <;> (try (exfalso; omega))))
  exact retq rfl rfl
abbrev mJ (m : List (Int × Job)) : Chunk := .sem (mapK (fun j : Job => AV.agg (eJob j)) m)
abbrev mD (m : List (Int × Due)) : Chunk := .sem (mapK (fun d : Due => AV.agg (eDue d)) m)
abbrev bdH (l : List Task) (dm : List (List Int)) (T : List Int) (m1 : List (Int × Job)) (m2 : List (Int × Due)) : Heap :=
  [(4, .row 3 1 (T.map eI)), (0, .blk 115 [.lst 7 (l.map eTask), .lst 1 (dm.map eLI), .own 4, .own 2, .own 3]), (2, mJ m1), (3, mD m2)]
def stepsF (dm : List (List Int)) (i no : Int) : Int := if (dm.length : Int) ≤ i ∨ ((dm.getD i.toNat default).length : Int) ≤ no then 1 else max 1 ((dm.getD i.toNat default).getD no.toNat default)
theorem steps30_fn (l : List Task) (dm : List (List Int)) (T : List Int) (m1 : List (Int × Job)) (m2 : List (Int × Due)) (i no : Int) (hi : 0 ≤ i) (hn : 0 ≤ no) : FnH Try.prog 118 [.ptr 0 0, .int .i64 i, .int .i64 no] (bdH l dm T m1 m2) (fun r h' => r = .int .i64 (stepsF dm i no) ∧ h' = bdH l dm T m1 m2) := by
  refine fnhb Try.func118 (entered_of (by kernel_rfl)) rfl rfl ?_
  by_cases h1 : (dm.length : Int) ≤ i
  · repeat' (first | refine sA ?_ | ((first | apply kM | apply kN); (iterate 3 (· exact rfl)); (· first | exact ya)) | refine sG ?_ | (refine sK ?_ ?_ <;> intro hc <;> (try simp only [KL, sL, reduceCtorEq] at hc) <;> (try (have hT : True := hc; clear hT hc)) <;> (try (exfalso; omega))))
    all_goals first | (exfalso; omega) | exact retq rfl ⟨by rw [stepsF, if_pos (.inl h1)], rfl⟩
  by_cases h2 : ((dm.getD i.toNat default).length : Int) ≤ no
  · repeat' (first | refine sA ?_ | ((first | apply kM | apply kN); (iterate 3 (· exact rfl)); (· first | exact ya)) | refine sG ?_ | (refine sK ?_ ?_ <;> intro hc <;> (try simp only [KL, sL, reduceCtorEq] at hc) <;> (try (have hT : True := hc; clear hT hc)) <;> (try (exfalso; omega))))
    all_goals first | (exfalso; omega) | exact retq rfl ⟨by rw [stepsF, if_pos (.inr h2)], rfl⟩
  · repeat' (first | refine sA ?_ | ((first | apply kM | apply kN); (iterate 3 (· exact rfl)); (· first | exact ya)) | refine sG ?_ | (refine sK ?_ ?_ <;> intro hc <;> (try simp only [KL, sL, reduceCtorEq] at hc) <;> (try (have hT : True := hc; clear hT hc)) <;> (try (exfalso; omega))))
    all_goals first | (exfalso; omega) | exact retq rfl ⟨by rw [stepsF, if_neg (by omega)], rfl⟩
def stepJ (most : Int) (j : Job) (t : Nat) : Job := { j with start := if j.steps = 0 then (t : Int) else j.start, steps := j.steps + 1, fin := if j.steps + 1 = most then (t : Int) + 1 else j.fin }
def giveL (most : Int) : Nat → List Int → Job → Nat → List Int × Job
  | 0, T, j, t => (T, j)
  | n + 1, T, j, t => if j.steps < most then (if T.getD t default = -1 then giveL most n (T.set t j.task) (stepJ most j t) (t + 1) else giveL most n T j (t + 1)) else (T, j)
def missJ (N : Nat) (j : Job) : Job := { j with missed := decide ((j.fin < 0 ∨ j.deadline < j.fin) ∧ j.deadline < N) }
def giveF (dm : List (List Int)) (T : List Int) (j : Job) : List Int × Job :=
  let r := giveL (stepsF dm j.task j.no) (T.length - j.release.toNat) T j j.release.toNat
  (r.1, missJ T.length r.2)
theorem giveL_len (most : Int) : ∀ (n : Nat) (T : List Int) (j : Job) (t : Nat), (giveL most n T j t).1.length = T.length
  | 0, _, _, _ => rfl
  | n + 1, T, j, t => by
    rw [giveL]
    split
    · split
      · rw [giveL_len most n]; simp
      · exact giveL_len most n T j (t + 1)
    · rfl
set_option maxHeartbeats 4000000 in
theorem give30_fn (l : List Task) (dm : List (List Int)) (T : List Int) (m1 : List (Int × Job)) (m2 : List (Int × Due)) (j : Job) (hi : 0 ≤ j.task) (hn : 0 ≤ j.no) (hr : 0 ≤ j.release ∧ j.release ≤ T.length) (hT : T.length ≤ 100000) (hs : j.steps = 0) (hm : j.missed = false) :
    FnH Try.prog 105 [.ptr 0 0, .agg (eJob j)] (bdH l dm T m1 m2) (fun r h' => r = .agg (eJob (giveF dm T j).2) ∧ h' = bdH l dm (giveF dm T j).1 m1 m2) := by
  refine FnH.drop' (fnhb Try.func105 (entered_of (by kernel_rfl)) rfl rfl ?_)
  repeat' (first | refine sA ?_ | (show O _ _ _ _ _ _ _; first | (show O _ _ _ _ (⟨_, .box _ _, _, _, _, _⟩ :: _) _ _; first | refine ao_box (id := 10) rfl rfl rfl rfl rfl rfl rfl rfl ?_) | refine ao_alloc (id := 11) rfl rfl rfl rfl rfl rfl rfl ?_) | ((first | apply kM | apply kN); (iterate 3 (· exact rfl)); (· first | exact yab)) | refine sG ?_ | (refine sK ?_ ?_ <;> intro hc <;> (try simp only [KL, sL, reduceCtorEq] at hc) <;> (try (have hT : True := hc; clear hT hc)) <;> (try (exfalso; omega))))
  refine zcall (fun i => i) (steps30_fn l dm T m1 m2 j.task j.no hi hn) rfl rfl leh rfl rfl rfl rfl rfl rfl (fun r h' hR => ?_)
  obtain ⟨rfl, rfl⟩ := hR
  refine ⟨rfl, rfl, ?_⟩
  obtain ⟨t0, ht0⟩ : ∃ t0 : Nat, j.release = t0 := ⟨j.release.toNat, by omega⟩
  obtain ⟨most, hmost⟩ : ∃ most, most = stepsF dm j.task j.no := ⟨_, rfl⟩
  rw [← hmost]
  repeat' (first | refine sA ?_ | ((first | apply kM | apply kN); (iterate 3 (· exact rfl)); (· first | exact ya)) | refine sG ?_ | (refine sK ?_ ?_ <;> intro hc <;> (try simp only [KL, sL, reduceCtorEq] at hc) <;> (try (have hT : True := hc; clear hT hc)) <;> (try (exfalso; omega))))
  have e0 : giveF dm T j = ((giveL most (T.length - t0) T j t0).1, missJ T.length (giveL most (T.length - t0) T j t0).2) := by
    rw [giveF, hmost, ht0]; simp
  rw [e0]
  refine wloop (fun z : Nat × List Int × Job => ([(0, .ptr 0 0), (3, .ptr 10 0), (4, .ptr 11 0), (5, .int .i64 most), (6, .int .i64 z.1)], bdH l dm z.2.1 m1 m2 ++ [(10, .blk 74 (eJob z.2.2)), (11, .blk 74 (eJob ⟨0, 0, 0, 0, 0, 0, 0, false⟩))]))
    (fun z => z.1 ≤ T.length ∧ z.2.1.length = T.length ∧ z.2.2.task = j.task ∧ 0 ≤ z.2.2.steps ∧ z.2.2.steps ≤ z.1 ∧ giveL most (T.length - z.1) z.2.1 z.2.2 z.1 = giveL most (T.length - t0) T j t0) (fun z => T.length - z.1) (t0, T, j) ⟨by simp only; omega, rfl, rfl, by simp only [hs]; omega, by simp only [hs]; omega, rfl⟩ (by simp only [← ht0]; exact les) leh (fun z hz => ?_)
  obtain ⟨t, T', j'⟩ := z
  obtain ⟨h1, h2, h3, h4, h5, h6⟩ := hz
  simp only at h1 h2 h3 h4 h5 h6 ⊢
  rw [← h6]
  by_cases hgo : t < T.length ∧ j'.steps < most
  · have e1 : T.length - t = (T.length - (t + 1)) + 1 := by omega
    by_cases hT1 : T'.getD t default = -1
    · rw [e1, giveL, if_pos hgo.2, if_pos hT1] at h6 ⊢
      by_cases hs0 : j'.steps = 0
      · by_cases hs1 : j'.steps + 1 = most
        · have e2 : stepJ most j' t = ⟨j'.task, j'.no, j'.release, j'.deadline, (t : Int), (t : Int) + 1, j'.steps + 1, j'.missed⟩ := by simp only [stepJ, if_pos hs0, if_pos hs1]
          rw [e2] at h6 ⊢
          repeat' (first | (show W _ _ _ _ _ _; first | refine wdrawS rfl (by kernel_rfl) (by kernel_rfl) (by kernel_rfl) ?_ | apply kA | refine kB rfl ?_ | refine kC rfl rfl ?_ | refine kD rfl rfl ?_ | apply kE | apply kF | apply kG | apply kH | refine kI (by kernel_rfl) (by kernel_rfl) ?_) | (show O _ _ _ _ _ _ _; first | (show O _ _ _ _ (⟨_, .store _ _ _, _, _, _, _⟩ :: _) _ _; refine kJ rfl rfl rfl rfl rfl rfl rfl rfl rfl rfl rfl ?_) | apply kK) | apply kL | ((first | apply kM | apply kN); (iterate 3 (· exact rfl)); (· first | exact ya)) | (show F _ _ _ _ _ _ _ _ _ _ _; first | refine fnil ?_ | (apply f_ld; (· exact rfl); (· exact rfl); (· first | exact yp)) | refine f_se (x' := j'.task) rfl rfl rfl rfl rfl rfl rfl rfl rfl (by (first | rfl | omega | (simp only [List.length_set]; omega) | simp only [List.length_set])) (by (first | rfl | omega | (simp only [List.length_set]; omega) | simp only [List.length_set])) ?_ | (apply f_k; (· exact rfl); (· intro y' hy'; first | exact ya))) | refine kO rfl rfl rfl rfl rfl ?_ | refine kP rfl rfl rfl ?_ | ((first | refine kQ rfl rfl ?_ ?_ | refine kR rfl rfl rfl rfl rfl ?_ ?_ | refine kS rfl rfl rfl ?_ ?_) <;> intro hc <;> (try simp only [KL, cond_true, cond_false, beq_iff_eq, bne_iff_ne, ne_eq, reduceCtorEq] at hc) <;> (try (have hT : True := hc; clear hT hc)) <;> (try (exfalso; omega))) | apply kT | apply kU | apply kV | apply kW | refine kX rfl ?_ | apply kY | apply kZ)
          all_goals first | (exfalso; omega) | skip
          exact ⟨(t + 1, T'.set t j'.task, ⟨j'.task, j'.no, j'.release, j'.deadline, (t : Int), (t : Int) + 1, j'.steps + 1, j'.missed⟩), ⟨by simp only; omega, by simp only [List.length_set]; exact h2, h3, by simp only; omega, by simp only; omega, rfl⟩, by simp only; omega, les, leh⟩
        · have e2 : stepJ most j' t = ⟨j'.task, j'.no, j'.release, j'.deadline, (t : Int), j'.fin, j'.steps + 1, j'.missed⟩ := by simp only [stepJ, if_pos hs0, if_neg hs1]
          rw [e2] at h6 ⊢
          repeat' (first | (show W _ _ _ _ _ _; first | refine wdrawS rfl (by kernel_rfl) (by kernel_rfl) (by kernel_rfl) ?_ | apply kA | refine kB rfl ?_ | refine kC rfl rfl ?_ | refine kD rfl rfl ?_ | apply kE | apply kF | apply kG | apply kH | refine kI (by kernel_rfl) (by kernel_rfl) ?_) | (show O _ _ _ _ _ _ _; first | (show O _ _ _ _ (⟨_, .store _ _ _, _, _, _, _⟩ :: _) _ _; refine kJ rfl rfl rfl rfl rfl rfl rfl rfl rfl rfl rfl ?_) | apply kK) | apply kL | ((first | apply kM | apply kN); (iterate 3 (· exact rfl)); (· first | exact ya)) | (show F _ _ _ _ _ _ _ _ _ _ _; first | refine fnil ?_ | (apply f_ld; (· exact rfl); (· exact rfl); (· first | exact yp)) | refine f_se (x' := j'.task) rfl rfl rfl rfl rfl rfl rfl rfl rfl (by (first | rfl | omega | (simp only [List.length_set]; omega) | simp only [List.length_set])) (by (first | rfl | omega | (simp only [List.length_set]; omega) | simp only [List.length_set])) ?_ | (apply f_k; (· exact rfl); (· intro y' hy'; first | exact ya))) | refine kO rfl rfl rfl rfl rfl ?_ | refine kP rfl rfl rfl ?_ | ((first | refine kQ rfl rfl ?_ ?_ | refine kR rfl rfl rfl rfl rfl ?_ ?_ | refine kS rfl rfl rfl ?_ ?_) <;> intro hc <;> (try simp only [KL, cond_true, cond_false, beq_iff_eq, bne_iff_ne, ne_eq, reduceCtorEq] at hc) <;> (try (have hT : True := hc; clear hT hc)) <;> (try (exfalso; omega))) | apply kT | apply kU | apply kV | apply kW | refine kX rfl ?_ | apply kY | apply kZ)
          all_goals first | (exfalso; omega) | skip
          exact ⟨(t + 1, T'.set t j'.task, ⟨j'.task, j'.no, j'.release, j'.deadline, (t : Int), j'.fin, j'.steps + 1, j'.missed⟩), ⟨by simp only; omega, by simp only [List.length_set]; exact h2, h3, by simp only; omega, by simp only; omega, rfl⟩, by simp only; omega, les, leh⟩
      · by_cases hs1 : j'.steps + 1 = most
        · have e2 : stepJ most j' t = ⟨j'.task, j'.no, j'.release, j'.deadline, j'.start, (t : Int) + 1, j'.steps + 1, j'.missed⟩ := by simp only [stepJ, if_neg hs0, if_pos hs1]
          rw [e2] at h6 ⊢
          repeat' (first | (show W _ _ _ _ _ _; first | refine wdrawS rfl (by kernel_rfl) (by kernel_rfl) (by kernel_rfl) ?_ | apply kA | refine kB rfl ?_ | refine kC rfl rfl ?_ | refine kD rfl rfl ?_ | apply kE | apply kF | apply kG | apply kH | refine kI (by kernel_rfl) (by kernel_rfl) ?_) | (show O _ _ _ _ _ _ _; first | (show O _ _ _ _ (⟨_, .store _ _ _, _, _, _, _⟩ :: _) _ _; refine kJ rfl rfl rfl rfl rfl rfl rfl rfl rfl rfl rfl ?_) | apply kK) | apply kL | ((first | apply kM | apply kN); (iterate 3 (· exact rfl)); (· first | exact ya)) | (show F _ _ _ _ _ _ _ _ _ _ _; first | refine fnil ?_ | (apply f_ld; (· exact rfl); (· exact rfl); (· first | exact yp)) | refine f_se (x' := j'.task) rfl rfl rfl rfl rfl rfl rfl rfl rfl (by (first | rfl | omega | (simp only [List.length_set]; omega) | simp only [List.length_set])) (by (first | rfl | omega | (simp only [List.length_set]; omega) | simp only [List.length_set])) ?_ | (apply f_k; (· exact rfl); (· intro y' hy'; first | exact ya))) | refine kO rfl rfl rfl rfl rfl ?_ | refine kP rfl rfl rfl ?_ | ((first | refine kQ rfl rfl ?_ ?_ | refine kR rfl rfl rfl rfl rfl ?_ ?_ | refine kS rfl rfl rfl ?_ ?_) <;> intro hc <;> (try simp only [KL, cond_true, cond_false, beq_iff_eq, bne_iff_ne, ne_eq, reduceCtorEq] at hc) <;> (try (have hT : True := hc; clear hT hc)) <;> (try (exfalso; omega))) | apply kT | apply kU | apply kV | apply kW | refine kX rfl ?_ | apply kY | apply kZ)
          all_goals first | (exfalso; omega) | skip
          exact ⟨(t + 1, T'.set t j'.task, ⟨j'.task, j'.no, j'.release, j'.deadline, j'.start, (t : Int) + 1, j'.steps + 1, j'.missed⟩), ⟨by simp only; omega, by simp only [List.length_set]; exact h2, h3, by simp only; omega, by simp only; omega, rfl⟩, by simp only; omega, les, leh⟩
        · have e2 : stepJ most j' t = ⟨j'.task, j'.no, j'.release, j'.deadline, j'.start, j'.fin, j'.steps + 1, j'.missed⟩ := by simp only [stepJ, if_neg hs0, if_neg hs1]
          rw [e2] at h6 ⊢
          repeat' (first | (show W _ _ _ _ _ _; first | refine wdrawS rfl (by kernel_rfl) (by kernel_rfl) (by kernel_rfl) ?_ | apply kA | refine kB rfl ?_ | refine kC rfl rfl ?_ | refine kD rfl rfl ?_ | apply kE | apply kF | apply kG | apply kH | refine kI (by kernel_rfl) (by kernel_rfl) ?_) | (show O _ _ _ _ _ _ _; first | (show O _ _ _ _ (⟨_, .store _ _ _, _, _, _, _⟩ :: _) _ _; refine kJ rfl rfl rfl rfl rfl rfl rfl rfl rfl rfl rfl ?_) | apply kK) | apply kL | ((first | apply kM | apply kN); (iterate 3 (· exact rfl)); (· first | exact ya)) | (show F _ _ _ _ _ _ _ _ _ _ _; first | refine fnil ?_ | (apply f_ld; (· exact rfl); (· exact rfl); (· first | exact yp)) | refine f_se (x' := j'.task) rfl rfl rfl rfl rfl rfl rfl rfl rfl (by (first | rfl | omega | (simp only [List.length_set]; omega) | simp only [List.length_set])) (by (first | rfl | omega | (simp only [List.length_set]; omega) | simp only [List.length_set])) ?_ | (apply f_k; (· exact rfl); (· intro y' hy'; first | exact ya))) | refine kO rfl rfl rfl rfl rfl ?_ | refine kP rfl rfl rfl ?_ | ((first | refine kQ rfl rfl ?_ ?_ | refine kR rfl rfl rfl rfl rfl ?_ ?_ | refine kS rfl rfl rfl ?_ ?_) <;> intro hc <;> (try simp only [KL, cond_true, cond_false, beq_iff_eq, bne_iff_ne, ne_eq, reduceCtorEq] at hc) <;> (try (have hT : True := hc; clear hT hc)) <;> (try (exfalso; omega))) | apply kT | apply kU | apply kV | apply kW | refine kX rfl ?_ | apply kY | apply kZ)
          all_goals first | (exfalso; omega) | skip
          exact ⟨(t + 1, T'.set t j'.task, ⟨j'.task, j'.no, j'.release, j'.deadline, j'.start, j'.fin, j'.steps + 1, j'.missed⟩), ⟨by simp only; omega, by simp only [List.length_set]; exact h2, h3, by simp only; omega, by simp only; omega, rfl⟩, by simp only; omega, les, leh⟩
    · rw [e1, giveL, if_pos hgo.2, if_neg hT1] at h6 ⊢
      repeat' (first | refine sA ?_ | ((first | apply kM | apply kN); (iterate 3 (· exact rfl)); (· first | exact ya)) | refine sG ?_ | (refine sK ?_ ?_ <;> intro hc <;> (try simp only [KL, sL, reduceCtorEq] at hc) <;> (try (have hT : True := hc; clear hT hc)) <;> (try (exfalso; omega))))
      all_goals first | (exfalso; omega) | skip
      exact ⟨(t + 1, T', j'), ⟨by simp only; omega, h2, h3, h4, by simp only; omega, rfl⟩, by simp only; omega, les, leh⟩
  · have e3 : giveL most (T.length - t) T' j' t = (T', j') := by
      cases hn : T.length - t with
      | zero => rfl
      | succ n => rw [giveL, if_neg (by omega)]
    rw [e3]
    simp only
    have e5 : ∀ b, b = decide ((j'.fin < 0 ∨ j'.deadline < j'.fin) ∧ j'.deadline < T.length) → AV.agg (eJob { j' with missed := b }) = AV.agg (eJob (missJ T.length j')) := by rintro _ rfl; rfl
    repeat' (first | refine sB ?_ | ((first | apply kM | apply kN); (iterate 3 (· exact rfl)); (· first | exact ya)) | refine sG ?_ | (refine sK ?_ ?_ <;> intro hc <;> (try simp only [KL, sL, reduceCtorEq] at hc) <;> (try (have hT : True := hc; clear hT hc)) <;> (try (exfalso; omega))))
    all_goals first | (exfalso; omega) | skip
    all_goals refine wdrawC (H := fun y : Bool => bdH l dm T' m1 m2 ++ [(10, .blk 74 [.int .i64 j'.task, .int .i64 j'.no, .int .i64 j'.release, .int .i64 j'.deadline, .int .i64 j'.start, .int .i64 j'.fin, .int .i64 j'.steps, .bool y]), (11, .blk 74 (eJob ⟨0, 0, 0, 0, 0, 0, 0, false⟩))]) (ok := fun _ => True) (tn := [12]) (ln := []) j'.missed leh (by kernel_rfl) (by kernel_rfl) (by kernel_rfl) trivial ?_
    all_goals repeat' (first | refine sA ?_ | ((first | apply kM | apply kN); (iterate 3 (· exact rfl)); (· first | exact ya)) | (show C _ _ _ _ _ _ _ _ _ _ _; first | refine cnil ?_ | (apply c_any; (· exact rfl); (· exact rfl); (· intro y' hy'; first | exact ya)) | (apply c_ld; (· exact rfl); (· exact rfl); (· exact rfl); (· first | exact ya)) | refine c_grdN rfl rfl rfl ?_) | refine sG ?_ | ((first | refine kQ rfl rfl ?_ ?_ | refine kR rfl rfl rfl rfl rfl ?_ ?_ | refine kS rfl rfl rfl ?_ ?_ | refine c_grd rfl rfl rfl ?_ ?_) <;> intro hc <;> (try simp only [KL, sL, reduceCtorEq] at hc) <;> (try (have hT : True := hc; clear hT hc)) <;> (try (exfalso; omega))))
    all_goals first | (refine c_tu (x' := false) rfl rfl trivial (TuO.post (tu_st (sto_B rfl rfl rfl rfl rfl rfl (Nat.le_of_ble_eq_true rfl)) rfl) ?_) ?_; (· repeat' (first | exact LeH.nil _ | refine LeH.cons ?_ ?_ | rfl))) | (refine c_tu (x' := decide (j'.deadline < (T'.length : Int))) rfl rfl trivial (TuO.post (tu_st (sto_B rfl rfl rfl rfl rfl rfl (Nat.le_of_ble_eq_true rfl)) rfl) ?_) ?_; (· repeat' (first | exact LeH.nil _ | refine LeH.cons ?_ ?_ | rfl)))
    all_goals repeat' (first | refine sA ?_ | ((first | apply kM | apply kN); (iterate 3 (· exact rfl)); (· first | exact ya)) | (show C _ _ _ _ _ _ _ _ _ _ _; first | refine cnil ?_ | (apply c_any; (· exact rfl); (· exact rfl); (· intro y' hy'; first | exact ya)) | (apply c_ld; (· exact rfl); (· exact rfl); (· exact rfl); (· first | exact ya)) | refine c_grdN rfl rfl rfl ?_) | refine sG ?_ | ((first | refine kQ rfl rfl ?_ ?_ | refine kR rfl rfl rfl rfl rfl ?_ ?_ | refine kS rfl rfl rfl ?_ ?_ | refine c_grd rfl rfl rfl ?_ ?_) <;> intro hc <;> (try simp only [KL, sL, reduceCtorEq] at hc) <;> (try (have hT : True := hc; clear hT hc)) <;> (try (exfalso; omega))))
    all_goals first | exact retq rfl ⟨bdH l dm T' m1 m2, leh, e5 (false) (by rw [Bool.eq_iff_iff]; (try simp only [cond_true, cond_false, decide_eq_true_eq, Bool.not_eq_true', decide_eq_false_iff_not, Bool.and_eq_true, Bool.or_eq_true, true_iff, false_iff, iff_true, iff_false, Bool.false_eq_true, Bool.not_true, Bool.not_false, reduceCtorEq]); (first | done | omega | (constructor <;> intros <;> omega))), rfl⟩ | exact retq rfl ⟨bdH l dm T' m1 m2, leh, e5 (decide (j'.deadline < (T'.length : Int))) (by rw [Bool.eq_iff_iff]; (try simp only [cond_true, cond_false, decide_eq_true_eq, Bool.not_eq_true', decide_eq_false_iff_not, Bool.and_eq_true, Bool.or_eq_true, true_iff, false_iff, iff_true, iff_false, Bool.false_eq_true, Bool.not_true, Bool.not_false, reduceCtorEq]); (first | done | omega | (constructor <;> intros <;> omega))), rfl⟩
end Go.Proofs.Ytfjoaeghnfkdlaa
namespace Go.Proofs.Ytfjoaeghnfkdlaa
set_option maxRecDepth 100000
set_option maxRecDepth 100000
open Go.RowKit
end Go.Proofs.Ytfjoaeghnfkdlaa
namespace Go.Proofs.Ytfjoaeghnfkdlaa
set_option maxRecDepth 100000
set_option maxRecDepth 100000
open Go.RowKit
end Go.Proofs.Ytfjoaeghnfkdlaa
