/- Abstract values and states: a walk that names no world and no order. No condition. -/
import Derived.Orders
import Derived.WalkKit
import Derived.WalkSpells
import Derived.WalkLawsBesides
import Derived.Below
import Derived.Deep.Slices
import Derived.Deep.Draws
import Derived.Deep.LoopGhost
import Derived.Laws.OwnMore
import Derived.RangeFuncWrites
import Derived.RangeFuncCalls
import Derived.OrdersIn
import Derived.Sort.LoopGhostIn
set_option linter.unusedSimpArgs false
set_option linter.unusedVariables false
set_option maxHeartbeats 1000000
namespace Go.Proofs.YtkkmageogkkchaaGreat
set_option maxRecDepth 100000
open Go.RowKit

inductive AV where
  | undef
  | int (k : IntKind) (n : Int)
  | bool (b : Bool)
  | str (s : ByteArray)
  | nils
  | lst (sz : Nat) (xs : List (List AV))
  | ref (cs : List AV)
  | agg (cs : List AV)
  | tup (vs : List AV)
  | own (id : Nat)
  | ptr (id off : Nat)
  | eptr (id sz i j : Nat)
  | nilp
  | fn (f : Fn) (first captured : List AV)
  | nilf
  deriving Inhabited

def rangeP : IntKind → Int → Prop
  | .i8, n => -128 ≤ n ∧ n ≤ 127
  | .i16, n => -32768 ≤ n ∧ n ≤ 32767
  | .i32, n => -2147483648 ≤ n ∧ n ≤ 2147483647
  | .i64, n => -9223372036854775808 ≤ n ∧ n ≤ 9223372036854775807
  | .u8, n => 0 ≤ n ∧ n ≤ 255
  | .u16, n => 0 ≤ n ∧ n ≤ 65535
  | .u32, n => 0 ≤ n ∧ n ≤ 4294967295
  | .u64, n => 0 ≤ n ∧ n ≤ 18446744073709551615
theorem rangeP_wf {k : IntKind} {n : Int} : rangeP k n ↔ (Lit.int k n).wf = true := by
  cases k <;> simp [rangeP, Lit.wf, IntKind.min, IntKind.max, IntKind.signed, IntKind.bits]
theorem wrap_in {k : IntKind} {n : Int} (h : rangeP k n) : k.wrap n = n := by
  cases k <;> simp only [rangeP] at h <;> simp only [IntKind.wrap, IntKind.signed, IntKind.bits, Bool.true_and, Bool.false_and] <;>
    (try simp only [decide_eq_true_eq, ge_iff_le, Bool.false_eq_true, if_false]) <;> (try split) <;> omega
theorem wrap_range (k : IntKind) (n : Int) : rangeP k (k.wrap n) := by
  cases k <;> simp only [rangeP, IntKind.wrap, IntKind.signed, IntKind.bits, Bool.true_and, Bool.false_and] <;>
    (try simp only [decide_eq_true_eq, ge_iff_le, Bool.false_eq_true, if_false]) <;> (try split) <;> omega

def L2 {α β : Type} (R : α → β → Prop) (xs : List α) (ys : List β) : Prop := xs.length = ys.length ∧ ∀ (j : Nat) (x : α) (y : β), xs[j]? = some x → ys[j]? = some y → R x y
theorem L2.nil {α β : Type} (R : α → β → Prop) : L2 R [] [] := ⟨rfl, fun j x y h => by simp at h⟩
theorem L2.cons {α β : Type} {R : α → β → Prop} {x : α} {y : β} {xs : List α} {ys : List β} (h : R x y) (hs : L2 R xs ys) : L2 R (x :: xs) (y :: ys) :=
  ⟨by simp [hs.1], fun j a b ha hb => by
    cases j with
    | zero => simp at ha hb; subst ha; subst hb; exact h
    | succ j => exact hs.2 j a b (by simpa using ha) (by simpa using hb)⟩
theorem L2.mono {α β : Type} {R R' : α → β → Prop} {xs : List α} {ys : List β} (h : L2 R xs ys) (hm : ∀ x y, R x y → R' x y) : L2 R' xs ys := ⟨h.1, fun j x y a b => hm _ _ (h.2 j x y a b)⟩
theorem L2.append {α β : Type} {R : α → β → Prop} {xs xs' : List α} {ys ys' : List β} (h : L2 R xs ys) (h' : L2 R xs' ys') : L2 R (xs ++ xs') (ys ++ ys') :=
  ⟨by simp [h.1, h'.1], fun j x y hx hy => by
    rw [List.getElem?_append] at hx hy
    by_cases hj : j < xs.length
    · rw [if_pos hj] at hx; rw [if_pos (by rw [← h.1]; exact hj)] at hy; exact h.2 j x y hx hy
    · rw [if_neg hj] at hx; rw [if_neg (by rw [← h.1]; exact hj), ← h.1] at hy; exact h'.2 _ x y hx hy⟩
theorem L2.take {α β : Type} {R : α → β → Prop} {xs : List α} {ys : List β} (h : L2 R xs ys) (n : Nat) : L2 R (xs.take n) (ys.take n) :=
  ⟨by simp [h.1], fun j x y hx hy => by
    rw [List.getElem?_take] at hx hy
    split at hx
    · rename_i hj; rw [if_pos hj] at hy; exact h.2 j x y hx hy
    · cases hx⟩
theorem L2.drop {α β : Type} {R : α → β → Prop} {xs : List α} {ys : List β} (h : L2 R xs ys) (n : Nat) : L2 R (xs.drop n) (ys.drop n) :=
  ⟨by simp [h.1], fun j x y hx hy => h.2 (n + j) x y (by simpa using hx) (by simpa using hy)⟩
theorem L2.set {α β : Type} {R : α → β → Prop} {xs : List α} {ys : List β} (h : L2 R xs ys) (n : Nat) {x : α} {y : β} (hr : R x y) : L2 R (xs.set n x) (ys.set n y) :=
  ⟨by simp [h.1], fun j a b ha hb => by
    rw [List.getElem?_set] at ha hb
    by_cases hj : n = j
    · subst hj
      rw [if_pos rfl] at ha hb
      split at ha
      · rename_i h1; rw [if_pos (by rw [← h.1]; exact h1)] at hb; simp at ha hb; subst ha; subst hb; exact hr
      · cases ha
    · rw [if_neg hj] at ha hb; exact h.2 j a b ha hb⟩
theorem L2.get {α β : Type} {R : α → β → Prop} {xs : List α} {ys : List β} (h : L2 R xs ys) {j : Nat} {x : α} (hx : xs[j]? = some x) : ∃ y, ys[j]? = some y ∧ R x y := by
  have hj : j < ys.length := by rw [← h.1]; exact (List.getElem?_eq_some_iff.1 hx).1
  exact ⟨ys[j], List.getElem?_eq_getElem hj, h.2 j _ _ hx (List.getElem?_eq_getElem hj)⟩
theorem L2.nil_iff {α β : Type} {R : α → β → Prop} {ys : List β} : L2 R [] ys ↔ ys = [] :=
  ⟨fun h => List.eq_nil_of_length_eq_zero (by simpa using h.1.symm), fun h => by subst h; exact L2.nil R⟩
theorem L2.cons_inv {α β : Type} {R : α → β → Prop} {x : α} {xs : List α} {ys : List β} (h : L2 R (x :: xs) ys) : ∃ y ys', ys = y :: ys' ∧ R x y ∧ L2 R xs ys' := by
  cases ys with
  | nil => have := h.1; simp at this
  | cons y ys' => exact ⟨y, ys', rfl, h.2 0 x y rfl rfl, by have := h.1; simpa using this, fun j a b ha hb => h.2 (j + 1) a b (by simpa using ha) (by simpa using hb)⟩

abbrev Sig := Addr → Option Value
inductive VR0 (σ : Sig) : AV → Value → Prop
  | undef (v : Value) : VR0 σ .undef v
  | int (k : IntKind) (n : Int) (h : rangeP k n) : VR0 σ (.int k n) (.int k n)
  | bool (b : Bool) : VR0 σ (.bool b) (.bool b)
  | str (s : ByteArray) : VR0 σ (.str s) (.string s)
  | nils : VR0 σ .nils (.slice none 0 0)
  | empty (sz : Nat) (A : Option Addr) (cap : Nat) (h : cap ≤ maxLen) : VR0 σ (.lst sz []) (.slice A 0 cap)
  | lst (sz : Nat) (xs : List (List AV)) (b off cap : Nat) (g : Nat → Value) (h1 : xs.length ≤ cap) (h2 : cap ≤ maxLen) (h3 : ∀ c ∈ xs, c.length = sz)
      (h4 : ∀ (j : Nat) (c : AV), xs.flatten[j]? = some c → σ ⟨b, off + j, none⟩ = some (g j)) (h5 : ∀ (j : Nat) (c : AV), xs.flatten[j]? = some c → VR0 σ c (g j)) :
      VR0 σ (.lst sz xs) (.slice (some ⟨b, off, none⟩) xs.length cap)
  | ref (cs : List AV) (b off : Nat) (g : Nat → Value) (h4 : ∀ (j : Nat) (c : AV), cs[j]? = some c → σ ⟨b, off + j, none⟩ = some (g j)) (h5 : ∀ (j : Nat) (c : AV), cs[j]? = some c → VR0 σ c (g j)) :
      VR0 σ (.ref cs) (.pointer (some ⟨b, off, none⟩))
  | agg (cs : List AV) (vs : List Value) (h1 : cs.length = vs.length) (h2 : ∀ (j : Nat) (c : AV) (v : Value), cs[j]? = some c → vs[j]? = some v → VR0 σ c v) : VR0 σ (.agg cs) (.agg vs.toArray)
  | tup (cs : List AV) (vs : List Value) (h1 : cs.length = vs.length) (h2 : ∀ (j : Nat) (c : AV) (v : Value), cs[j]? = some c → vs[j]? = some v → VR0 σ c v) : VR0 σ (.tup cs) (.tuple vs.toArray)
  | nilp : VR0 σ .nilp (.pointer none)
  | fn (f : Fn) (xs ys : List AV) (us vs : List Value) (h1 : xs.length = us.length) (h2 : ∀ (j : Nat) (c : AV) (v : Value), xs[j]? = some c → us[j]? = some v → VR0 σ c v)
      (h3 : ys.length = vs.length) (h4 : ∀ (j : Nat) (c : AV) (v : Value), ys[j]? = some c → vs[j]? = some v → VR0 σ c v) : VR0 σ (.fn f xs ys) (.func f us.toArray vs.toArray)
  | nilf : VR0 σ .nilf .nilFunc
def Sig.le (σ σ' : Sig) : Prop := ∀ a v, σ a = some v → σ' a = some v
theorem Sig.le.refl (σ : Sig) : Sig.le σ σ := fun _ _ h => h
theorem Sig.le.trans {a b c : Sig} (h : Sig.le a b) (k : Sig.le b c) : Sig.le a c := fun p v hp => k p v (h p v hp)
theorem VR0.mono {σ σ' : Sig} (hs : Sig.le σ σ') {x : AV} {v : Value} (h : VR0 σ x v) : VR0 σ' x v := by
  induction h with
  | undef v => exact .undef v
  | int k n h => exact .int k n h
  | bool b => exact .bool b
  | str s => exact .str s
  | nils => exact .nils
  | empty sz A cap h => exact .empty sz A cap h
  | lst sz xs b off cap g h1 h2 h3 h4 h5 ih => exact .lst sz xs b off cap g h1 h2 h3 (fun j c hc => hs _ _ (h4 j c hc)) ih
  | ref cs b off g h4 h5 ih => exact .ref cs b off g (fun j c hc => hs _ _ (h4 j c hc)) ih
  | agg cs vs h1 h2 ih => exact .agg cs vs h1 ih
  | tup cs vs h1 h2 ih => exact .tup cs vs h1 ih
  | nilp => exact .nilp
  | fn f xs ys us vs h1 h2 h3 h4 ih1 ih2 => exact .fn f xs ys us vs h1 ih1 h3 ih2
  | nilf => exact .nilf

def footOf : Value → Option Nat
  | .pointer (some a) => some a.block
  | .slice (some a) _ _ => some a.block
  | .map (some b) => some b
  | _ => none
inductive VR (σ : Sig) (ι : Nat → Value) : AV → Value → Prop
  | base (x : AV) (v : Value) (h : VR0 σ x v) : VR σ ι x v
  | own (id : Nat) (h : (ι id).oneCell' = true) : VR σ ι (.own id) (ι id)
  | ptr (id off g : Nat) (h : footOf (ι id) = some g) : VR σ ι (.ptr id off) (.pointer (some ⟨g, off, none⟩))
  | eptr (id sz i j g : Nat) (h : footOf (ι id) = some g) : VR σ ι (.eptr id sz i j) (.pointer (some ⟨g, i * sz + j, none⟩))
  | agg (cs : List AV) (vs : List Value) (h1 : cs.length = vs.length) (h2 : ∀ (j : Nat) (c : AV) (v : Value), cs[j]? = some c → vs[j]? = some v → VR σ ι c v) : VR σ ι (.agg cs) (.agg vs.toArray)
  | tup (cs : List AV) (vs : List Value) (h1 : cs.length = vs.length) (h2 : ∀ (j : Nat) (c : AV) (v : Value), cs[j]? = some c → vs[j]? = some v → VR σ ι c v) : VR σ ι (.tup cs) (.tuple vs.toArray)
  | fn (f : Fn) (xs ys : List AV) (us vs : List Value) (h1 : xs.length = us.length) (h2 : ∀ (j : Nat) (c : AV) (v : Value), xs[j]? = some c → us[j]? = some v → VR σ ι c v)
      (h3 : ys.length = vs.length) (h4 : ∀ (j : Nat) (c : AV) (v : Value), ys[j]? = some c → vs[j]? = some v → VR σ ι c v) : VR σ ι (.fn f xs ys) (.func f us.toArray vs.toArray)
theorem VR.mono {σ σ' : Sig} {ι : Nat → Value} (hs : Sig.le σ σ') {x : AV} {v : Value} (h : VR σ ι x v) : VR σ' ι x v := by
  induction h with
  | base x v h => exact .base x v (h.mono hs)
  | own id h => exact .own id h
  | ptr id off g h => exact .ptr id off g h
  | eptr id sz i j g h => exact .eptr id sz i j g h
  | agg cs vs h1 h2 ih => exact .agg cs vs h1 ih
  | tup cs vs h1 h2 ih => exact .tup cs vs h1 ih
  | fn f xs ys us vs h1 h2 h3 h4 ih1 ih2 => exact .fn f xs ys us vs h1 ih1 h3 ih2

structure SemC where
  rel : Sig → Array Obj → Value → Prop
  keep : ∀ σ σ' H H' v, rel σ H v → Sig.le σ σ' → (∀ g, footOf v = some g → H'[g]? = H[g]?) → rel σ' H' v
  lt : ∀ σ H v g, rel σ H v → footOf v = some g → g < H.size
inductive Chunk where
  | blk (ty : TypeId) (cs : List AV)
  | row (e : TypeId) (sz : Nat) (xs : List (List AV))
  | sem (c : SemC)
  deriving Inhabited
abbrev Slots := List (Nat × AV)
abbrev Heap := List (Nat × Chunk)
def get : Slots → Nat → AV
  | [], _ => .undef
  | (i, v) :: r, t => bif Nat.beq i t then v else get r t
def hget : Heap → Nat → Option Chunk
  | [], _ => none
  | (i, v) :: r, t => bif Nat.beq i t then some v else hget r t
theorem get_cons (i : Nat) (v : AV) (r : Slots) (t : Nat) : get ((i, v) :: r) t = if i = t then v else get r t := by
  simp only [get]; by_cases h : i = t
  · subst h; simp
  · have : Nat.beq i t = false := Bool.eq_false_iff.2 fun e => h (Nat.eq_of_beq_eq_true e)
    simp [h, this]
theorem hget_cons (i : Nat) (v : Chunk) (r : Heap) (t : Nat) : hget ((i, v) :: r) t = if i = t then some v else hget r t := by
  simp only [hget]; by_cases h : i = t
  · subst h; simp
  · have : Nat.beq i t = false := Bool.eq_false_iff.2 fun e => h (Nat.eq_of_beq_eq_true e)
    simp [h, this]

def CR (σ : Sig) (ι : Nat → Value) (w : World) (i : Nat) : Chunk → Prop
  | .blk ty cs => ∃ g cur, ι i = .pointer (some ⟨g, 0, none⟩) ∧ w.heap[g]? = some (.cells cur ty (0, 0)) ∧ L2 (VR σ ι) cs cur.toList
  | .row e sz xs => 0 < sz ∧ (∀ c ∈ xs, c.length = sz) ∧ ∃ vs, w.ownsRow 0 e sz (ι i) xs.length vs ∧ L2 (VR0 σ) xs.flatten vs
  | .sem c => c.rel σ w.heap (ι i)

structure Env where
  w : World
  sig : Sig
  may : List (Nat × Nat)
  pin : List (Nat × Value)
  xold : List (Nat × Obj)
structure Rel (E : Env) (σ : Sig) (ι : Nat → Value) (h : Heap) (w : World) : Prop where
  os : w.os = E.w.os
  tape : w.tape = E.w.tape
  output : w.output = E.w.output
  size : E.w.heap.size ≤ w.heap.size
  old : ∀ b, b < E.w.heap.size → (∀ i, (i, b) ∉ E.may) → w.heap[b]? = E.w.heap[b]?
  sigOld : ∀ a : Addr, a.block < E.w.heap.size → σ a = E.sig a
  sub : ∀ a v, σ a = some v → w.cell? a = some v
  ch : ∀ i c, hget h i = some c → CR σ ι w i c
  foot : ∀ i c, hget h i = some c → ∀ g, footOf (ι i) = some g → ((i, g) ∈ E.may ∨ E.w.heap.size ≤ g) ∧ ∀ o, σ ⟨g, o, none⟩ = none
  dj : ∀ i j c d, hget h i = some c → hget h j = some d → ∀ g, footOf (ι i) = some g → footOf (ι j) = some g → i = j
  pin : ∀ p ∈ E.pin, p.1 < 5 ∧ ι p.1 = p.2
  low : ∀ p ∈ E.may, p.1 < 10
  xo : ∀ p ∈ E.xold, E.w.heap.size ≤ p.1 ∧ w.heap[p.1]? = some p.2 ∧ ∀ i c, hget h i = some c → footOf (ι i) ≠ some p.1

structure Md where
  n : Nat
  ro : Option Nat := none
  ds : List Deferred := []
  pins : List (Nat × Value) := []
def wideR (ro : Option Nat) : Fence := { Fence.wide with round := ro }
theorem calls_R {ro : Option Nat} {m : Nat} {P : Program} {f : FuncId} {args : Array Value} {w : World} {R : Ending → World → Prop} (h : Calls P f args w R) : CallsIn (wideR ro) m P f args w R := by
  cases ro with
  | none => exact callsIn_wide.2 h
  | some l => exact CallsIn.inRound l (callsIn_wide.2 h)
theorem rows_R {ro : Option Nat} {m : Nat} {P : Program} {row : String} {args : Array Value} {w : World} {R : Value → World → Prop} (h : Rows P row args w R) : RowsIn (wideR ro) m P row args w R :=
  fun c cs _ => let ⟨v, w', r, s⟩ := h c cs; ⟨v, w', r, stepsIn_wide.2 s⟩
def notDefer (o : Oper) : Bool := match o.op with | .defer _ => false | _ => true
def noDefer (l : List Oper) : Bool := l.all notDefer
theorem op_R {ro : Option Nat} {P : Program} {o : Oper} {a : Act} {w : World} {K : Act → World → Prop} {Q : Exit → Act → World → Prop} (hnd : notDefer o = true) (h : o.wp P a w K Q) : o.wpIn (wideR ro) 0 P a w K Q := by
  refine ⟨fun _ _ => trivial, ?_⟩
  have hnd' : ∀ c, o.op ≠ .defer c := fun c e => by rw [notDefer, e] at hnd; cases hnd
  rw [Oper.semAt_eq _ _ _ hnd']
  unfold Oper.wp at h
  generalize (execOp a.eval o).run P w = r at *
  cases r with
  | ok x w' =>
    cases x <;> simp only [Oper.upon, Oper.uponIn] at h ⊢ <;> first | exact h | exact h.elim | exact ⟨fun hd => absurd hd (by simp [wideR, Fence.wide]), calls_R h⟩ | exact ⟨fun hd => absurd hd (by simp [wideR, Fence.wide]), rows_R h⟩
  | halt x w' => cases x <;> simp only [Oper.upon, Oper.uponIn] at h ⊢ <;> first | exact h | exact h.elim
structure TR (n : Md) (σ : Sig) (ι : Nat → Value) (s : Slots) (a : Act) : Prop where
  size : a.tmps.size = n.n
  defers : a.defers = n.ds ∧ ∀ p ∈ n.pins, p.1 < 5 ∧ ι p.1 = p.2
  at_ : ∀ t, VR σ ι (get s t) (a.tmps.getD t undef)
theorem TR.mono {n : Md} {σ σ' : Sig} {ι : Nat → Value} {s : Slots} {a : Act} (h : TR n σ ι s a) (hs : Sig.le σ σ') : TR n σ' ι s a := ⟨h.size, h.defers, fun t => (h.at_ t).mono hs⟩
theorem TR.put {n : Md} {σ : Sig} {ι : Nat → Value} {s : Slots} {a : Act} (h : TR n σ ι s a) {d : Nat} (hd : d < n.n) {x : AV} {v : Value} (hv : VR σ ι x v) : TR n σ ι ((d, x) :: s) (a.put (some d) v) := by
  refine ⟨by simp [Act.put, h.size], h.defers, fun t => ?_⟩
  rw [get_cons]
  by_cases ht : d = t
  · subst ht
    rw [if_pos rfl]
    have : (a.put (some d) v).tmps.getD d Go.undef = v := by simp [Act.put, Array.getD, h.size, hd]
    rw [this]; exact hv
  · rw [if_neg ht]
    have : (a.put (some d) v).tmps.getD t Go.undef = a.tmps.getD t Go.undef := by
      simp only [Act.put, Array.getD_eq_getD_getElem?, Array.getElem?_setIfInBounds, if_neg ht]
    rw [this]; exact h.at_ t
def putS (s : Slots) (d : Option Nat) (v : AV) : Slots := match d with | some d => (d, v) :: s | none => s
def dstOk (n : Md) (d : Option Nat) : Bool := match d with | some d => Nat.blt d n.n | none => true
theorem TR.putS {n : Md} {σ : Sig} {ι : Nat → Value} {s : Slots} {a : Act} (h : TR n σ ι s a) {d : Option Nat} (hd : dstOk n d = true) {x : AV} {v : Value} (hv : VR σ ι x v) : TR n σ ι (putS s d x) (a.put d v) := by
  cases d with
  | none => exact h
  | some d => exact h.put (by simpa [dstOk] using hd) hv

def AWp (P : Program) (n : Md) (c : Code) (Q : Exit → Slots → Heap → Prop) (s : Slots) (h : Heap) : Prop :=
  ∀ (E : Env) (σ : Sig) (ι : Nat → Value) (a : Act) (w : World), Rel E σ ι h w → TR n σ ι s a →
    c.wpIn (wideR n.ro) 0 P (fun e a' w' => ∃ s' h' σ' ι', Q e s' h' ∧ Rel E σ' ι' h' w' ∧ TR n σ' ι' s' a') a w
section
variable {P : Program} {n : Md} {Q : Exit → Slots → Heap → Prop} {s : Slots} {h : Heap}
def AThen (next : Slots → Heap → Prop) (Q : Exit → Slots → Heap → Prop) : Exit → Slots → Heap → Prop
  | .normal, s, h => next s h
  | e, s, h => Q e s h
def AIn (id : Nat) (Q : Exit → Slots → Heap → Prop) : Exit → Slots → Heap → Prop
  | .exit id', s, h => bif Nat.beq id' id then Q .normal s h else Q (.exit id') s h
  | e, s, h => Q e s h
theorem AWp.mono {c : Code} {Q' : Exit → Slots → Heap → Prop} (hc : AWp P n c Q s h) (hq : ∀ e s h, Q e s h → Q' e s h) : AWp P n c Q' s h :=
  fun E σ ι a w hr ht => Go.wpIn_mono (hc E σ ι a w hr ht) (fun e a w ⟨s', h', σ', ι', q, r, t⟩ => ⟨s', h', σ', ι', hq _ _ _ q, r, t⟩)
theorem awp_seq {x y : Code} (hx : AWp P n x (AThen (fun s h => AWp P n y Q s h) Q) s h) : AWp P n (.seq x y) Q s h := by
  intro E σ ι a w hr ht
  refine wpIn_seq (Go.wpIn_mono (hx E σ ι a w hr ht) ?_)
  rintro e a w ⟨s', h', σ', ι', q, r, t⟩
  cases e with
  | normal => exact q E σ' ι' a w r t
  | _ => exact ⟨s', h', σ', ι', q, r, t⟩
theorem awp_skip (hq : Q .normal s h) : AWp P n .skip Q s h := fun E σ ι a w hr ht => wpIn_skip ⟨s, h, σ, ι, hq, hr, ht⟩
theorem awp_ret (hq : Q .ret s h) : AWp P n .ret Q s h := fun E σ ι a w hr ht => wpIn_ret ⟨s, h, σ, ι, hq, hr, ht⟩
theorem awp_exit {id : Nat} (hq : Q (.exit id) s h) : AWp P n (.exit id) Q s h := fun E σ ι a w hr ht => wpIn_exit ⟨s, h, σ, ι, hq, hr, ht⟩
theorem awp_block {id : Nat} {c : Code} (hc : AWp P n c (AIn id Q) s h) : AWp P n (.block id c) Q s h := by
  intro E σ ι a w hr ht
  refine wpIn_block (Go.wpIn_mono (hc E σ ι a w hr ht) ?_)
  rintro e a w ⟨s', h', σ', ι', q, r, t⟩
  cases e with
  | exit id' =>
    simp only [Exit.inBlock]
    by_cases hid : id' = id
    · rw [if_pos hid]; exact ⟨s', h', σ', ι', by simpa [AIn, hid] using q, r, t⟩
    · rw [if_neg hid]; exact ⟨s', h', σ', ι', by simpa [AIn, hid] using q, r, t⟩
  | _ => exact ⟨s', h', σ', ι', q, r, t⟩
def cA : Value → AV
  | .int k n => .int k n
  | .bool b => .bool b
  | .string s => .str s
  | .slice none 0 0 => .nils
  | .pointer none => .nilp
  | .nilFunc => .nilf
  | _ => .undef
def evA (s : Slots) : Operand → AV
  | .tmp t => get s t
  | .const v => cA v
  | .global _ => .undef
  | .func f => .fn (.func f) [] []
def cOk : Operand → Bool
  | .const (.int k n) => (Lit.int k n).wf
  | _ => true
theorem cA_sound {σ : Sig} {v : Value} (hc : cOk (.const v) = true) : VR0 σ (cA v) v := by
  unfold cA
  split
  · exact .int _ _ (rangeP_wf.2 hc)
  · exact .bool _
  · exact .str _
  · exact .nils
  · exact .nilp
  · exact .nilf
  · exact .undef _
theorem evA_sound {σ : Sig} {ι : Nat → Value} {a : Act} {x : Operand} (hc : cOk x = true) (ht : ∀ t, x = .tmp t → VR σ ι (get s t) (a.tmps.getD t undef)) : VR σ ι (evA s x) (a.eval x) := by
  cases x with
  | tmp t => exact ht t rfl
  | global g => exact .base _ _ (.undef _)
  | func f => exact .base _ _ (.fn _ [] [] [] [] rfl (fun j c v hc => by simp at hc) rfl (fun j c v hc => by simp at hc))
  | const v => exact .base _ _ (cA_sound hc)
theorem VR.bool_inv {σ : Sig} {ι : Nat → Value} {b : Bool} {v : Value} (hv : VR σ ι (.bool b) v) : v = .bool b := by
  cases hv with
  | base _ _ h0 => cases h0; rfl
theorem VR.int_inv {σ : Sig} {ι : Nat → Value} {k : IntKind} {m : Int} {v : Value} (hv : VR σ ι (.int k m) v) : v = .int k m ∧ rangeP k m := by
  cases hv with
  | base _ _ h0 => cases h0 with | int _ _ h => exact ⟨rfl, h⟩
theorem awp_cond {c : Operand} {x y : Code} {b : Bool} (hk : cOk c = true) (hc : evA s c = .bool b) (hx : b = true → AWp P n x Q s h) (hy : b = false → AWp P n y Q s h) : AWp P n (.cond c x y) Q s h := by
  intro E σ ι a w hr ht
  have hv : VR σ ι (evA s c) (a.eval c) := evA_sound hk (fun t _ => ht.at_ t)
  rw [hc] at hv
  refine wpIn_cond hv.bool_inv ?_
  cases b
  · exact hy rfl E σ ι a w hr ht
  · exact hx rfl E σ ι a w hr ht
theorem awp_range {c : Code} (t : Nat) {k : IntKind} {m : Int} (hg : get s t = .int k m) (hk : rangeP k m → AWp P n c Q s h) : AWp P n c Q s h := by
  intro E σ ι a w hr ht
  have hv := ht.at_ t
  rw [hg] at hv
  exact hk hv.int_inv.2 E σ ι a w hr ht
def LeV (x y : AV) : Prop := ∀ σ ι v, VR σ ι x v → VR σ ι y v
theorem LeV.refl (x : AV) : LeV x x := fun _ _ _ h => h
theorem LeV.undef (x : AV) : LeV x .undef := fun _ _ v _ => .base _ _ (.undef v)
theorem LeV.nils (sz : Nat) : LeV .nils (.lst sz []) := fun σ ι v h => by
  cases h with
  | base _ _ h0 => cases h0; exact .base _ _ (.empty sz none 0 (by simp))
theorem LeV.of_eq {x y : AV} (h : x = y) : LeV x y := by subst h; exact .refl _
def LeS (s s' : Slots) : Prop := ∀ t, LeV (get s t) (get s' t)
theorem LeS.refl (s : Slots) : LeS s s := fun _ => .refl _
theorem LeS.nil (s : Slots) : LeS s [] := fun _ => .undef _
theorem LeS.cons {s s' : Slots} {t : Nat} {v : AV} (h1 : LeV (get s t) v) (h2 : LeS s s') : LeS s ((t, v) :: s') := fun u => by
  rw [get_cons]
  split
  · rename_i e; subst e; exact h1
  · exact h2 u
def LeH (h h' : Heap) : Prop := ∀ i c, hget h' i = some c → hget h i = some c
theorem LeH.refl (h : Heap) : LeH h h := fun _ _ h => h
theorem LeH.nil (h : Heap) : LeH h [] := fun i c hc => by cases hc
theorem LeH.cons {h h' : Heap} {i : Nat} {c : Chunk} (h1 : hget h i = some c) (h2 : LeH h h') : LeH h ((i, c) :: h') := fun j d hd => by
  rw [hget_cons] at hd
  split at hd
  · rename_i e; subst e; cases hd; exact h1
  · exact h2 j d hd
theorem Rel.le {E : Env} {σ : Sig} {ι : Nat → Value} {h h' : Heap} {w : World} (hr : Rel E σ ι h w) (hl : LeH h h') : Rel E σ ι h' w :=
  ⟨hr.os, hr.tape, hr.output, hr.size, hr.old, hr.sigOld, hr.sub, fun i c hc => hr.ch i c (hl i c hc), fun i c hc => hr.foot i c (hl i c hc), fun i j c d hc hd => hr.dj i j c d (hl i c hc) (hl j d hd), hr.pin, hr.low, fun p hp => ⟨(hr.xo p hp).1, (hr.xo p hp).2.1, fun i c hc => (hr.xo p hp).2.2 i c (hl i c hc)⟩⟩
theorem TR.le {σ : Sig} {ι : Nat → Value} {s s' : Slots} {a : Act} (ht : TR n σ ι s a) (hl : LeS s s') : TR n σ ι s' a := ⟨ht.size, ht.defers, fun t => hl t _ _ _ (ht.at_ t)⟩
theorem awp_le {c : Code} {s' : Slots} {h' : Heap} (hs : LeS s s') (hh : LeH h h') (hc : AWp P n c Q s' h') : AWp P n c Q s h :=
  fun E σ ι a w hr ht => hc E σ ι a w (hr.le hh) (ht.le hs)
theorem awp_loop {α : Type} {c : Code} (st : α → Slots × Heap) (inv : α → Prop) (μ : α → Nat) (x0 : α) (h0 : inv x0) (hs : LeS s (st x0).1) (hh : LeH h (st x0).2)
    (round : ∀ x, inv x → AWp P n c (AThen (fun s' h' => ∃ x', inv x' ∧ μ x' < μ x ∧ LeS s' (st x').1 ∧ LeH h' (st x').2) Q) (st x).1 (st x).2) : AWp P n (.loop c) Q s h := by
  intro E σ ι a w hr ht
  refine Go.wpIn_loop_ghost (fun m a w => ∃ x σ ι, inv x ∧ μ x = m ∧ Rel E σ ι (st x).2 w ∧ TR n σ ι (st x).1 a) (μ x0) ⟨x0, σ, ι, h0, rfl, hr.le hh, ht.le hs⟩ ?_
  rintro m a w ⟨x, σ, ι, hi, rfl, hr, ht⟩
  refine Go.wpIn_mono (round x hi E σ ι a w hr ht) ?_
  rintro e a' w' ⟨s', h', σ', ι', q, r, t⟩
  cases e with
  | normal =>
    obtain ⟨x', hi', hlt, hs', hh'⟩ := q
    exact ⟨μ x', hlt, x', σ', ι', hi', rfl, r.le hh', t.le hs'⟩
  | _ => exact ⟨s', h', σ', ι', q, r, t⟩
end
end Go.Proofs.YtkkmageogkkchaaGreat
namespace Go.Proofs.YtkkmageogkkchaaGreat
set_option maxRecDepth 100000
open Go.RowKit

def OkO (P : Program) (o : Oper) (s : Slots) (h : Heap) (v : AV) : Prop :=
  ∀ (E : Env) (σ : Sig) (ι : Nat → Value) (a : Act) (w : World), Rel E σ ι h w → (∀ x ∈ o.op.operands.toList, VR σ ι (evA s x) (a.eval x)) →
    ∀ (K : Act → World → Prop) (Q : Exit → Act → World → Prop), (∀ σ' w' u, Sig.le σ σ' → Rel E σ' ι h w' → VR σ' ι v u → K (a.put o.dst u) w') → o.wp P a w K Q
def constsOk (o : Oper) : Bool := o.op.operands.toList.all cOk
section
variable {P : Program} {n : Md} {Q : Exit → Slots → Heap → Prop} {s : Slots} {h : Heap} {ops : Array Oper} {rest : List Oper} {o : Oper}
def wpL (n : Md) (P : Program) (ops : Array Oper) (Q : Exit → Act → World → Prop) (rest : List Oper) (a : Act) (w : World) : Prop := noDefer rest = true → wpListIn (wideR n.ro) 0 P ops Q rest a w
def AOps (P : Program) (n : Md) (ops : Array Oper) (Q : Exit → Slots → Heap → Prop) (rest : List Oper) (s : Slots) (h : Heap) : Prop :=
  ∀ (E : Env) (σ : Sig) (ι : Nat → Value) (a : Act) (w : World), Rel E σ ι h w → TR n σ ι s a →
    wpL n P ops (fun e a' w' => ∃ s' h' σ' ι', Q e s' h' ∧ Rel E σ' ι' h' w' ∧ TR n σ' ι' s' a') rest a w
def A1 (P : Program) (n : Md) (ops : Array Oper) (Q : Exit → Slots → Heap → Prop) (o : Oper) (rest : List Oper) (s : Slots) (h : Heap) : Prop :=
  ∀ (E : Env) (σ : Sig) (ι : Nat → Value) (a : Act) (w : World), Rel E σ ι h w → TR n σ ι s a →
    o.wp P a w (wpL n P ops (fun e a' w' => ∃ s' h' σ' ι', Q e s' h' ∧ Rel E σ' ι' h' w' ∧ TR n σ' ι' s' a') rest) (fun e a' w' => ∃ s' h' σ' ι', Q e s' h' ∧ Rel E σ' ι' h' w' ∧ TR n σ' ι' s' a')
theorem awp_region {id : Nat} {l : List Oper} (hnd : noDefer l = true) (hk : AOps P n l.toArray Q l s h) : AWp P n (.region id l.toArray false) Q s h :=
  fun E σ ι a w hr ht => wpIn_region_lit (hk E σ ι a w hr ht hnd)
theorem aops_nil (hq : Q .normal s h) : AOps P n ops Q [] s h := fun E σ ι a w hr ht _ => ⟨s, h, σ, ι, hq, hr, ht⟩
theorem wpL_want {Post : Exit → Act → World → Prop} {a : Act} {w : World} (hw : Region.wanted o (yielded ops a.tmps) = true) (hk : o.wp P a w (wpL n P ops Post rest) Post) : wpL n P ops Post (o :: rest) a w := fun hnd => by
  have hnd := (Bool.and_eq_true _ _).mp (by simpa only [noDefer, List.all_cons] using hnd)
  unfold wpListIn
  rw [if_pos hw]
  exact op_R hnd.1 (Oper.wp_mono (fun a w hK => hK hnd.2) hk)
theorem wpL_not {Post : Exit → Act → World → Prop} {a : Act} {w : World} (hw : Region.wanted o (yielded ops a.tmps) = false) (hk : wpL n P ops Post rest (a.put o.dst undef) w) : wpL n P ops Post (o :: rest) a w := fun hnd => by
  have hnd := (Bool.and_eq_true _ _).mp (by simpa only [noDefer, List.all_cons] using hnd)
  unfold wpListIn
  rw [if_neg (by simp [hw])]
  exact ⟨fun _ _ => trivial, hk hnd.2⟩
theorem wpL_one {Post : Exit → Act → World → Prop} {a : Act} {w : World} (hg : o.guard = none) (hk : o.wp P a w (wpL n P ops Post rest) Post) : wpL n P ops Post (o :: rest) a w := wpL_want (by simp [Region.wanted, hg]) hk
theorem aops_one (hg : o.guard = none) (hk : A1 P n ops Q o rest s h) : AOps P n ops Q (o :: rest) s h := fun E σ ι a w hr ht => wpL_one hg (hk E σ ι a w hr ht)
def dstAt (ops : Array Oper) (j : Nat) : Option Nat := (ops.toList[j]?).bind (·.dst)
theorem wanted_of {a : Act} {σ : Sig} {ι : Nat → Value} {j : Nat} {want : Bool} (hg : o.guard = some (j, want)) {d : Nat} (hd : dstAt ops j = some d) (hs : d < a.tmps.size) {b : Bool} (hv : VR σ ι (.bool b) (a.tmps.getD d undef)) :
    Region.wanted o (yielded ops a.tmps) = (b == want) := by
  unfold Region.wanted
  rw [hg]
  have h1 : (ops[j]?).bind (·.dst) = some d := by rw [← Array.getElem?_toList]; exact hd
  have h2 : a.tmps[d]? = some (.bool b) := by
    rw [← hv.bool_inv, Array.getElem?_eq_getElem hs]; simp [Array.getD, hs]
  simp only [yielded, h1, Option.bind_some, h2]
  cases b <;> cases want <;> rfl
theorem VR.tup0 {σ : Sig} {ι : Nat → Value} : VR σ ι (.tup []) undef := .base _ _ (.tup [] [] rfl (fun j c v h => by simp at h))
theorem VR.tup0_inv {σ : Sig} {ι : Nat → Value} {v : Value} (h : VR σ ι (.tup []) v) : v = undef := by
  have : ∀ vs : List Value, ([] : List AV).length = vs.length → (Value.tuple vs.toArray) = undef := fun vs hv => by
    have := List.eq_nil_of_length_eq_zero hv.symm; subst this; rfl
  cases h with
  | base _ _ h0 => cases h0 with | tup _ vs h1 _ => exact this vs h1
  | tup _ vs h1 _ => exact this vs h1
theorem unwanted_of {a : Act} {j : Nat} {want : Bool} (hg : o.guard = some (j, want)) {d : Nat} (hd : dstAt ops j = some d) (hs : d < a.tmps.size) (hv : a.tmps.getD d undef = undef) : Region.wanted o (yielded ops a.tmps) = false := by
  unfold Region.wanted
  rw [hg]
  have h1 : (ops[j]?).bind (·.dst) = some d := by rw [← Array.getElem?_toList]; exact hd
  have h2 : a.tmps[d]? = some undef := by
    rw [← hv, Array.getElem?_eq_getElem hs]; simp [Array.getD, hs]
  simp only [yielded, h1, Option.bind_some, h2]
  rfl
theorem aops_grdN {j : Nat} {want : Bool} (hg : o.guard = some (j, want)) {d : Nat} (hd : dstAt ops j = some d) (hn : Nat.blt d n.n = true) (hb : get s d = .tup []) (ho : dstOk n o.dst = true)
    (h2 : AOps P n ops Q rest (putS s o.dst (.tup [])) h) : AOps P n ops Q (o :: rest) s h := fun E σ ι a w hr ht => by
  have hv := ht.at_ d
  rw [hb] at hv
  exact wpL_not (unwanted_of hg hd (by rw [ht.size]; simpa using hn) hv.tup0_inv) (h2 E σ ι _ w hr (ht.putS ho VR.tup0))
theorem a1_calm {v : AV} (hc : constsOk o = true) (hd : dstOk n o.dst = true) (ho : OkO P o s h v) (hk : AOps P n ops Q rest (putS s o.dst v) h) : A1 P n ops Q o rest s h := fun E σ ι a w hr ht =>
  ho E σ ι a w hr (fun x hx => evA_sound (List.all_eq_true.1 hc x hx) fun t _ => ht.at_ t) _ _ fun σ' w' u hs hr' hv => hk E σ' ι _ w' hr' ((ht.mono hs).putS hd hv)
theorem aops_le {s' : Slots} {h' : Heap} (hs : LeS s s') (hh : LeH h h') (hk : AOps P n ops Q rest s' h') : AOps P n ops Q rest s h :=
  fun E σ ι a w hr ht => hk E σ ι a w (hr.le hh) (ht.le hs)
/-! ## In whatever order -/
def ADr (P : Program) (n : Md) (ops : Array Oper) (h : Heap) (K : Slots → Prop) : List Oper → Slots → Prop
  | [], s => ∃ s', (∀ t, get s t = get s' t) ∧ K s'
  | o :: rest, s => match o.guard with
    | none => ∃ v, OkO P o s h v ∧ ADr P n ops h K rest (putS s o.dst v)
    | some (j, want) => (∃ d b, dstAt ops j = some d ∧ get s d = .bool b ∧ (b = want → ∃ v, OkO P o s h v ∧ ADr P n ops h K rest (putS s o.dst v)) ∧ (b = !want → ADr P n ops h K rest (putS s o.dst (.tup [])))) ∨ (∃ d, dstAt ops j = some d ∧ get s d = .tup [] ∧ ADr P n ops h K rest (putS s o.dst (.tup [])))
def D1 (P : Program) (n : Md) (ops : Array Oper) (h : Heap) (K : Slots → Prop) (o : Oper) (rest : List Oper) (s : Slots) : Prop := ∃ v, OkO P o s h v ∧ ADr P n ops h K rest (putS s o.dst v)
variable {K : Slots → Prop}
theorem adr_nil (hq : K s) : ADr P n ops h K [] s := ⟨s, fun _ => rfl, hq⟩
theorem evA_congr {s s' : Slots} (e : ∀ t, get s t = get s' t) (x : Operand) : evA s x = evA s' x := by
  cases x with
  | tmp t => exact e t
  | const v => rfl
  | _ => rfl
theorem OkO.congr {s s' : Slots} {v : AV} (e : ∀ t, get s t = get s' t) (hk : OkO P o s h v) : OkO P o s' h v := fun E σ ι a w hr hx =>
  hk E σ ι a w hr fun x hm => by rw [evA_congr e]; exact hx x hm
theorem get_putS' {s s' : Slots} (e : ∀ t, get s t = get s' t) (d : Option Nat) (v : AV) : ∀ t, get (putS s d v) t = get (putS s' d v) t := fun t => by
  cases d with
  | none => exact e t
  | some d => simp only [putS, get_cons, e t]
theorem adr_congr : ∀ (rest : List Oper) {s s' : Slots}, (∀ t, get s t = get s' t) → ADr P n ops h K rest s → ADr P n ops h K rest s'
  | [], s, s', e, ⟨s2, e2, hk⟩ => ⟨s2, fun t => (e t).symm.trans (e2 t), hk⟩
  | o :: rest, s, s', e, hk => by
    unfold ADr at hk ⊢
    cases hg : o.guard with
    | none =>
      rw [hg] at hk
      obtain ⟨v, h1, h2⟩ := hk
      exact ⟨v, h1.congr e, adr_congr rest (get_putS' e _ _) h2⟩
    | some g =>
      rw [hg] at hk
      rcases hk with ⟨d, b, h0, h1, h2, h3⟩ | ⟨d, h0, h1, h2⟩
      · exact .inl ⟨d, b, h0, by rw [← e]; exact h1, fun hb => let ⟨v, h4, h5⟩ := h2 hb; ⟨v, h4.congr e, adr_congr rest (get_putS' e _ _) h5⟩, fun hb => adr_congr rest (get_putS' e _ _) (h3 hb)⟩
      · exact .inr ⟨d, h0, by rw [← e]; exact h1, adr_congr rest (get_putS' e _ _) h2⟩
theorem adr_one (hg : o.guard = none) (hk : D1 P n ops h K o rest s) : ADr P n ops h K (o :: rest) s := by
  unfold ADr; rw [hg]; exact hk
theorem adr_grd {j : Nat} {want : Bool} (hg : o.guard = some (j, want)) {d : Nat} (hd : dstAt ops j = some d) {b : Bool} (hb : get s d = .bool b)
    (h1 : b = want → D1 P n ops h K o rest ((d, .bool want) :: s)) (h2 : b = !want → ADr P n ops h K rest (putS ((d, .bool (!want)) :: s) o.dst (.tup []))) : ADr P n ops h K (o :: rest) s := by
  have e : ∀ b', b = b' → ∀ t, get ((d, .bool b') :: s) t = get s t := fun b' eb t => by
    rw [get_cons]; split
    · rename_i e'; subst e'; rw [hb, eb]
    · rfl
  unfold ADr; rw [hg]
  exact .inl ⟨d, b, hd, hb, fun hw => let ⟨v, h4, h5⟩ := h1 hw; ⟨v, h4.congr (e _ hw), adr_congr rest (get_putS' (e _ hw) _ _) h5⟩, fun hw => adr_congr rest (get_putS' (e _ hw) _ _) (h2 hw)⟩
theorem adr_grdN {j : Nat} {want : Bool} (hg : o.guard = some (j, want)) {d : Nat} (hd : dstAt ops j = some d) (hb : get s d = .tup []) (h2 : ADr P n ops h K rest (putS s o.dst (.tup []))) : ADr P n ops h K (o :: rest) s := by
  unfold ADr; rw [hg]
  exact .inr ⟨d, hd, hb, h2⟩
theorem d1_calm {v : AV} (ho : OkO P o s h v) (hk : ADr P n ops h K rest (putS s o.dst v)) : D1 P n ops h K o rest s := ⟨v, ho, hk⟩

def tmpsOf (ops : Array Oper) (o : Oper) : List Nat :=
  (o.op.operands.toList.filterMap fun | .tmp t => some t | _ => none) ++ (match o.guard with | some (j, _) => (dstAt ops j).toList | none => [])
def drawOk (n : Md) (ops : List Oper) : Bool :=
  let b := Region.before ops.toArray
  (List.range ops.length).all fun j => match ops[j]? with
    | none => true
    | some o => notDefer o && constsOk o && dstOk n o.dst && (o.after.toList.all fun e => !Region.binds .any e || Nat.blt e.on j) && (match o.guard with | some (g, _) => (b.getD j 0).testBit g | none => true) &&
      (List.range ops.length).all fun i => i == j || (match dstAt ops.toArray i with
        | none => true
        | some d => !((tmpsOf ops.toArray o).contains d || o.dst == some d) || (b.getD (max i j) 0).testBit (min i j))

def stOf (s : Slots) (ops : List Oper) (vs : Nat → AV) (L : Nat → Bool) : Nat → Slots
  | 0 => s
  | k + 1 => if L k then putS (stOf s ops vs L k) ((ops[k]?).bind (·.dst)) (vs k) else stOf s ops vs L k
theorem get_putS (s : Slots) (d : Option Nat) (v : AV) (t : Nat) : get (putS s d v) t = if d = some t then v else get s t := by
  cases d with
  | none => simp [putS]
  | some d => simp only [putS, get_cons, Option.some.injEq]
theorem stOf_low {ops : List Oper} {vs : Nat → AV} {L M : Nat → Bool} {t : Nat} : ∀ k, (∀ j, j < k → (ops[j]?).bind (·.dst) = some t → L j = M j) → get (stOf s ops vs L k) t = get (stOf s ops vs M k) t
  | 0, _ => rfl
  | k + 1, hk => by
    have ih := stOf_low (L := L) (M := M) (vs := vs) k fun j hj => hk j (by omega)
    simp only [stOf]
    by_cases hd : (ops[k]?).bind (·.dst) = some t
    · have := hk k (by omega) hd
      rw [← this]
      cases L k
      · simpa using ih
      · simp only [if_true, get_putS, if_pos hd]
    · cases L k <;> cases M k <;> simp only [if_true, Bool.false_eq_true, if_false, get_putS, if_neg hd] <;> exact ih
theorem stOf_high {ops : List Oper} {vs : Nat → AV} {L : Nat → Bool} {t : Nat} {i : Nat} : ∀ k, i ≤ k → (∀ j, i ≤ j → j < k → (ops[j]?).bind (·.dst) = some t → L j = false) → get (stOf s ops vs L k) t = get (stOf s ops vs L i) t
  | 0, hi, _ => by obtain rfl : i = 0 := by omega
                   rfl
  | k + 1, hi, hk => by
    by_cases he : i = k + 1
    · subst he; rfl
    have ih := stOf_high (L := L) (vs := vs) k (by omega) fun j h1 h2 => hk j h1 (by omega)
    simp only [stOf]
    by_cases hd : (ops[k]?).bind (·.dst) = some t
    · have := hk k (by omega) (by omega) hd
      simpa [this] using ih
    · cases L k <;> simp only [if_true, Bool.false_eq_true, if_false, get_putS, if_neg hd] <;> exact ih
def Known (P : Program) (ops : List Oper) (h : Heap) (s : Slots) (vs : Nat → AV) (i : Nat) (o : Oper) : Prop :=
  match o.guard with
  | none => OkO P o (stOf s ops vs (fun _ => true) i) h (vs i)
  | some (j, want) => (∃ d b, dstAt ops.toArray j = some d ∧ get (stOf s ops vs (fun _ => true) i) d = .bool b ∧ (b = want → OkO P o (stOf s ops vs (fun _ => true) i) h (vs i)) ∧ (b = !want → vs i = .tup [])) ∨
      (∃ d, dstAt ops.toArray j = some d ∧ get (stOf s ops vs (fun _ => true) i) d = .tup [] ∧ vs i = .tup [])
theorem stOf_congr {ops : List Oper} {vs vs' : Nat → AV} {L : Nat → Bool} : ∀ k, (∀ j, j < k → vs j = vs' j) → stOf s ops vs L k = stOf s ops vs' L k
  | 0, _ => rfl
  | k + 1, hk => by simp only [stOf]; rw [stOf_congr k fun j hj => hk j (by omega), hk k (by omega)]
theorem known_of (l : List Oper) : ∀ (rest : List Oper) (m : Nat) (vs : Nat → AV), l.drop m = rest → m ≤ l.length → ADr P n l.toArray h K rest (stOf s l vs (fun _ => true) m) →
    (∀ i o, i < m → l[i]? = some o → Known P l h s vs i o) → ∃ vs' : Nat → AV, (∃ s', (∀ t, get (stOf s l vs' (fun _ => true) l.length) t = get s' t) ∧ K s') ∧ ∀ i o, l[i]? = some o → Known P l h s vs' i o
  | [], m, vs, hr, hm, hd, hk => by
    have hm' : m = l.length := by
      have := List.drop_eq_nil_iff.1 hr; omega
    subst hm'
    exact ⟨vs, hd, fun i o ho => hk i o (List.getElem?_eq_some_iff.1 ho).1 ho⟩
  | o :: rest, m, vs, hr, hm, hd, hk => by
    have hlt : m < l.length := by
      have : (l.drop m).length = (o :: rest).length := by rw [hr]
      simp at this; omega
    have ho : l[m]? = some o := by
      have : (l.drop m)[0]? = some o := by rw [hr]; rfl
      simpa using this
    have hr' : l.drop (m + 1) = rest := by rw [← List.drop_drop, hr]; rfl
    have step : ∀ v, ADr P n l.toArray h K rest (putS (stOf s l vs (fun _ => true) m) o.dst v) → (∀ vs' : Nat → AV, vs' m = v → stOf s l vs' (fun _ => true) m = stOf s l vs (fun _ => true) m → Known P l h s vs' m o) →
        ∃ vs' : Nat → AV, (∃ s', (∀ t, get (stOf s l vs' (fun _ => true) l.length) t = get s' t) ∧ K s') ∧ ∀ i o, l[i]? = some o → Known P l h s vs' i o := by
      intro v hv hkn
      have e : ∀ k, k ≤ m → stOf s l (fun i => if i = m then v else vs i) (fun _ => true) k = stOf s l vs (fun _ => true) k := fun k hk => stOf_congr k fun j hj => by
        show (if j = m then v else vs j) = vs j; rw [if_neg (by omega)]
      refine known_of l rest (m + 1) (fun i => if i = m then v else vs i) hr' hlt ?_ ?_
      · simp only [stOf, if_true, ho, Option.bind_some]
        rw [e m (Nat.le_refl _)]; exact hv
      · intro i o' hi ho'
        by_cases him : i = m
        · subst him
          rw [ho] at ho'; cases ho'
          exact hkn _ (by simp) (e i (Nat.le_refl _))
        · have := hk i o' (by omega) ho'
          unfold Known at this ⊢
          simp only [e i (by omega), if_neg him]
          exact this
    unfold ADr at hd
    cases hg : o.guard with
    | none =>
      rw [hg] at hd
      obtain ⟨v, h1, h2⟩ := hd
      exact step v h2 fun vs' e1 e2 => by unfold Known; rw [hg]; show OkO _ _ _ _ _; rw [e1, e2]; exact h1
    | some g =>
      obtain ⟨j, want⟩ := g
      rw [hg] at hd
      rcases hd with ⟨d, b, h0, h1, h2, h3⟩ | ⟨d, h0, h1, h2⟩
      · by_cases hb : b = want
        · obtain ⟨v, h4, h5⟩ := h2 hb
          exact step v h5 fun vs' e1 e2 => by
            unfold Known; rw [hg]
            exact .inl ⟨d, b, h0, by rw [e2]; exact h1, fun _ => by rw [e1, e2]; exact h4, fun hb' => by subst hb; cases b <;> cases hb'⟩
        · exact step (.tup []) (h3 (by cases b <;> cases want <;> simp_all)) fun vs' e1 e2 => by
            unfold Known; rw [hg]
            exact .inl ⟨d, b, h0, by rw [e2]; exact h1, fun hb' => absurd hb' hb, fun _ => e1⟩
      · exact step (.tup []) h2 fun vs' e1 e2 => by
          unfold Known; rw [hg]
          exact .inr ⟨d, h0, by rw [e2]; exact h1, e1⟩

theorem foldl_or_testBit (acc : Array Nat) (es : List Edge) (x : Nat) : ∀ (s0 : Nat), (es.foldl (fun s e => if Region.binds .any e then s ||| 2 ^ e.on ||| acc.getD e.on 0 else s) s0).testBit x = true →
    s0.testBit x = true ∨ ∃ e ∈ es, Region.binds .any e = true ∧ (x = e.on ∨ (acc.getD e.on 0).testBit x = true) := by
  induction es with
  | nil => intro s0 hx; exact .inl hx
  | cons e es ih =>
    intro s0 hx
    rw [List.foldl_cons] at hx
    rcases ih _ hx with h1 | ⟨e', h1, h2⟩
    · by_cases hb : Region.binds .any e = true
      · rw [if_pos hb, Nat.testBit_or, Nat.testBit_or, Nat.testBit_two_pow] at h1
        rcases (Bool.or_eq_true _ _).mp h1 with h1 | h1
        · rcases (Bool.or_eq_true _ _).mp h1 with h1 | h1
          · exact .inl h1
          · exact .inr ⟨e, List.mem_cons_self, hb, .inl (by have := of_decide_eq_true h1; omega)⟩
        · exact .inr ⟨e, List.mem_cons_self, hb, .inr h1⟩
      · rw [if_neg hb] at h1; exact .inl h1
    · exact .inr ⟨e', List.mem_cons_of_mem _ h1, h2⟩
theorem before_listed {L : Nat → Bool} (hdown : ∀ j o, ops[j]? = some o → L j = true → ∀ e ∈ o.after.toList, Region.binds .any e = true → L e.on = true) :
    ∀ j i, L j = true → ((Region.before ops).getD j 0).testBit i = true → L i = true := by
  have key : ∀ (l pre : List Oper) (acc : Array Nat), acc.size = pre.length → ops.toList = pre ++ l → (∀ j i, L j = true → (acc.getD j 0).testBit i = true → L i = true) →
      ∀ j i, L j = true → ((l.foldl (init := acc) fun acc o => acc.push (o.after.foldl (fun s e => if Region.binds .any e then s ||| 2 ^ e.on ||| acc.getD e.on 0 else s) 0)).getD j 0).testBit i = true → L i = true := by
    intro l
    induction l with
    | nil => intro pre acc _ _ hacc; exact hacc
    | cons o l ih =>
      intro pre acc hsz hops hacc
      refine ih (pre ++ [o]) _ (by simp [hsz]) (by simp [hops]) ?_
      intro j i hj hb
      by_cases hlt : j < acc.size
      · refine hacc j i hj ?_
        simpa [Array.getD_eq_getD_getElem?, Array.getElem?_push, Nat.ne_of_lt hlt] using hb
      · by_cases he : j = acc.size
        · subst he
          have ho : ops[acc.size]? = some o := by rw [← Array.getElem?_toList, hops, hsz]; simp
          have hb' : ((o.after.toList.foldl (fun s e => if Region.binds .any e then s ||| 2 ^ e.on ||| acc.getD e.on 0 else s) 0)).testBit i = true := by
            simpa [Array.getD_eq_getD_getElem?, ← Array.foldl_toList] using hb
          rcases foldl_or_testBit acc _ i 0 hb' with h0 | ⟨e, h1, h2, h3⟩
          · simp at h0
          · have hL := hdown _ o ho hj e h1 h2
            rcases h3 with rfl | h3
            · exact hL
            · exact hacc _ _ hL h3
        · have : (acc.push (o.after.foldl (fun s e => if Region.binds .any e then s ||| 2 ^ e.on ||| acc.getD e.on 0 else s) 0))[j]? = none := by
            apply Array.getElem?_eq_none; simp; omega
          rw [Array.getD_eq_getD_getElem?, this] at hb
          simp at hb
  intro j i hj hb
  unfold Region.before at hb
  rw [← Array.foldl_toList] at hb
  exact key ops.toList [] #[] rfl rfl (fun j i _ hb => by simp [Array.getD_eq_getD_getElem?] at hb) j i hj hb
theorem drawOk_at {n : Md} {l : List Oper} (hok : drawOk n l = true) {j : Nat} {o : Oper} (ho : l[j]? = some o) :
    notDefer o = true ∧ constsOk o = true ∧ dstOk n o.dst = true ∧ (∀ e ∈ o.after.toList, Region.binds .any e = true → e.on < j) ∧ (∀ g want, o.guard = some (g, want) → ((Region.before l.toArray).getD j 0).testBit g = true) ∧
    ∀ i d, i < l.length → i ≠ j → dstAt l.toArray i = some d → (d ∈ tmpsOf l.toArray o ∨ o.dst = some d) → ((Region.before l.toArray).getD (max i j) 0).testBit (min i j) = true := by
  have hj : j < l.length := (List.getElem?_eq_some_iff.1 ho).1
  unfold drawOk at hok
  have h1 := List.all_eq_true.1 hok j (List.mem_range.2 hj)
  simp only [ho, Bool.and_eq_true] at h1
  obtain ⟨⟨⟨⟨⟨h1, h2⟩, h3⟩, h4⟩, h5⟩, h6⟩ := h1
  refine ⟨h1, h2, h3, fun e he hb => by have := List.all_eq_true.1 h4 e he; rw [hb] at this; simpa using this, fun g want hg => by rw [hg] at h5; exact h5, fun i d hi hne hd hor => ?_⟩
  have h7 := List.all_eq_true.1 h6 i (List.mem_range.2 hi)
  simp only [hd, Bool.or_eq_true, beq_iff_eq, Bool.not_eq_true'] at h7
  rcases h7 with h7 | h7 | h7
  · exact absurd h7 hne
  · exfalso
    rcases hor with h8 | h8 <;> simp [h8] at h7
  · exact h7
theorem awp_draw {id : Nat} {l : List Oper} (hm : P.follows .mixedOrders = true) (hok : drawOk n l = true) (hk : ADr P n l.toArray h (fun s' => Q .normal s' h) l s) : AWp P n (.region id l.toArray true) Q s h := by
  intro E σ0 ι a w hr ht
  obtain ⟨vs, ⟨sF, hF, hQ⟩, hkn⟩ := known_of (s := s) (h := h) l l 0 (fun _ => .undef) rfl (Nat.zero_le _) hk (fun i o hi => absurd hi (by omega))
  refine wpIn_region_any hm ?_
  have hr' : Rel E σ0 ι h { w with drawn := w.drawn + 1 } := ⟨hr.os, hr.tape, hr.output, hr.size, hr.old, hr.sigOld, hr.sub, hr.ch, hr.foot, hr.dj, hr.pin, hr.low, hr.xo⟩
  have key : ∀ (fuel : Nat) (listed : Array Bool) (σ : Sig) (a : Act) (w : World), listed.size = l.length →
      (∀ j o, l[j]? = some o → listed.getD j false = true → ∀ e ∈ o.after.toList, Region.binds .any e = true → listed.getD e.on false = true) →
      (List.range l.length).countP (fun j => !listed.getD j false) ≤ fuel →
      Rel E σ ι h w → TR n σ ι (stOf s l vs (fun j => listed.getD j false) l.length) a →
      wpAnyIn (wideR n.ro) 0 P .any l.toArray (fun e a' w' => ∃ s' h' σ' ι', Q e s' h' ∧ Rel E σ' ι' h' w' ∧ TR n σ' ι' s' a') fuel listed a w := by
    have done : ∀ (listed : Array Bool) (σ : Sig) (a : Act) (w : World), listed.size = l.length →
        Region.ready .any l.toArray listed = [] → Rel E σ ι h w → TR n σ ι (stOf s l vs (fun j => listed.getD j false) l.length) a → ∃ s' h' σ' ι', Q .normal s' h' ∧ Rel E σ' ι' h' w ∧ TR n σ' ι' s' a := by
      intro listed σ a w hsz hready hr ht
      have hall : ∀ m j, j < m → j < l.length → listed.getD j false = true := by
        intro m
        induction m with
        | zero => intro j hj; omega
        | succ m ih =>
          intro j hj hlen
          by_cases hlt : j < m
          · exact ih j hlt hlen
          obtain rfl : j = m := by omega
          cases hl : listed.getD j false with
          | true => rfl
          | false =>
            exfalso
            have : j ∈ Region.ready .any l.toArray listed := by
              unfold Region.ready
              refine List.mem_filter.2 ⟨by simpa using hlen, ?_⟩
              have ho : l[j]? = some l[j] := List.getElem?_eq_getElem hlen
              have hj' : listed.getD j true = false := by
                have hb : j < listed.size := by omega
                simpa [Array.getD, hb] using hl
              simp only [hj', Bool.not_false, Bool.true_and, List.getElem?_toArray, ho, Option.map_some, Option.getD_some]
              rw [← Array.all_toList]
              refine List.all_eq_true.2 fun e he => ?_
              cases hb : Region.binds .any e with
              | false => simp
              | true =>
                have h3 := (drawOk_at hok ho).2.2.2.1 e he hb
                rw [ih e.on h3 (by omega)]; simp
            rw [hready] at this; cases this
      refine ⟨_, h, σ, ι, hQ, hr, ?_⟩
      refine ⟨ht.size, ht.defers, fun t => ?_⟩
      have := ht.at_ t
      rwa [stOf_low (M := fun _ => true) l.length fun j hj _ => hall _ j hj hj, hF] at this
    intro fuel
    induction fuel with
    | zero =>
      intro listed σ a w hsz _ hc hr ht
      have hready : Region.ready .any l.toArray listed = [] := by
        rw [List.eq_nil_iff_forall_not_mem]
        intro j hj
        obtain ⟨h1, h2⟩ := List.mem_filter.1 hj
        have h1' : j < l.length := by simpa using h1
        have hb : j < listed.size := by omega
        have h3 : listed.getD j false = false := by
          have := (Bool.and_eq_true _ _ ▸ h2).1
          simpa [Array.getD, hb] using this
        have : 0 < (List.range l.length).countP (fun j => !listed.getD j false) := List.countP_pos_iff.2 ⟨j, List.mem_range.2 h1', by simp [h3]⟩
        omega
      exact ⟨hready, done listed σ a w hsz hready hr ht⟩
    | succ fuel ih =>
      intro listed σ a w hsz hdown hc hr ht
      refine ⟨fun hready => done listed σ a w hsz hready hr ht, fun i hi => ?_⟩
      obtain ⟨h1, h2⟩ := List.mem_filter.1 hi
      have hil : i < l.length := by simpa using h1
      have hb : i < listed.size := by omega
      have ho : l[i]? = some l[i] := List.getElem?_eq_getElem hil
      have h2' := Bool.and_eq_true _ _ ▸ h2
      have hif : listed.getD i false = false := by
        have := h2'.1
        simpa [Array.getD, hb] using this
      have hafter : ∀ e ∈ l[i].after.toList, Region.binds .any e = true → listed.getD e.on false = true := by
        have h3 := h2'.2
        simp only [List.getElem?_toArray, ho, Option.map_some, Option.getD_some] at h3
        rw [← Array.all_toList] at h3
        intro e he hbe
        have := List.all_eq_true.1 h3 e he
        simpa [hbe] using this
      have hopsA : ∀ j o, l.toArray[j]? = some o ↔ l[j]? = some o := fun j o => by rw [List.getElem?_toArray]
      obtain ⟨c0, c1, c2, c3, c4, c5⟩ := drawOk_at hok ho
      -- ahead of this one
      have hL' : ∀ x, (listed.setIfInBounds i true).getD x false = (listed.getD x false || x == i) := fun x => by
        by_cases hx : x = i
        · subst hx; simp [Array.getD, hb]
        · have : ¬ i = x := fun e => hx e.symm
          simp [Array.getD_eq_getD_getElem?, Array.getElem?_setIfInBounds, this, hx]
      have hdown' : ∀ j o, l[j]? = some o → (listed.setIfInBounds i true).getD j false = true → ∀ e ∈ o.after.toList, Region.binds .any e = true → (listed.setIfInBounds i true).getD e.on false = true := by
        intro j o hjo hj e he hbe
        rw [hL'] at hj ⊢
        rcases (Bool.or_eq_true _ _).mp hj with hj | hj
        · rw [hdown j o hjo hj e he hbe]; rfl
        · have : j = i := by simpa using hj
          subst this
          rw [ho] at hjo; cases hjo
          rw [hafter e he hbe]; rfl
      have hbef' := before_listed (ops := l.toArray) (L := fun j => (listed.setIfInBounds i true).getD j false) (fun j o hjo => hdown' j o ((hopsA j o).1 hjo))
      have hbef := before_listed (ops := l.toArray) (L := fun j => listed.getD j false) (fun j o hjo => hdown j o ((hopsA j o).1 hjo))
      have hlow : ∀ x, x ≠ i → ((Region.before l.toArray).getD i 0).testBit x = true → listed.getD x false = true := by
        intro x hx hbit
        have := hbef' i x (by simp [hL']) hbit
        simp only [hL'] at this
        rcases (Bool.or_eq_true _ _).mp this with h | h
        · exact h
        · exact absurd (by simpa using h) hx
      -- a slot that it names: those that write it ahead of it, in the text, have come up; the others have not
      have hside : ∀ t, (t ∈ tmpsOf l.toArray l[i] ∨ l[i].dst = some t) → ∀ j, j < l.length → (l[j]?).bind (·.dst) = some t → j ≠ i → listed.getD j false = decide (j < i) := by
        intro t htm j hj hjd hne
        have hd : dstAt l.toArray j = some t := by simpa [dstAt] using hjd
        have hbit := c5 j t hj hne hd htm
        by_cases hlt : j < i
        · rw [Nat.max_eq_right (by omega), Nat.min_eq_left (by omega)] at hbit
          rw [hlow j hne hbit]; simp [hlt]
        · have hgt : i < j := by omega
          rw [Nat.max_eq_left (by omega), Nat.min_eq_right (by omega)] at hbit
          simp only [hlt, decide_false]
          cases hc : listed.getD j false with
          | false => rfl
          | true => have := hbef j i hc hbit; simp only [hif] at this; cases this
      have hget : ∀ t, (t ∈ tmpsOf l.toArray l[i] ∨ l[i].dst = some t) → get (stOf s l vs (fun j => listed.getD j false) l.length) t = get (stOf s l vs (fun _ => true) i) t := by
        intro t htm
        rw [stOf_high (i := i) l.length (by omega) fun j h3 h4 hjd => ?_]
        · exact stOf_low i fun j h3 hjd => by rw [hside t htm j (by omega) hjd (by omega)]; simp [h3]
        · by_cases hji : j = i
          · subst hji; exact hif
          · rw [hside t htm j h4 hjd hji]; simp; omega
      have hcount : (List.range l.length).countP (fun j => !(listed.setIfInBounds i true).getD j false) ≤ fuel := by
        have hlt : (List.range l.length).countP (fun j => !(listed.setIfInBounds i true).getD j false) < (List.range l.length).countP (fun j => !listed.getD j false) := by
          have hsplit : List.range l.length = List.range i ++ i :: (List.range' (i + 1) (l.length - (i + 1))) := by
            obtain ⟨m, hm⟩ : ∃ m, l.length = i + (m + 1) := ⟨l.length - (i + 1), by omega⟩
            rw [hm, show i + (m + 1) - (i + 1) = m by omega, List.range_eq_range', List.range_eq_range', ← List.range'_append_1, List.range'_succ]
            simp
          rw [hsplit, List.countP_append, List.countP_append, List.countP_cons, List.countP_cons]
          have e1 : (List.range i).countP (fun j => !(listed.setIfInBounds i true).getD j false) = (List.range i).countP (fun j => !listed.getD j false) := List.countP_congr fun x hx => by
            rw [hL']; have := List.mem_range.1 hx; simp [show x ≠ i by omega]
          have e2 : (List.range' (i + 1) (l.length - (i + 1))).countP (fun j => !(listed.setIfInBounds i true).getD j false) = (List.range' (i + 1) (l.length - (i + 1))).countP (fun j => !listed.getD j false) := List.countP_congr fun x hx => by
            rw [hL']; have := (List.mem_range'_1.1 hx).1; simp [show x ≠ i by omega]
          rw [e1, e2, hL']
          simp [hif]
        omega
      have fin : ∀ σ' w' u, Sig.le σ σ' → Rel E σ' ι h w' → VR σ' ι (vs i) u →
          wpAnyIn (wideR n.ro) 0 P .any l.toArray (fun e a' w' => ∃ s' h' σ' ι', Q e s' h' ∧ Rel E σ' ι' h' w' ∧ TR n σ' ι' s' a') fuel (listed.setIfInBounds i true) (a.put l[i].dst u) w' := by
        intro σ' w' u hle hr'' hv
        refine ih _ σ' _ w' (by simpa using hsz) hdown' hcount hr'' ?_
        have hp := (ht.mono hle).putS c2 hv
        refine ⟨hp.size, hp.defers, fun t => ?_⟩
        have h3 := hp.at_ t
        rw [get_putS] at h3
        by_cases hdt : l[i].dst = some t
        · rw [if_pos hdt] at h3
          have : get (stOf s l vs (fun j => (listed.setIfInBounds i true).getD j false) l.length) t = vs i := by
            rw [stOf_high (i := i + 1) l.length (by omega) fun j h4 h5 hjd => ?_]
            · simp only [stOf, hL', hif, BEq.rfl, Bool.or_true, if_true, get_putS, ho, Option.bind_some, if_pos hdt]
            · rw [hL', hside t (.inr hdt) j h5 hjd (by omega)]; simp; omega
          rw [this]; exact h3
        · rw [if_neg hdt] at h3
          have : get (stOf s l vs (fun j => (listed.setIfInBounds i true).getD j false) l.length) t = get (stOf s l vs (fun j => listed.getD j false) l.length) t :=
            stOf_low _ fun j h4 hjd => by
              rw [hL']
              have : j ≠ i := fun e => by subst e; rw [ho] at hjd; exact hdt (by simpa using hjd)
              simp [this]
          rw [this]; exact h3
      unfold wpOpIn
      simp only [List.getElem?_toArray, ho]
      have hopnd : ∀ x ∈ l[i].op.operands.toList, VR σ ι (evA (stOf s l vs (fun _ => true) i) x) (a.eval x) := by
        intro x hx
        refine evA_sound (List.all_eq_true.1 c1 x hx) fun t htx => ?_
        have htm : t ∈ tmpsOf l.toArray l[i] := List.mem_append_left _ (List.mem_filterMap.2 ⟨x, hx, by rw [htx]⟩)
        have := ht.at_ t
        rwa [hget t (.inl htm)] at this
      have hkn' := hkn i _ ho
      unfold Known at hkn'
      have run : OkO P l[i] (stOf s l vs (fun _ => true) i) h (vs i) → l[i].wpIn (wideR n.ro) 0 P a w (wpAnyIn (wideR n.ro) 0 P .any l.toArray (fun e a' w' => ∃ s' h' σ' ι', Q e s' h' ∧ Rel E σ' ι' h' w' ∧ TR n σ' ι' s' a') fuel (listed.setIfInBounds i true)) (fun e a' w' => ∃ s' h' σ' ι', Q e s' h' ∧ Rel E σ' ι' h' w' ∧ TR n σ' ι' s' a') :=
        fun hO => op_R c0 (hO E σ ι a w hr hopnd _ _ fin)
      cases hg : l[i].guard with
      | none =>
        rw [hg] at hkn'
        rw [if_pos (by simp [Region.wanted, hg])]
        exact run hkn'
      | some g =>
        obtain ⟨j, want⟩ := g
        rw [hg] at hkn'
        have hdn : ∀ d, dstAt l.toArray j = some d → d < n.n := fun d hd => by
          have hj : ∃ oj, l[j]? = some oj ∧ oj.dst = some d := by
            unfold dstAt at hd
            cases hjo : l[j]? with
            | none => simp [hjo] at hd
            | some oj => exact ⟨oj, rfl, by simpa [hjo] using hd⟩
          obtain ⟨oj, hjo, hjd⟩ := hj
          have := (drawOk_at hok hjo).2.2.1
          rw [hjd] at this
          simpa [dstOk] using this
        have hdt : ∀ d, dstAt l.toArray j = some d → d ∈ tmpsOf l.toArray l[i] := fun d hd => List.mem_append_right _ (by rw [hg]; simp [hd])
        rcases hkn' with ⟨d, b, hd, hb', h3, h4⟩ | ⟨d, hd, hb', h4⟩
        · have hv := ht.at_ d
          rw [hget d (.inl (hdt d hd)), hb'] at hv
          rw [wanted_of hg hd (by rw [ht.size]; exact hdn d hd) hv]
          by_cases hw : b = want
          · rw [if_pos (by simpa using hw)]
            exact run (h3 hw)
          · rw [if_neg (by simpa using hw)]
            exact ⟨fun _ _ => trivial, fin σ w undef (Sig.le.refl σ) hr (by rw [h4 (by cases b <;> cases want <;> simp_all)]; exact VR.tup0)⟩
        · have hv := ht.at_ d
          rw [hget d (.inl (hdt d hd)), hb'] at hv
          rw [unwanted_of hg hd (by rw [ht.size]; exact hdn d hd) hv.tup0_inv, if_neg (by simp)]
          exact ⟨fun _ _ => trivial, fin σ w undef (Sig.le.refl σ) hr (by rw [h4]; exact VR.tup0)⟩
  have hrep : ∀ j, (Array.replicate l.toArray.size false).getD j false = false := fun j => by
    simp only [Array.getD_eq_getD_getElem?, Array.getElem?_replicate]; split <;> rfl
  refine key l.toArray.size _ σ0 a _ (by simp) ?_ ?_ hr' ?_
  · intro j o hj hl
    rw [hrep] at hl; cases hl
  · refine Nat.le_trans List.countP_le_length ?_
    simp
  · refine ⟨ht.size, ht.defers, fun t => ?_⟩
    have := ht.at_ t
    rw [stOf_high (i := 0) l.length (Nat.zero_le _) fun j _ _ _ => hrep j]
    exact this
end
end Go.Proofs.YtkkmageogkkchaaGreat
