/- Abstract values and states: a walk that names no world and no order. No condition. -/
import Derived.Orders
import Derived.WalkKit
import Derived.WalkSpells
import Derived.WalkLawsBesides
import Derived.Below
import Derived.Deep.Slices
import Derived.Deep.Draws
import Derived.Deep.LoopGhost
import Derived.Laws.OwnMore
import Derived.RangeFuncWrites
import Derived.RangeFuncCalls
import Derived.OrdersIn
import Derived.Sort.LoopGhostIn
set_option linter.unusedSimpArgs false
set_option linter.unusedVariables false
set_option maxHeartbeats 1000000
set_option maxRecDepth 100000
namespace Go.Proofs.YtfjoaeghnfkdlaaGreatDoor
open Go.RowKit

inductive AV where
 | undef
 | int (k : IntKind) (n : Int)
 | bool (b : Bool)
 | str (s : ByteArray)
 | nils
 | lst (sz : Nat) (xs : List (List AV))
 | ref (cs : List AV)
 | agg (cs : List AV)
 | tup (vs : List AV)
 | own (id : Nat)
 | ptr (id off : Nat)
 | eptr (id sz i j : Nat)
 | part (id j : Nat)
 | pptr (id j off : Nat)
 | nilp
 | fn (f : Fn) (first captured : List AV)
 | nilf
 deriving Inhabited

def jS : IntKind -> Int -> Prop
 | .i8, n => -128 <= n ∧ n <= 127
 | .i16, n => -32768 <= n ∧ n <= 32767
 | .i32, n => -2147483648 <= n ∧ n <= 2147483647
 | .i64, n => -9223372036854775808 <= n ∧ n <= 9223372036854775807
 | .u8, n => 0 <= n ∧ n <= 255
 | .u16, n => 0 <= n ∧ n <= 65535
 | .u32, n => 0 <= n ∧ n <= 4294967295
 | .u64, n => 0 <= n ∧ n <= 18446744073709551615
theorem qc {k : IntKind} {n : Int} : jS k n ↔ (Lit.int k n).wf = true := by
 cases k <;> simp [jS, Lit.wf, IntKind.min, IntKind.max, IntKind.signed, IntKind.bits]
theorem wc {k : IntKind} {n : Int} (h : jS k n) : k.wrap n = n := by
 cases k <;> simp only [jS] at h <;> simp only [IntKind.wrap, IntKind.signed, IntKind.bits, Bool.true_and, Bool.false_and] <;>
  (try simp only [decide_eq_true_eq, ge_iff_le, Bool.false_eq_true, if_false]) <;> (try split) <;> omega
theorem w6 (k : IntKind) (n : Int) : jS k (k.wrap n) := by
 cases k <;> simp only [jS, IntKind.wrap, IntKind.signed, IntKind.bits, Bool.true_and, Bool.false_and] <;>
  (try simp only [decide_eq_true_eq, ge_iff_le, Bool.false_eq_true, if_false]) <;> (try split) <;> omega

def L2 {α β : Type} (R : α -> β -> Prop) (xs : List α) (ys : List β) : Prop := xs.length = ys.length ∧ ∀ (j : Nat) (x : α) (y : β), xs[j]? = some x -> ys[j]? = some y -> R x y
theorem L2.nil {α β : Type} (R : α -> β -> Prop) : L2 R [] [] := ⟨rfl, fun j x y h => by simp at h⟩
theorem L2.cons {α β : Type} {R : α -> β -> Prop} {x : α} {y : β} {xs : List α} {ys : List β} (h : R x y) (hs : L2 R xs ys) : L2 R (x :: xs) (y :: ys) :=
 ⟨by simp [hs.1], fun j a b ha hb => by
  cases j with
  | zero => simp at ha hb; subst ha; subst hb; exact h
  | succ j => exact hs.2 j a b (by simpa using ha) (by simpa using hb)⟩
theorem L2.mono {α β : Type} {R R' : α -> β -> Prop} {xs : List α} {ys : List β} (h : L2 R xs ys) (hm : ∀ x y, R x y -> R' x y) : L2 R' xs ys := ⟨h.1, fun j x y a b => hm _ _ (h.2 j x y a b)⟩
theorem L2.append {α β : Type} {R : α -> β -> Prop} {xs xs' : List α} {ys ys' : List β} (h : L2 R xs ys) (h' : L2 R xs' ys') : L2 R (xs ++ xs') (ys ++ ys') :=
 ⟨by simp [h.1, h'.1], fun j x y hx hy => by
  rw [List.getElem?_append] at hx hy
  by_cases hj : j < xs.length
  ·rw [if_pos hj] at hx; rw [if_pos (by rw [<- h.1]; exact hj)] at hy; exact h.2 j x y hx hy
  ·rw [if_neg hj] at hx; rw [if_neg (by rw [<- h.1]; exact hj), <- h.1] at hy; exact h'.2 _ x y hx hy⟩
theorem L2.take {α β : Type} {R : α -> β -> Prop} {xs : List α} {ys : List β} (h : L2 R xs ys) (n : Nat) : L2 R (xs.take n) (ys.take n) :=
 ⟨by simp [h.1], fun j x y hx hy => by
  rw [List.getElem?_take] at hx hy
  split at hx
  ·rename_i hj; rw [if_pos hj] at hy; exact h.2 j x y hx hy
  ·cases hx⟩
theorem L2.drop {α β : Type} {R : α -> β -> Prop} {xs : List α} {ys : List β} (h : L2 R xs ys) (n : Nat) : L2 R (xs.drop n) (ys.drop n) :=
 ⟨by simp [h.1], fun j x y hx hy => h.2 (n + j) x y (by simpa using hx) (by simpa using hy)⟩
theorem L2.set {α β : Type} {R : α -> β -> Prop} {xs : List α} {ys : List β} (h : L2 R xs ys) (n : Nat) {x : α} {y : β} (hr : R x y) : L2 R (xs.set n x) (ys.set n y) :=
 ⟨by simp [h.1], fun j a b ha hb => by
  rw [List.getElem?_set] at ha hb
  by_cases hj : n = j
  ·subst hj
   rw [if_pos rfl] at ha hb
   split at ha
   ·rename_i h1; rw [if_pos (by rw [<- h.1]; exact h1)] at hb; simp at ha hb; subst ha; subst hb; exact hr
   ·cases ha
  ·rw [if_neg hj] at ha hb; exact h.2 j a b ha hb⟩
theorem L2.get {α β : Type} {R : α -> β -> Prop} {xs : List α} {ys : List β} (h : L2 R xs ys) {j : Nat} {x : α} (hx : xs[j]? = some x) : ∃ y, ys[j]? = some y ∧ R x y := by
 have hj : j < ys.length := by rw [<- h.1]; exact (List.getElem?_eq_some_iff.1 hx).1
 exact ⟨ys[j], List.getElem?_eq_getElem hj, h.2 j _ _ hx (List.getElem?_eq_getElem hj)⟩
theorem L2.nil_iff {α β : Type} {R : α -> β -> Prop} {ys : List β} : L2 R [] ys ↔ ys = [] :=
 ⟨fun h => List.eq_nil_of_length_eq_zero (by simpa using h.1.symm), fun h => by subst h; exact L2.nil R⟩
theorem L2.cons_inv {α β : Type} {R : α -> β -> Prop} {x : α} {xs : List α} {ys : List β} (h : L2 R (x :: xs) ys) : ∃ y ys', ys = y :: ys' ∧ R x y ∧ L2 R xs ys' := by
 cases ys with
 | nil => have := h.1; simp at this
 | cons y ys' => exact ⟨y, ys', rfl, h.2 0 x y rfl rfl, by have := h.1; simpa using this, fun j a b ha hb => h.2 (j + 1) a b (by simpa using ha) (by simpa using hb)⟩

abbrev Sig := Addr -> Option Value
inductive VR0 (σ : Sig) : AV -> Value -> Prop
 | undef (v : Value) : VR0 σ .undef v
 | int (k : IntKind) (n : Int) (h : jS k n) : VR0 σ (.int k n) (.int k n)
 | bool (b : Bool) : VR0 σ (.bool b) (.bool b)
 | str (s : ByteArray) : VR0 σ (.str s) (.string s)
 | nils : VR0 σ .nils (.slice none 0 0)
 | empty (sz : Nat) (A : Option Addr) (cap : Nat) (h : cap <= maxLen) : VR0 σ (.lst sz []) (.slice A 0 cap)
 | lst (sz : Nat) (xs : List (List AV)) (b off cap : Nat) (g : Nat -> Value) (h1 : xs.length <= cap) (h2 : cap <= maxLen) (h3 : ∀ c ∈ xs, c.length = sz)
   (h4 : ∀ (j : Nat) (c : AV), xs.flatten[j]? = some c -> σ ⟨b, off + j, none⟩ = some (g j)) (h5 : ∀ (j : Nat) (c : AV), xs.flatten[j]? = some c -> VR0 σ c (g j)) :
   VR0 σ (.lst sz xs) (.slice (some ⟨b, off, none⟩) xs.length cap)
 | ref (cs : List AV) (b off : Nat) (g : Nat -> Value) (h4 : ∀ (j : Nat) (c : AV), cs[j]? = some c -> σ ⟨b, off + j, none⟩ = some (g j)) (h5 : ∀ (j : Nat) (c : AV), cs[j]? = some c -> VR0 σ c (g j)) :
   VR0 σ (.ref cs) (.pointer (some ⟨b, off, none⟩))
 | agg (cs : List AV) (vs : List Value) (h1 : cs.length = vs.length) (h2 : ∀ (j : Nat) (c : AV) (v : Value), cs[j]? = some c -> vs[j]? = some v -> VR0 σ c v) : VR0 σ (.agg cs) (.agg vs.toArray)
 | tup (cs : List AV) (vs : List Value) (h1 : cs.length = vs.length) (h2 : ∀ (j : Nat) (c : AV) (v : Value), cs[j]? = some c -> vs[j]? = some v -> VR0 σ c v) : VR0 σ (.tup cs) (.tuple vs.toArray)
 | nilp : VR0 σ .nilp (.pointer none)
 | fn (f : Fn) (xs ys : List AV) (us vs : List Value) (h1 : xs.length = us.length) (h2 : ∀ (j : Nat) (c : AV) (v : Value), xs[j]? = some c -> us[j]? = some v -> VR0 σ c v)
   (h3 : ys.length = vs.length) (h4 : ∀ (j : Nat) (c : AV) (v : Value), ys[j]? = some c -> vs[j]? = some v -> VR0 σ c v) : VR0 σ (.fn f xs ys) (.func f us.toArray vs.toArray)
 | nilf : VR0 σ .nilf .nilFunc
def Sig.le (σ σ' : Sig) : Prop := ∀ a v, σ a = some v -> σ' a = some v
theorem Sig.le.refl (σ : Sig) : Sig.le σ σ := fun _ _ h => h
theorem Sig.le.trans {a b c : Sig} (h : Sig.le a b) (k : Sig.le b c) : Sig.le a c := fun p v hp => k p v (h p v hp)
theorem VR0.mono {σ σ' : Sig} (hs : Sig.le σ σ') {x : AV} {v : Value} (h : VR0 σ x v) : VR0 σ' x v := by
 induction h with
 | undef v => exact .undef v
 | int k n h => exact .int k n h
 | bool b => exact .bool b
 | str s => exact .str s
 | nils => exact .nils
 | empty sz A cap h => exact .empty sz A cap h
 | lst sz xs b off cap g h1 h2 h3 h4 h5 ih => exact .lst sz xs b off cap g h1 h2 h3 (fun j c hc => hs _ _ (h4 j c hc)) ih
 | ref cs b off g h4 h5 ih => exact .ref cs b off g (fun j c hc => hs _ _ (h4 j c hc)) ih
 | agg cs vs h1 h2 ih => exact .agg cs vs h1 ih
 | tup cs vs h1 h2 ih => exact .tup cs vs h1 ih
 | nilp => exact .nilp
 | fn f xs ys us vs h1 h2 h3 h4 ih1 ih2 => exact .fn f xs ys us vs h1 ih1 h3 ih2
 | nilf => exact .nilf

def jC : Value -> Option Nat
 | .pointer (some a) => some a.block
 | .slice (some a) _ _ => some a.block
 | .map (some b) => some b
 | _ => none
def Feet (v : Value) (g : Nat) : Prop := jC v = some g ∨ ∃ vs u, v = .tuple vs ∧ u ∈ vs.toList ∧ jC u = some g
def Yp : Value -> List Nat
 | .tuple vs => vs.toList.filterMap jC
 | v => (jC v).toList
theorem zP {v : Value} {g : Nat} : g ∈ Yp v ↔ Feet v g := by
 by_cases hv : ∃ vs, v = .tuple vs
 ·obtain ⟨vs, rfl⟩ := hv
  rw [Yp, List.mem_filterMap]
  exact ⟨fun ⟨u, h1, h2⟩ => .inr ⟨vs, u, rfl, h1, h2⟩, fun h => by
   rcases h with h | ⟨vs', u, e, h1, h2⟩
   ·cases h
   ·cases e; exact ⟨u, h1, h2⟩⟩
 ·have e : Yp v = (jC v).toList := by cases v <;> first | rfl | exact absurd ⟨_, rfl⟩ hv
  rw [e, Option.mem_toList]
  exact ⟨fun h => .inl h, fun h => h.elim id fun ⟨vs, _, e, _⟩ => absurd ⟨vs, e⟩ hv⟩
theorem Feet.one {v : Value} {g : Nat} (h : Feet v g) (hv : ∀ vs, v ≠ .tuple vs) : jC v = some g := h.elim id fun ⟨vs, _, e, _⟩ => absurd e (hv vs)
inductive VR (σ : Sig) (ι : Nat -> Value) : AV -> Value -> Prop
 | base (x : AV) (v : Value) (h : VR0 σ x v) : VR σ ι x v
 | own (id : Nat) (h : (ι id).oneCell' = true) : VR σ ι (.own id) (ι id)
 | ptr (id off g : Nat) (h : jC (ι id) = some g) : VR σ ι (.ptr id off) (.pointer (some ⟨g, off, none⟩))
 | eptr (id sz i j g : Nat) (h : jC (ι id) = some g) : VR σ ι (.eptr id sz i j) (.pointer (some ⟨g, i * sz + j, none⟩))
 | part (id j : Nat) (vs : Array Value) (v : Value) (h : ι id = .tuple vs) (hj : vs[j]? = some v) (h1 : v.oneCell' = true) : VR σ ι (.part id j) v
 | pptr (id j off g : Nat) (vs : Array Value) (u : Value) (h : ι id = .tuple vs) (hj : vs[j]? = some u) (hg : jC u = some g) : VR σ ι (.pptr id j off) (.pointer (some ⟨g, off, none⟩))
 | agg (cs : List AV) (vs : List Value) (h1 : cs.length = vs.length) (h2 : ∀ (j : Nat) (c : AV) (v : Value), cs[j]? = some c -> vs[j]? = some v -> VR σ ι c v) : VR σ ι (.agg cs) (.agg vs.toArray)
 | tup (cs : List AV) (vs : List Value) (h1 : cs.length = vs.length) (h2 : ∀ (j : Nat) (c : AV) (v : Value), cs[j]? = some c -> vs[j]? = some v -> VR σ ι c v) : VR σ ι (.tup cs) (.tuple vs.toArray)
 | fn (f : Fn) (xs ys : List AV) (us vs : List Value) (h1 : xs.length = us.length) (h2 : ∀ (j : Nat) (c : AV) (v : Value), xs[j]? = some c -> us[j]? = some v -> VR σ ι c v)
   (h3 : ys.length = vs.length) (h4 : ∀ (j : Nat) (c : AV) (v : Value), ys[j]? = some c -> vs[j]? = some v -> VR σ ι c v) : VR σ ι (.fn f xs ys) (.func f us.toArray vs.toArray)
theorem VR.mono {σ σ' : Sig} {ι : Nat -> Value} (hs : Sig.le σ σ') {x : AV} {v : Value} (h : VR σ ι x v) : VR σ' ι x v := by
 induction h with
 | base x v h => exact .base x v (h.mono hs)
 | own id h => exact .own id h
 | ptr id off g h => exact .ptr id off g h
 | eptr id sz i j g h => exact .eptr id sz i j g h
 | part id j vs v h hj h1 => exact .part id j vs v h hj h1
 | pptr id j off g vs u h hj hg => exact .pptr id j off g vs u h hj hg
 | agg cs vs h1 h2 ih => exact .agg cs vs h1 ih
 | tup cs vs h1 h2 ih => exact .tup cs vs h1 ih
 | fn f xs ys us vs h1 h2 h3 h4 ih1 ih2 => exact .fn f xs ys us vs h1 ih1 h3 ih2

structure SemC where
 rel : Sig -> Array Obj -> Value -> Prop
 keep : ∀ σ σ' H H' v, rel σ H v -> Sig.le σ σ' -> (∀ g, Feet v g -> H'[g]? = H[g]?) -> rel σ' H' v
 lt : ∀ σ H v g, rel σ H v -> Feet v g -> g < H.size
inductive Chunk where
 | blk (ty : TypeId) (cs : List AV)
 | row (e : TypeId) (sz : Nat) (xs : List (List AV))
 | sem (c : SemC)
 deriving Inhabited
abbrev j6 := List (Nat × AV)
abbrev j8 := List (Nat × Chunk)
def get : j6 -> Nat -> AV
 | [], _ => .undef
 | (i, v) :: r, t => bif Nat.beq i t then v else get r t
def j9 : j8 -> Nat -> Option Chunk
 | [], _ => none
 | (i, v) :: r, t => bif Nat.beq i t then some v else j9 r t
theorem qO (i : Nat) (v : AV) (r : j6) (t : Nat) : get ((i, v) :: r) t = if i = t then v else get r t := by
 simp only [get]; by_cases h : i = t
 ·subst h; simp
 ·have : Nat.beq i t = false := Bool.eq_false_iff.2 fun e => h (Nat.eq_of_beq_eq_true e)
  simp [h, this]
theorem j7 (i : Nat) (v : Chunk) (r : j8) (t : Nat) : j9 ((i, v) :: r) t = if i = t then some v else j9 r t := by
 simp only [j9]; by_cases h : i = t
 ·subst h; simp
 ·have : Nat.beq i t = false := Bool.eq_false_iff.2 fun e => h (Nat.eq_of_beq_eq_true e)
  simp [h, this]

def CR (σ : Sig) (ι : Nat -> Value) (w : World) (i : Nat) : Chunk -> Prop
 | .blk ty cs => ∃ g cur, ι i = .pointer (some ⟨g, 0, none⟩) ∧ w.heap[g]? = some (.cells cur ty (0, 0)) ∧ L2 (VR σ ι) cs cur.toList
 | .row e sz xs => 0 < sz ∧ (∀ c ∈ xs, c.length = sz) ∧ ∃ vs, w.ownsRow 0 e sz (ι i) xs.length vs ∧ L2 (VR0 σ) xs.flatten vs
 | .sem c => c.rel σ w.heap (ι i)

def ZV (id : Nat) : Bool := Nat.ble 10 id && Nat.blt id 100
theorem yD {id : Nat} (h : ZV id = true) : 10 <= id ∧ id < 100 := by
 rw [ZV, Bool.and_eq_true] at h
 exact ⟨Nat.ble_eq ▸ h.1, by simpa [Nat.blt_eq] using h.2⟩
structure Env where
 w : World
 sig : Sig
 may : List (Nat × Nat)
 pin : List (Nat × Value)
 xold : List (Nat × Obj)
structure Rel (E : Env) (σ : Sig) (ι : Nat -> Value) (h : j8) (w : World) : Prop where
 os : w.os = E.w.os
 tape : w.tape = E.w.tape
 output : w.output = E.w.output
 size : E.w.heap.size <= w.heap.size
 old : ∀ b, b < E.w.heap.size -> (∀ i, (i, b) ∉ E.may) -> w.heap[b]? = E.w.heap[b]?
 sigOld : ∀ a : Addr, a.block < E.w.heap.size -> σ a = E.sig a
 sub : ∀ a v, σ a = some v -> w.cell? a = some v
 ch : ∀ i c, j9 h i = some c -> CR σ ι w i c
 foot : ∀ i c, j9 h i = some c -> ∀ g, Feet (ι i) g -> ((i, g) ∈ E.may ∨ E.w.heap.size <= g) ∧ ∀ o, σ ⟨g, o, none⟩ = none
 dj : ∀ i j c d, j9 h i = some c -> j9 h j = some d -> ∀ g, Feet (ι i) g -> Feet (ι j) g -> i = j
 pin : ∀ p ∈ E.pin, p.1 < 5 ∧ ι p.1 = p.2
 low : ∀ p ∈ E.may, p.1 < 10 ∨ 100 <= p.1
 xo : ∀ p ∈ E.xold, E.w.heap.size <= p.1 ∧ w.heap[p.1]? = some p.2 ∧ ∀ i c, j9 h i = some c -> ¬ Feet (ι i) p.1

structure Md where
 n : Nat
 ro : Option Nat := none
 ds : List Deferred := []
 pins : List (Nat × Value) := []
def qd (ro : Option Nat) : Fence := { Fence.wide with round := ro }
theorem Xi {ro : Option Nat} {m : Nat} {P : Program} {f : FuncId} {args : Array Value} {w : World} {R : Ending -> World -> Prop} (h : Calls P f args w R) : CallsIn (qd ro) m P f args w R := by
 cases ro with
 | none => exact callsIn_wide.2 h
 | some l => exact CallsIn.inRound l (callsIn_wide.2 h)
theorem j6L {ro : Option Nat} {m : Nat} {P : Program} {row : String} {args : Array Value} {w : World} {R : Value -> World -> Prop} (h : Rows P row args w R) : RowsIn (qd ro) m P row args w R :=
 fun c cs _ => let ⟨v, w', r, s⟩ := h c cs; ⟨v, w', r, stepsIn_wide.2 s⟩
def xO (o : Oper) : Bool := match o.op with | .defer _ => false | _ => true
def yN (l : List Oper) : Bool := l.all xO
theorem Je {ro : Option Nat} {P : Program} {o : Oper} {a : Act} {w : World} {K : Act -> World -> Prop} {Q : Exit -> Act -> World -> Prop} (hnd : xO o = true) (h : o.wp P a w K Q) : o.wpIn (qd ro) 0 P a w K Q := by
 refine ⟨fun _ _ => trivial, ?_⟩
 have hnd' : ∀ c, o.op ≠ .defer c := fun c e => by rw [xO, e] at hnd; cases hnd
 rw [Oper.semAt_eq _ _ _ hnd']
 unfold Oper.wp at h
 generalize (execOp a.eval o).run P w = r at *
 cases r with
 | ok x w' =>
  cases x <;> simp only [Oper.upon, Oper.uponIn] at h ⊢ <;> first | exact h | exact h.elim | exact ⟨fun hd => absurd hd (by simp [qd, Fence.wide]), Xi h⟩ | exact ⟨fun hd => absurd hd (by simp [qd, Fence.wide]), j6L h⟩
 | halt x w' => cases x <;> simp only [Oper.upon, Oper.uponIn] at h ⊢ <;> first | exact h | exact h.elim
structure TR (n : Md) (σ : Sig) (ι : Nat -> Value) (s : j6) (a : Act) : Prop where
 size : a.tmps.size = n.n
 defers : a.defers = n.ds ∧ ∀ p ∈ n.pins, p.1 < 5 ∧ ι p.1 = p.2
 at_ : ∀ t, VR σ ι (get s t) (a.tmps.getD t undef)
theorem TR.mono {n : Md} {σ σ' : Sig} {ι : Nat -> Value} {s : j6} {a : Act} (h : TR n σ ι s a) (hs : Sig.le σ σ') : TR n σ' ι s a := ⟨h.size, h.defers, fun t => (h.at_ t).mono hs⟩
theorem TR.put {n : Md} {σ : Sig} {ι : Nat -> Value} {s : j6} {a : Act} (h : TR n σ ι s a) {d : Nat} (hd : d < n.n) {x : AV} {v : Value} (hv : VR σ ι x v) : TR n σ ι ((d, x) :: s) (a.put (some d) v) := by
 refine ⟨by simp [Act.put, h.size], h.defers, fun t => ?_⟩
 rw [qO]
 by_cases ht : d = t
 ·subst ht
  rw [if_pos rfl]
  have : (a.put (some d) v).tmps.getD d Go.undef = v := by simp [Act.put, Array.getD, h.size, hd]
  rw [this]; exact hv
 ·rw [if_neg ht]
  have : (a.put (some d) v).tmps.getD t Go.undef = a.tmps.getD t Go.undef := by
   simp only [Act.put, Array.getD_eq_getD_getElem?, Array.getElem?_setIfInBounds, if_neg ht]
  rw [this]; exact h.at_ t
def jX (s : j6) (d : Option Nat) (v : AV) : j6 := match d with | some d => (d, v) :: s | none => s
def qj (n : Md) (d : Option Nat) : Bool := match d with | some d => Nat.blt d n.n | none => true
theorem TR.putS {n : Md} {σ : Sig} {ι : Nat -> Value} {s : j6} {a : Act} (h : TR n σ ι s a) {d : Option Nat} (hd : qj n d = true) {x : AV} {v : Value} (hv : VR σ ι x v) : TR n σ ι (jX s d x) (a.put d v) := by
 cases d with
 | none => exact h
 | some d => exact h.put (by simpa [qj] using hd) hv

def AWp (P : Program) (n : Md) (c : Code) (Q : Exit -> j6 -> j8 -> Prop) (s : j6) (h : j8) : Prop :=
 ∀ (E : Env) (σ : Sig) (ι : Nat -> Value) (a : Act) (w : World), Rel E σ ι h w -> TR n σ ι s a ->
  c.wpIn (qd n.ro) 0 P (fun e a' w' => ∃ s' h' σ' ι', Q e s' h' ∧ Rel E σ' ι' h' w' ∧ TR n σ' ι' s' a') a w
section
variable {P : Program} {n : Md} {Q : Exit -> j6 -> j8 -> Prop} {s : j6} {h : j8}
def j2Z (next : j6 -> j8 -> Prop) (Q : Exit -> j6 -> j8 -> Prop) : Exit -> j6 -> j8 -> Prop
 | .normal, s, h => next s h
 | e, s, h => Q e s h
def AIn (id : Nat) (Q : Exit -> j6 -> j8 -> Prop) : Exit -> j6 -> j8 -> Prop
 | .exit id', s, h => bif Nat.beq id' id then Q .normal s h else Q (.exit id') s h
 | e, s, h => Q e s h
theorem AWp.mono {c : Code} {Q' : Exit -> j6 -> j8 -> Prop} (hc : AWp P n c Q s h) (hq : ∀ e s h, Q e s h -> Q' e s h) : AWp P n c Q' s h :=
 fun E σ ι a w hr ht => Go.wpIn_mono (hc E σ ι a w hr ht) (fun e a w ⟨s', h', σ', ι', q, r, t⟩ => ⟨s', h', σ', ι', hq _ _ _ q, r, t⟩)
theorem j5F {x y : Code} (hx : AWp P n x (j2Z (fun s h => AWp P n y Q s h) Q) s h) : AWp P n (.seq x y) Q s h := by
 intro E σ ι a w hr ht
 refine wpIn_seq (Go.wpIn_mono (hx E σ ι a w hr ht) ?_)
 rintro e a w ⟨s', h', σ', ι', q, r, t⟩
 cases e with
 | normal => exact q E σ' ι' a w r t
 | _ => exact ⟨s', h', σ', ι', q, r, t⟩
theorem j2l (hq : Q .normal s h) : AWp P n .skip Q s h := fun E σ ι a w hr ht => wpIn_skip ⟨s, h, σ, ι, hq, hr, ht⟩
theorem j4J (hq : Q .ret s h) : AWp P n .ret Q s h := fun E σ ι a w hr ht => wpIn_ret ⟨s, h, σ, ι, hq, hr, ht⟩
theorem j2k {id : Nat} (hq : Q (.exit id) s h) : AWp P n (.exit id) Q s h := fun E σ ι a w hr ht => wpIn_exit ⟨s, h, σ, ι, hq, hr, ht⟩
theorem j0k {id : Nat} {c : Code} (hc : AWp P n c (AIn id Q) s h) : AWp P n (.block id c) Q s h := by
 intro E σ ι a w hr ht
 refine wpIn_block (Go.wpIn_mono (hc E σ ι a w hr ht) ?_)
 rintro e a w ⟨s', h', σ', ι', q, r, t⟩
 cases e with
 | exit id' =>
  simp only [Exit.inBlock]
  by_cases hid : id' = id
  ·rw [if_pos hid]; exact ⟨s', h', σ', ι', by simpa [AIn, hid] using q, r, t⟩
  ·rw [if_neg hid]; exact ⟨s', h', σ', ι', by simpa [AIn, hid] using q, r, t⟩
 | _ => exact ⟨s', h', σ', ι', q, r, t⟩
def cA : Value -> AV
 | .int k n => .int k n
 | .bool b => .bool b
 | .string s => .str s
 | .slice none 0 0 => .nils
 | .pointer none => .nilp
 | .nilFunc => .nilf
 | _ => .undef
def evA (s : j6) : Operand -> AV
 | .tmp t => get s t
 | .const v => cA v
 | .global _ => .undef
 | .func f => .fn (.func f) [] []
def cOk : Operand -> Bool
 | .const (.int k n) => (Lit.int k n).wf
 | _ => true
theorem YW {σ : Sig} {v : Value} (hc : cOk (.const v) = true) : VR0 σ (cA v) v := by
 unfold cA
 split
 ·exact .int _ _ (qc.2 hc)
 ·exact .bool _
 ·exact .str _
 ·exact .nils
 ·exact .nilp
 ·exact .nilf
 ·exact .undef _
theorem jZ {σ : Sig} {ι : Nat -> Value} {a : Act} {x : Operand} (hc : cOk x = true) (ht : ∀ t, x = .tmp t -> VR σ ι (get s t) (a.tmps.getD t undef)) : VR σ ι (evA s x) (a.eval x) := by
 cases x with
 | tmp t => exact ht t rfl
 | global g => exact .base _ _ (.undef _)
 | func f => exact .base _ _ (.fn _ [] [] [] [] rfl (fun j c v hc => by simp at hc) rfl (fun j c v hc => by simp at hc))
 | const v => exact .base _ _ (YW hc)
theorem VR.bool_inv {σ : Sig} {ι : Nat -> Value} {b : Bool} {v : Value} (hv : VR σ ι (.bool b) v) : v = .bool b := by
 cases hv with
 | base _ _ h0 => cases h0; rfl
theorem VR.int_inv {σ : Sig} {ι : Nat -> Value} {k : IntKind} {m : Int} {v : Value} (hv : VR σ ι (.int k m) v) : v = .int k m ∧ jS k m := by
 cases hv with
 | base _ _ h0 => cases h0 with | int _ _ h => exact ⟨rfl, h⟩
theorem j3q {c : Operand} {x y : Code} {b : Bool} (hk : cOk c = true) (hc : evA s c = .bool b) (hx : b = true -> AWp P n x Q s h) (hy : b = false -> AWp P n y Q s h) : AWp P n (.cond c x y) Q s h := by
 intro E σ ι a w hr ht
 have hv : VR σ ι (evA s c) (a.eval c) := jZ hk (fun t _ => ht.at_ t)
 rw [hc] at hv
 refine wpIn_cond hv.bool_inv ?_
 cases b
 ·exact hy rfl E σ ι a w hr ht
 ·exact hx rfl E σ ι a w hr ht
theorem j0r {c : Code} (t : Nat) {k : IntKind} {m : Int} (hg : get s t = .int k m) (hk : jS k m -> AWp P n c Q s h) : AWp P n c Q s h := by
 intro E σ ι a w hr ht
 have hv := ht.at_ t
 rw [hg] at hv
 exact hk hv.int_inv.2 E σ ι a w hr ht
def LeV (x y : AV) : Prop := ∀ σ ι v, VR σ ι x v -> VR σ ι y v
theorem LeV.refl (x : AV) : LeV x x := fun _ _ _ h => h
theorem LeV.undef (x : AV) : LeV x .undef := fun _ _ v _ => .base _ _ (.undef v)
theorem LeV.nils (sz : Nat) : LeV .nils (.lst sz []) := fun σ ι v h => by
 cases h with
 | base _ _ h0 => cases h0; exact .base _ _ (.empty sz none 0 (by simp))
theorem LeV.of_eq {x y : AV} (h : x = y) : LeV x y := by subst h; exact .refl _
def LeS (s s' : j6) : Prop := ∀ t, LeV (get s t) (get s' t)
theorem LeS.refl (s : j6) : LeS s s := fun _ => .refl _
theorem LeS.nil (s : j6) : LeS s [] := fun _ => .undef _
theorem LeS.cons {s s' : j6} {t : Nat} {v : AV} (h1 : LeV (get s t) v) (h2 : LeS s s') : LeS s ((t, v) :: s') := fun u => by
 rw [qO]
 split
 ·rename_i e; subst e; exact h1
 ·exact h2 u
def LeH (h h' : j8) : Prop := ∀ i c, j9 h' i = some c -> j9 h i = some c
theorem LeH.refl (h : j8) : LeH h h := fun _ _ h => h
theorem LeH.nil (h : j8) : LeH h [] := fun i c hc => by cases hc
theorem LeH.cons {h h' : j8} {i : Nat} {c : Chunk} (h1 : j9 h i = some c) (h2 : LeH h h') : LeH h ((i, c) :: h') := fun j d hd => by
 rw [j7] at hd
 split at hd
 ·rename_i e; subst e; cases hd; exact h1
 ·exact h2 j d hd
theorem Rel.le {E : Env} {σ : Sig} {ι : Nat -> Value} {h h' : j8} {w : World} (hr : Rel E σ ι h w) (hl : LeH h h') : Rel E σ ι h' w :=
 ⟨hr.os, hr.tape, hr.output, hr.size, hr.old, hr.sigOld, hr.sub, fun i c hc => hr.ch i c (hl i c hc), fun i c hc => hr.foot i c (hl i c hc), fun i j c d hc hd => hr.dj i j c d (hl i c hc) (hl j d hd), hr.pin, hr.low, fun p hp => ⟨(hr.xo p hp).1, (hr.xo p hp).2.1, fun i c hc => (hr.xo p hp).2.2 i c (hl i c hc)⟩⟩
theorem TR.le {σ : Sig} {ι : Nat -> Value} {s s' : j6} {a : Act} (ht : TR n σ ι s a) (hl : LeS s s') : TR n σ ι s' a := ⟨ht.size, ht.defers, fun t => hl t _ _ _ (ht.at_ t)⟩
theorem j5j {c : Code} {s' : j6} {h' : j8} (hs : LeS s s') (hh : LeH h h') (hc : AWp P n c Q s' h') : AWp P n c Q s h :=
 fun E σ ι a w hr ht => hc E σ ι a w (hr.le hh) (ht.le hs)
theorem j3A {α : Type} {c : Code} (st : α -> j6 × j8) (inv : α -> Prop) (μ : α -> Nat) (x0 : α) (h0 : inv x0) (hs : LeS s (st x0).1) (hh : LeH h (st x0).2)
  (round : ∀ x, inv x -> AWp P n c (j2Z (fun s' h' => ∃ x', inv x' ∧ μ x' < μ x ∧ LeS s' (st x').1 ∧ LeH h' (st x').2) Q) (st x).1 (st x).2) : AWp P n (.loop c) Q s h := by
 intro E σ ι a w hr ht
 refine Go.wpIn_loop_ghost (fun m a w => ∃ x σ ι, inv x ∧ μ x = m ∧ Rel E σ ι (st x).2 w ∧ TR n σ ι (st x).1 a) (μ x0) ⟨x0, σ, ι, h0, rfl, hr.le hh, ht.le hs⟩ ?_
 rintro m a w ⟨x, σ, ι, hi, rfl, hr, ht⟩
 refine Go.wpIn_mono (round x hi E σ ι a w hr ht) ?_
 rintro e a' w' ⟨s', h', σ', ι', q, r, t⟩
 cases e with
 | normal =>
  obtain ⟨x', hi', hlt, hs', hh'⟩ := q
  exact ⟨μ x', hlt, x', σ', ι', hi', rfl, r.le hh', t.le hs'⟩
 | _ => exact ⟨s', h', σ', ι', q, r, t⟩
end
end Go.Proofs.YtfjoaeghnfkdlaaGreatDoor
