/- The struct Instr: its cells, and how they are read; no condition. -/
import Derived.Test.YtkkmageogkkchaaGreatT6
import Derived.WalkKit
import Derived.OwnWalk
import Derived.RegionTactic
import Derived.Deep.QuietTactic
import Derived.BigQuiet
import Derived.Deep.RegionHeld3
import Derived.OpenShut
set_option linter.unusedSimpArgs false
set_option linter.unusedVariables false
set_option maxHeartbeats 1000000
namespace Go.Proofs.YtkkmageogkkchaaGreat
set_option maxRecDepth 100000
open Go.RowKit Go.ChangeShapes Go.WideShapes

structure Instr where
  op : Int
  a : Int
  b : Int
  c : Int
  n : Int
instance : Inhabited Instr := ⟨⟨0, 0, 0, 0, 0⟩⟩
theorem Instr.ext_ {x y : Instr} (h : x.op = y.op ∧ x.a = y.a ∧ x.b = y.b ∧ x.c = y.c ∧ x.n = y.n) : x = y := by cases x; cases y; simp_all
instance : DecidableEq Instr := fun x y => decidable_of_iff (x.op = y.op ∧ x.a = y.a ∧ x.b = y.b ∧ x.c = y.c ∧ x.n = y.n) ⟨Instr.ext_, fun h => by subst h; simp⟩
def Instr.cells (x : Instr) : List Value := [.int .i64 x.op, .int .i64 x.a, .int .i64 x.b, .int .i64 x.c, .int .u32 x.n]
def Instr.ok (x : Instr) : Prop := (Lit.int .i64 x.op).wf = true ∧ (Lit.int .i64 x.a).wf = true ∧ (Lit.int .i64 x.b).wf = true ∧ (Lit.int .i64 x.c).wf = true ∧ (Lit.int .u32 x.n).wf = true
def Instr.cod : Cod Instr := fun _ cs x => cs = x.cells ∧ x.ok
theorem Instr.mono : Mono Instr.cod := fun _ _ _ _ _ h => h
theorem Instr.size {w : World} {cs : List Value} {x : Instr} (h : Instr.cod w cs x) : cs.length = 5 := by rw [h.1]; rfl
theorem Instr.at {w : World} {b off : Nat} {xs : List Instr} (h : Row' Instr.cod 5 w b off xs) (i : Nat) (hi : i < xs.length) :
    w.cell? ⟨b, off + i * 5, none⟩ = some (.int .i64 xs[i].op) ∧ w.cell? ⟨b, off + i * 5 + 1, none⟩ = some (.int .i64 xs[i].a) ∧ w.cell? ⟨b, off + i * 5 + 2, none⟩ = some (.int .i64 xs[i].b) ∧ w.cell? ⟨b, off + i * 5 + 3, none⟩ = some (.int .i64 xs[i].c) ∧ w.cell? ⟨b, off + i * 5 + 4, none⟩ = some (.int .u32 xs[i].n) ∧ xs[i].ok := by
  obtain ⟨cs, hx, _, hc⟩ := h i xs[i] (List.getElem?_eq_getElem hi)
  obtain ⟨rfl, hk⟩ := hx
  exact ⟨hc 0 _ rfl, hc 1 _ rfl, hc 2 _ rfl, hc 3 _ rfl, hc 4 _ rfl, hk⟩
theorem Instr.opens : Opens Tryz.prog 74 Instr.cod := by
  intro H enc w base spare held fuel cs x h
  obtain ⟨xs, n, _, _, hlen, hxl, hf⟩ := DataW.trod_struct Tryz.underlying74 h
  have hxl' : xs.length = 5 := hxl
  have hl' : cs.length = 5 := hlen.trans (by kernel_rfl)
  have f0 := (hf 0 _ rfl).trans (List.getElem?_eq_getElem (show 0 < xs.length by omega))
  obtain ⟨v0, e0, _, w0⟩ := DataW.trod_int Tryz.underlying3 f0
  have g0 := takeHead e0
  have f1 := (hf 1 _ rfl).trans (List.getElem?_eq_getElem (show 1 < xs.length by omega))
  obtain ⟨v1, e1, _, w1⟩ := DataW.trod_int Tryz.underlying3 f1
  have g1 := takeHead e1
  have f2 := (hf 2 _ rfl).trans (List.getElem?_eq_getElem (show 2 < xs.length by omega))
  obtain ⟨v2, e2, _, w2⟩ := DataW.trod_int Tryz.underlying3 f2
  have g2 := takeHead e2
  have f3 := (hf 3 _ rfl).trans (List.getElem?_eq_getElem (show 3 < xs.length by omega))
  obtain ⟨v3, e3, _, w3⟩ := DataW.trod_int Tryz.underlying3 f3
  have g3 := takeHead e3
  have f4 := (hf 4 _ rfl).trans (List.getElem?_eq_getElem (show 4 < xs.length by omega))
  obtain ⟨v4, e4, _, w4⟩ := DataW.trod_int Tryz.underlying33 f4
  have g4 := takeHead e4
  refine ⟨⟨v0, v1, v2, v3, v4⟩, ?_, ⟨w0, w1, w2, w3, w4⟩⟩
  refine list_of_cells [.int .i64 v0, .int .i64 v1, .int .i64 v2, .int .i64 v3, .int .u32 v4] hl' fun i hi => ?_
  have hi' : i < 5 := hi
  match i, hi' with
  | 0, _ => exact g0
  | 1, _ => exact g1
  | 2, _ => exact g2
  | 3, _ => exact g3
  | 4, _ => exact g4
theorem Instr.run_eqIn (x y : Instr) (w : World) : (Op.equalIn 10000 74 (.agg #[.int .i64 x.op, .int .i64 x.a, .int .i64 x.b, .int .i64 x.c, .int .u32 x.n]) (.agg #[.int .i64 y.op, .int .i64 y.a, .int .i64 y.b, .int .i64 y.c, .int .u32 y.n])).run Tryz.prog w = .ok (decide (x = y)) w := by
  have hs : Tryz.prog.stoodInHeld 74 = false := by kernel_rfl
  rw [run_equalIn_agg w 9999 74 _ _ (by simp only [Program.fieldsOf, Tryz.underlying74]) hs]
  simp only [Program.fieldsOf, Tryz.underlying74]
  simp [go_sem]
  by_cases h : x = y
  · subst h; simp
  · rw [show decide (x = y) = false from by simp [h]]
    repeat' split
    all_goals first | rfl | exact absurd (Instr.ext_ ⟨by assumption, by assumption, by assumption, by assumption, by assumption⟩) h
theorem Instr.run_guard (op : BinOp) (xo yo : Operand) (xs ys : Array Value) (w : World) : (eqGuard op 74 xo yo (.agg xs) (.agg ys)).run Tryz.prog w = .ok () w := run_eqGuard_agg w op 74 xo yo xs ys (by kernel_rfl)
end Go.Proofs.YtkkmageogkkchaaGreat
namespace Go.Proofs.YtkkmageogkkchaaGreat
set_option maxRecDepth 100000
open Go.RowKit
def eInstr (x : Instr) : List AV := [.int .i64 x.op, .int .i64 x.a, .int .i64 x.b, .int .i64 x.c, .int .u32 x.n]
theorem br_Instr : Br Instr.cod eInstr := fun w cs x ⟨h1, h2⟩ => by
  subst h1
  obtain ⟨h_op, h_a, h_b, h_c, h_n⟩ := h2
  exact (((((L2.nil _).cons (.int _ _ (rangeP_wf.2 h_n))).cons (.int _ _ (rangeP_wf.2 h_c))).cons (.int _ _ (rangeP_wf.2 h_b))).cons (.int _ _ (rangeP_wf.2 h_a))).cons (.int _ _ (rangeP_wf.2 h_op))
theorem ex_Instr : ∀ σ ι x vs, L2 (VR σ ι) (eInstr x) vs → vs = Instr.cells x := fun σ ι x vs h => by
  obtain ⟨u0, r0, rfl, h0, h⟩ := L2.cons_inv h
  obtain ⟨u1, r1, rfl, h1, h⟩ := L2.cons_inv h
  obtain ⟨u2, r2, rfl, h2, h⟩ := L2.cons_inv h
  obtain ⟨u3, r3, rfl, h3, h⟩ := L2.cons_inv h
  obtain ⟨u4, r4, rfl, h4, h⟩ := L2.cons_inv h
  rw [L2.nil_iff] at h
  subst h
  rw [h0.int_inv.1, h1.int_inv.1, h2.int_inv.1, h3.int_inv.1, h4.int_inv.1]
  rfl
theorem eq_Instr {s : Slots} {h : Heap} {o : Oper} {yt : TypeId} {X Y : Operand} {op : BinOp} {x y : Instr} (ho : o.op = .binOp op 74 X Y yt) (hop : op = .eql ∨ op = .neq) (hx : evA s X = .agg (eInstr x)) (hy : evA s Y = .agg (eInstr y)) : OkO Tryz.prog o s h (.bool (if op = .eql then decide (x = y) else !decide (x = y))) :=
  ok_eqS Instr.cells eInstr hop ex_Instr (fun w => Instr.run_eqIn x y w) (fun xs ys w => Instr.run_guard op X Y xs ys w) ho hx hy
theorem neq_Instr {s : Slots} {h : Heap} {o : Oper} {yt : TypeId} {X Y : Operand} {x y : Instr} (ho : o.op = .binOp .neq 74 X Y yt) (hx : evA s X = .agg (eInstr x)) (hy : evA s Y = .agg (eInstr y)) : OkO Tryz.prog o s h (.bool (!decide (x = y))) := eq_Instr ho (.inr rfl) hx hy
end Go.Proofs.YtkkmageogkkchaaGreat
namespace Go.Proofs.YtkkmageogkkchaaGreat
set_option maxRecDepth 100000
open Go.RowKit

def Elt (P : Program) (t e : TypeId) (k bytes : Nat) : Prop :=
  P.underlying t = some (.slice e) ∧ 0 < k ∧ ∃ i z, P.info? e = some i ∧ i.zero = some z ∧ z.cells.size = k ∧ i.size = k ∧ i.bytes = bytes
def Own {α : Type} (f : α → List Value) (k : Nat) (e : TypeId) (B : Nat) (w : World) (v : Value) (xs : List α) : Prop :=
  w.ownsRow B e k v xs.length (xs.flatMap f)
theorem Own.nil {α : Type} (f : α → List Value) (k : Nat) (e : TypeId) (B : Nat) (w : World) : Own f k e B w (.slice none 0 0) [] := World.ownsRow_nil w B e k
theorem Own.drew {α : Type} {f : α → List Value} {k : Nat} {e : TypeId} {B : Nat} {w : World} {v : Value} {xs : List α} (h : Own f k e B w v xs) : Own f k e B w.drew v xs := h
theorem Own.alloc {α : Type} {f : α → List Value} {k : Nat} {e : TypeId} {B : Nat} {w : World} {v : Value} {xs : List α} (h : Own f k e B w v xs) (o : Obj) : Own f k e B (w.alloc o) v xs := World.ownsRow.alloc h o
theorem Own.below {α : Type} {f : α → List Value} {k : Nat} {e : TypeId} {B : Nat} {w w' : World} {v : Value} {xs : List α} (h : Own f k e B w v xs) (hb : Below w.heap.size w w') : Own f k e B w' v xs := by
  obtain ⟨h1, h2⟩ := h
  refine ⟨h1, ?_⟩
  rcases h2 with h2 | ⟨g, cap, cur, hv, hg, hh, r⟩
  · exact .inl h2
  · exact .inr ⟨g, cap, cur, hv, hg, (hb.block g (Array.getElem?_eq_some_iff.1 hh).1).trans hh, r⟩
theorem Own.base {α : Type} {f : α → List Value} {k : Nat} {e : TypeId} {B B' : Nat} {w : World} {v : Value} {xs : List α} (h : Own f k e B w v xs) (hB : B' ≤ B) : Own f k e B' w v xs := by
  obtain ⟨h1, h2⟩ := h
  refine ⟨h1, ?_⟩
  rcases h2 with h2 | ⟨g, cap, cur, hv, hg, r⟩
  · exact .inl h2
  · exact .inr ⟨g, cap, cur, hv, Nat.le_trans hB hg, r⟩
theorem flat_get {α : Type} {f : α → List Value} {k : Nat} (hf : ∀ y, (f y).length = k) : ∀ (xs : List α) (i j : Nat) (x : α) (u : Value), xs[i]? = some x → (f x)[j]? = some u → (xs.flatMap f)[i * k + j]? = some u
  | [], i, j, x, u, h, _ => by simp at h
  | y :: ys, 0, j, x, u, h, hu => by
    simp at h; subst h
    have hj : j < (f y).length := (List.getElem?_eq_some_iff.1 hu).1
    rw [List.flatMap_cons, List.getElem?_append_left (by simpa using hj)]; simpa using hu
  | y :: ys, i + 1, j, x, u, h, hu => by
    have ih := flat_get hf ys i j x u (by simpa using h) hu
    rw [List.flatMap_cons, List.getElem?_append_right (by rw [hf, Nat.add_mul]; omega), hf, Nat.add_mul]
    rwa [show i * k + 1 * k + j - k = i * k + j by omega]
theorem Own.row {α : Type} {f : α → List Value} {k : Nat} {e : TypeId} {B : Nat} {w : World} {v : Value} {xs : List α} {R : Cod α} (h : Own f k e B w v xs) (hf : ∀ y, (f y).length = k) (hR : ∀ x ∈ xs, R w (f x) x) :
    ∃ A c, v = .slice A xs.length c ∧ xs.length ≤ c ∧ c ≤ maxLen ∧ Row R k w A xs := by
  rcases h.2 with ⟨rfl, h0⟩ | ⟨g, cap, cur, rfl, _, _, hn, hm, _⟩
  · obtain rfl : xs = [] := List.eq_nil_of_length_eq_zero h0
    exact ⟨none, 0, rfl, by simp, by simp, Row.nil _ _ _ _⟩
  · refine ⟨some ⟨g, 0, none⟩, cap, rfl, hn, hm, fun _ => ⟨g, 0, rfl, fun i x hx => ⟨f x, hR x (List.mem_of_getElem? hx), hf x, fun j u hu => ?_⟩⟩⟩
    have := World.ownsRow.cells h (g := g) rfl (i * k + j) u (flat_get hf xs i j x u hx hu)
    rwa [Go.WideShapes.add_plain, ← Nat.add_assoc] at this

def AtB (w : World) (b : Nat) (cs : List Value) : Prop := ∀ i u, cs[i]? = some u → w.cell? ⟨b, i, none⟩ = some u
theorem AtB.ext {w w' : World} {b : Nat} {cs : List Value} (h : AtB w b cs) (he : Ext w w') : AtB w' b cs := fun i u hu => he _ _ (h i u hu)
theorem AtB.new (w : World) (cs : List Value) (e : TypeId) : AtB (w.alloc (.cells cs.toArray e)) w.heap.size cs := fun i u hu => by
  rw [World.cell?_alloc_at _ _ _ _ rfl]; simpa using hu
theorem Ext.alloc (w : World) (o : Obj) : Ext w (w.alloc o) := Ext.below ((Below.refl _ _).alloc (Nat.le_refl _) _)
theorem Own.at_ {α : Type} {f : α → List Value} {k : Nat} {e : TypeId} {B : Nat} {w : World} {A : Option Addr} {n c : Nat} {xs : List α} (h : Own f k e B w (.slice A n c) xs) (hp : 0 < xs.length) :
    ∃ g, A = some ⟨g, 0, none⟩ ∧ n = xs.length ∧ B ≤ g ∧ g < w.heap.size ∧ ∀ o, w.frozen? ⟨g, o, none⟩ = false := by
  rcases h.2 with ⟨_, h0⟩ | ⟨g, cap, cur, hv, hb, hh, _⟩
  · omega
  · injection hv with h1 h2 h3
    exact ⟨g, h1, h2, hb, (Array.getElem?_eq_some_iff.1 hh).1, fun o => by simp [World.frozen?, hh]⟩
theorem flat_set {α : Type} {f : α → List Value} {k : Nat} (hf : ∀ y, (f y).length = k) : ∀ (xs : List α) (i j : Nat) (x' : α) (u : Value) (hi : i < xs.length), j < k → f x' = (f xs[i]).set j u → (xs.set i x').flatMap f = (xs.flatMap f).set (i * k + j) u
  | [], i, j, x', u, hi, _, _ => by simp at hi
  | y :: ys, 0, j, x', u, _, hj, h => by
    simp only [List.getElem_cons_zero] at h
    rw [List.set_cons_zero, List.flatMap_cons, List.flatMap_cons, h, Nat.zero_mul, Nat.zero_add, List.set_append_left _ _ (by rw [hf]; exact hj)]
  | y :: ys, i + 1, j, x', u, hi, hj, h => by
    simp only [List.getElem_cons_succ] at h
    have ih := flat_set hf ys i j x' u (by simpa using hi) hj h
    rw [List.set_cons_succ, List.flatMap_cons, List.flatMap_cons, ih, List.set_append_right _ _ (by rw [hf, Nat.add_mul]; omega), hf]
    congr 2
    rw [Nat.add_mul]; omega
theorem Own.store {α : Type} {f : α → List Value} {k : Nat} {e : TypeId} {B : Nat} {w : World} {g n c : Nat} {xs : List α} (h : Own f k e B w (.slice (some ⟨g, 0, none⟩) n c) xs) (hf : ∀ y, (f y).length = k)
    {i j : Nat} (hi : i < xs.length) (hj : j < k) {x' : α} {u : Value} (hx : f x' = (f xs[i]).set j u) : Own f k e B (w.setCell ⟨g, i * k + j, none⟩ u) (.slice (some ⟨g, 0, none⟩) n c) (xs.set i x') := by
  unfold Own at h ⊢
  rw [flat_set hf xs i j x' u hi hj hx, List.length_set]
  refine ⟨by rw [List.length_set]; exact h.1, ?_⟩
  rcases h.2 with ⟨h0, _⟩ | ⟨g', cap, cur, hv, hb, hh, hn, hm, hcs, ht⟩
  · injection h0 with h0; cases h0
  · injection hv with h1 h2 h3
    injection h1 with h1
    injection h1 with h1
    subst h1
    refine .inr ⟨g, cap, cur.setIfInBounds (i * k + j) u, by rw [h2, h3], hb, by simp [World.setCell, Array.getElem?_modify, hh], hn, hm, by simpa using hcs, ?_⟩
    rw [Array.toList_setIfInBounds, List.take_set, ht]
section
variable {P : Program} {α : Type} {f : α → List Value} {k : Nat}
end
end Go.Proofs.YtkkmageogkkchaaGreat
namespace Go.Proofs.YtkkmageogkkchaaGreat
set_option maxRecDepth 100000
open Go.RowKit

def kindsN (op : Nat) : Int × Int × Int × Int := match op with
  | 0 => (0, 0, 0, 0)
  | 1 => (1, 0, 0, 6)
  | 2 => (1, 1, 0, 0)
  | 3 => (1, 1, 1, 0)
  | 4 => (1, 1, 1, 0)
  | 5 => (1, 1, 1, 0)
  | 6 => (1, 1, 1, 0)
  | 7 => (1, 1, 1, 0)
  | 8 => (1, 1, 1, 0)
  | 9 => (1, 1, 1, 0)
  | 10 => (1, 1, 1, 0)
  | 11 => (1, 1, 0, 6)
  | 12 => (1, 1, 0, 6)
  | 13 => (1, 1, 1, 6)
  | 14 => (0, 0, 0, 4)
  | 15 => (1, 0, 0, 4)
  | 16 => (0, 0, 3, 4)
  | 17 => (1, 2, 0, 5)
  | 18 => (1, 2, 0, 5)
  | 19 => (1, 2, 0, 5)
  | 20 => (1, 2, 0, 5)
  | 21 => (0, 0, 0, 0)
  | _ => (0, 0, 0, 0)
def kindsOf (op : Int) : Int × Int × Int × Int := kindsN op.toNat
def fitsB (k n : Int) : Bool := if k = 0 then n == 0 else if k = 1 then decide (0 ≤ n ∧ n < 8) else if k = 2 then decide (0 ≤ n ∧ n < 8) else if k = 3 then decide (1 ≤ n ∧ n ≤ 255) else if k = 4 then decide (n < 64) else if k = 5 then decide (n < 64) else true
def rightI (x : Instr) : Bool := decide (0 ≤ x.op ∧ x.op < 22) && (fitsB (kindsOf x.op).1 x.a && (fitsB (kindsOf x.op).2.1 x.b && (fitsB (kindsOf x.op).2.2.1 x.c && fitsB (kindsOf x.op).2.2.2 x.n)))
def leadsI (x : Instr) : Bool := rightI x && decide (14 ≤ x.op ∧ x.op ≤ 16)
def shapesV : Array Value := #[.string ⟨#[110, 111, 112]⟩, .int .i64 0, .int .i64 0, .int .i64 0, .int .i64 0, .string ⟨#[]⟩, .string ⟨#[]⟩, .string ⟨#[115, 101, 116]⟩, .int .i64 1, .int .i64 0, .int .i64 0, .int .i64 6, .string ⟨#[]⟩, .string ⟨#[97]⟩, .string ⟨#[109, 111, 118, 101]⟩, .int .i64 1, .int .i64 1, .int .i64 0, .int .i64 0, .string ⟨#[98]⟩, .string ⟨#[97]⟩, .string ⟨#[97, 100, 100]⟩, .int .i64 1, .int .i64 1, .int .i64 1, .int .i64 0, .string ⟨#[98, 99]⟩, .string ⟨#[97]⟩, .string ⟨#[115, 117, 98]⟩, .int .i64 1, .int .i64 1, .int .i64 1, .int .i64 0, .string ⟨#[98, 99]⟩, .string ⟨#[97]⟩, .string ⟨#[109, 117, 108]⟩, .int .i64 1, .int .i64 1, .int .i64 1, .int .i64 0, .string ⟨#[98, 99]⟩, .string ⟨#[97]⟩, .string ⟨#[97, 110, 100]⟩, .int .i64 1, .int .i64 1, .int .i64 1, .int .i64 0, .string ⟨#[98, 99]⟩, .string ⟨#[97]⟩, .string ⟨#[111, 114]⟩, .int .i64 1, .int .i64 1, .int .i64 1, .int .i64 0, .string ⟨#[98, 99]⟩, .string ⟨#[97]⟩, .string ⟨#[120, 111, 114]⟩, .int .i64 1, .int .i64 1, .int .i64 1, .int .i64 0, .string ⟨#[98, 99]⟩, .string ⟨#[97]⟩, .string ⟨#[108, 101, 115, 115]⟩, .int .i64 1, .int .i64 1, .int .i64 1, .int .i64 0, .string ⟨#[98, 99]⟩, .string ⟨#[97]⟩, .string ⟨#[101, 113, 117, 97, 108]⟩, .int .i64 1, .int .i64 1, .int .i64 1, .int .i64 0, .string ⟨#[98, 99]⟩, .string ⟨#[97]⟩, .string ⟨#[108, 111, 97, 100]⟩, .int .i64 1, .int .i64 1, .int .i64 0, .int .i64 6, .string ⟨#[98]⟩, .string ⟨#[97]⟩, .string ⟨#[115, 116, 111, 114, 101]⟩, .int .i64 1, .int .i64 1, .int .i64 0, .int .i64 6, .string ⟨#[97, 98]⟩, .string ⟨#[]⟩, .string ⟨#[99, 97, 115]⟩, .int .i64 1, .int .i64 1, .int .i64 1, .int .i64 6, .string ⟨#[97, 98, 99]⟩, .string ⟨#[97]⟩, .string ⟨#[106, 117, 109, 112]⟩, .int .i64 0, .int .i64 0, .int .i64 0, .int .i64 4, .string ⟨#[]⟩, .string ⟨#[]⟩, .string ⟨#[122, 101, 114, 111]⟩, .int .i64 1, .int .i64 0, .int .i64 0, .int .i64 4, .string ⟨#[97]⟩, .string ⟨#[]⟩, .string ⟨#[98, 97, 99, 107]⟩, .int .i64 0, .int .i64 0, .int .i64 3, .int .i64 4, .string ⟨#[]⟩, .string ⟨#[]⟩, .string ⟨#[114, 101, 97, 100]⟩, .int .i64 1, .int .i64 2, .int .i64 0, .int .i64 5, .string ⟨#[]⟩, .string ⟨#[97]⟩, .string ⟨#[119, 114, 105, 116, 101]⟩, .int .i64 1, .int .i64 2, .int .i64 0, .int .i64 5, .string ⟨#[]⟩, .string ⟨#[97]⟩, .string ⟨#[112, 117, 116]⟩, .int .i64 1, .int .i64 2, .int .i64 0, .int .i64 5, .string ⟨#[]⟩, .string ⟨#[97]⟩, .string ⟨#[116, 97, 107, 101]⟩, .int .i64 1, .int .i64 2, .int .i64 0, .int .i64 5, .string ⟨#[]⟩, .string ⟨#[97]⟩, .string ⟨#[100, 111, 110, 101]⟩, .int .i64 0, .int .i64 0, .int .i64 0, .int .i64 0, .string ⟨#[]⟩, .string ⟨#[]⟩]

theorem belowRow {B : Nat} {a w : World} (h : Below B a w) {g : Nat} (hg : B ≤ g) (cs : Array Value) : Below B a (w.setRow g cs) :=
  h.trans ⟨rfl, rfl, rfl, by simp [World.setRow], fun k hk => setRow_other w g k _ (by omega)⟩
theorem three_any (s : ByteArray) (w : World) : Calls Tryz.prog 215 #[.string s] w fun e w' => e = .returned (.agg #[.string s, .int .i64 1, .int .i64 1, .int .i64 1, .int .i64 0, .string ⟨#[98, 99]⟩, .string ⟨#[97]⟩]) ∧ w.alloc (.cells #[.string s, .int .i64 1, .int .i64 1, .int .i64 1, .int .i64 0, .string ⟨#[98, 99]⟩, .string ⟨#[97]⟩] 160) = w' := by
  go_enter Tryz.func215, Tryz.ntmps215
  go_wp2
  exact bodyPost_ret (v := .agg #[.string s, .int .i64 1, .int .i64 1, .int .i64 1, .int .i64 0, .string ⟨#[98, 99]⟩, .string ⟨#[97]⟩]) (by simp [results, Tryz.results215, go_sem]) rfl ⟨rfl, rfl⟩
theorem call_any (s : ByteArray) (w : World) : Calls Tryz.prog 216 #[.string s] w fun e w' => e = .returned (.agg #[.string s, .int .i64 1, .int .i64 2, .int .i64 0, .int .i64 5, .string ⟨#[]⟩, .string ⟨#[97]⟩]) ∧ w.alloc (.cells #[.string s, .int .i64 1, .int .i64 2, .int .i64 0, .int .i64 5, .string ⟨#[]⟩, .string ⟨#[97]⟩] 160) = w' := by
  go_enter Tryz.func216, Tryz.ntmps216
  go_wp2
  exact bodyPost_ret (v := .agg #[.string s, .int .i64 1, .int .i64 2, .int .i64 0, .int .i64 5, .string ⟨#[]⟩, .string ⟨#[97]⟩]) (by simp [results, Tryz.results216, go_sem]) rfl ⟨rfl, rfl⟩
set_option maxRecDepth 100000 in
set_option maxHeartbeats 2000000 in
theorem shapes_any (w : World) : Calls Tryz.prog 187 #[] w fun e w' => e = .returned (.agg shapesV) ∧ Below w.heap.size w w' := by
  go_enter Tryz.func187, Tryz.ntmps187
  go_wp2_with (first
    | (go_at_call 215; refine (three_any _ _).mono ?_; rintro e w' ⟨rfl, rfl⟩)
    | (go_at_call 216; refine (call_any _ _).mono ?_; rintro e w' ⟨rfl, rfl⟩))
  rw [run_storeCells_at Tryz.prog w.heap.size 0 161 _ 0 Tryz.zeroCells161 _ ?h1 ?h2 ?h3]
  case h1 =>
    have hB : ∀ W, Below (w.heap.size + 1) (w.alloc (.cells Tryz.zeroCells161 161)) W → W.heap[w.heap.size]? = some (.cells Tryz.zeroCells161 161 (0, 0)) := fun W h => (h.block w.heap.size (by omega)).trans (heap_alloc_new w _)
    refine hB _ ?_
    repeat (first | exact Below.refl _ _ | refine Below.alloc ?_ (by simp only [World.size_alloc]; omega) _)
  case h2 => exact of_decide_eq_true (by kernel_rfl)
  case h3 => decide
  simp only [Result.andThen_ok]
  go_wp2_with fail
  have hB : ∀ W, Below (w.heap.size + 1) (w.alloc (.cells Tryz.zeroCells161 161)) W → W.heap[w.heap.size]? = some (.cells Tryz.zeroCells161 161 (0, 0)) := fun W h => (h.block w.heap.size (by omega)).trans (heap_alloc_new w _)
  refine bodyPost_ret (v := .agg shapesV) (results_cell_row rfl _ _ w.heap.size 161 shapesV (0, 0) _ rfl ?_ Tryz.underlying161 rfl (by kernel_rfl)) rfl ⟨rfl, ?_⟩
  · refine setRow_heap _ _ Tryz.zeroCells161 _ _ _ (hB _ ?_)
    repeat (first | exact Below.refl _ _ | refine Below.alloc ?_ (by simp only [World.size_alloc]; omega) _)
  · refine belowRow ?_ (by omega) _
    repeat (first | exact Below.refl _ _ | refine Below.alloc ?_ (by first | omega | (simp only [World.size_alloc]; omega)) _)
end Go.Proofs.YtkkmageogkkchaaGreat
namespace Go.Proofs.YtkkmageogkkchaaGreat
set_option maxRecDepth 100000
open Go.RowKit

theorem belowAl {a w : World} (h : Below a.heap.size a w) (o : Obj) : Below a.heap.size a (w.alloc o) := h.alloc h.size o
theorem new76 {w1 w' : World} (hb : Below (w1.alloc (.cells #[.string ⟨#[]⟩, .int .i64 0, .int .i64 0, .int .i64 0, .int .i64 0, .string ⟨#[]⟩, .string ⟨#[]⟩] 160)).drew.heap.size (w1.alloc (.cells #[.string ⟨#[]⟩, .int .i64 0, .int .i64 0, .int .i64 0, .int .i64 0, .string ⟨#[]⟩, .string ⟨#[]⟩] 160)).drew w') :
    w'.cell? ⟨w1.heap.size, 0, none⟩ = some (.string ⟨#[]⟩) ∧ w'.cell? ⟨w1.heap.size, 1, none⟩ = some (.int .i64 0) ∧ w'.cell? ⟨w1.heap.size, 2, none⟩ = some (.int .i64 0) ∧ w'.cell? ⟨w1.heap.size, 3, none⟩ = some (.int .i64 0) ∧ w'.cell? ⟨w1.heap.size, 4, none⟩ = some (.int .i64 0) ∧ w'.cell? ⟨w1.heap.size, 5, none⟩ = some (.string ⟨#[]⟩) ∧ w'.cell? ⟨w1.heap.size, 6, none⟩ = some (.string ⟨#[]⟩) ∧ w'.frozen? ⟨w1.heap.size, 0, none⟩ = false ∧ w'.frozen? ⟨w1.heap.size, 1, none⟩ = false ∧ w'.frozen? ⟨w1.heap.size, 2, none⟩ = false ∧ w'.frozen? ⟨w1.heap.size, 3, none⟩ = false ∧ w'.frozen? ⟨w1.heap.size, 4, none⟩ = false ∧ w'.frozen? ⟨w1.heap.size, 5, none⟩ = false ∧ w'.frozen? ⟨w1.heap.size, 6, none⟩ = false :=
  ⟨Ext.below hb _ _ ((World.cell?_drew _ _).trans ((World.cell?_alloc_at _ _ _ _ rfl).trans rfl)), Ext.below hb _ _ ((World.cell?_drew _ _).trans ((World.cell?_alloc_at _ _ _ _ rfl).trans rfl)), Ext.below hb _ _ ((World.cell?_drew _ _).trans ((World.cell?_alloc_at _ _ _ _ rfl).trans rfl)), Ext.below hb _ _ ((World.cell?_drew _ _).trans ((World.cell?_alloc_at _ _ _ _ rfl).trans rfl)), Ext.below hb _ _ ((World.cell?_drew _ _).trans ((World.cell?_alloc_at _ _ _ _ rfl).trans rfl)), Ext.below hb _ _ ((World.cell?_drew _ _).trans ((World.cell?_alloc_at _ _ _ _ rfl).trans rfl)), Ext.below hb _ _ ((World.cell?_drew _ _).trans ((World.cell?_alloc_at _ _ _ _ rfl).trans rfl)), (Below.frozen hb (by simp)).trans ((World.frozen?_drew _ _).trans (World.frozen?_alloc_at _ _ _ _ rfl)), (Below.frozen hb (by simp)).trans ((World.frozen?_drew _ _).trans (World.frozen?_alloc_at _ _ _ _ rfl)), (Below.frozen hb (by simp)).trans ((World.frozen?_drew _ _).trans (World.frozen?_alloc_at _ _ _ _ rfl)), (Below.frozen hb (by simp)).trans ((World.frozen?_drew _ _).trans (World.frozen?_alloc_at _ _ _ _ rfl)), (Below.frozen hb (by simp)).trans ((World.frozen?_drew _ _).trans (World.frozen?_alloc_at _ _ _ _ rfl)), (Below.frozen hb (by simp)).trans ((World.frozen?_drew _ _).trans (World.frozen?_alloc_at _ _ _ _ rfl)), (Below.frozen hb (by simp)).trans ((World.frozen?_drew _ _).trans (World.frozen?_alloc_at _ _ _ _ rfl))⟩
abbrev instrV (x : Instr) : Value := .agg #[.int .i64 x.op, .int .i64 x.a, .int .i64 x.b, .int .i64 x.c, .int .u32 x.n]
theorem shape_at (k : Nat) (hk : k < 22) : ∃ s1 s2 s3 : ByteArray, ∀ w : World, (Instr.index 161 (.agg shapesV) (.int .i64 (k : Int))).run Tryz.prog w = .ok (.agg #[.string s1, .int .i64 (kindsN k).1, .int .i64 (kindsN k).2.1, .int .i64 (kindsN k).2.2.1, .int .i64 (kindsN k).2.2.2, .string s2, .string s3]) w := by
  match k, hk with
  | 0, _ => exact ⟨⟨#[110, 111, 112]⟩, ⟨#[]⟩, ⟨#[]⟩, fun w => by kernel_rfl⟩
  | 1, _ => exact ⟨⟨#[115, 101, 116]⟩, ⟨#[]⟩, ⟨#[97]⟩, fun w => by kernel_rfl⟩
  | 2, _ => exact ⟨⟨#[109, 111, 118, 101]⟩, ⟨#[98]⟩, ⟨#[97]⟩, fun w => by kernel_rfl⟩
  | 3, _ => exact ⟨⟨#[97, 100, 100]⟩, ⟨#[98, 99]⟩, ⟨#[97]⟩, fun w => by kernel_rfl⟩
  | 4, _ => exact ⟨⟨#[115, 117, 98]⟩, ⟨#[98, 99]⟩, ⟨#[97]⟩, fun w => by kernel_rfl⟩
  | 5, _ => exact ⟨⟨#[109, 117, 108]⟩, ⟨#[98, 99]⟩, ⟨#[97]⟩, fun w => by kernel_rfl⟩
  | 6, _ => exact ⟨⟨#[97, 110, 100]⟩, ⟨#[98, 99]⟩, ⟨#[97]⟩, fun w => by kernel_rfl⟩
  | 7, _ => exact ⟨⟨#[111, 114]⟩, ⟨#[98, 99]⟩, ⟨#[97]⟩, fun w => by kernel_rfl⟩
  | 8, _ => exact ⟨⟨#[120, 111, 114]⟩, ⟨#[98, 99]⟩, ⟨#[97]⟩, fun w => by kernel_rfl⟩
  | 9, _ => exact ⟨⟨#[108, 101, 115, 115]⟩, ⟨#[98, 99]⟩, ⟨#[97]⟩, fun w => by kernel_rfl⟩
  | 10, _ => exact ⟨⟨#[101, 113, 117, 97, 108]⟩, ⟨#[98, 99]⟩, ⟨#[97]⟩, fun w => by kernel_rfl⟩
  | 11, _ => exact ⟨⟨#[108, 111, 97, 100]⟩, ⟨#[98]⟩, ⟨#[97]⟩, fun w => by kernel_rfl⟩
  | 12, _ => exact ⟨⟨#[115, 116, 111, 114, 101]⟩, ⟨#[97, 98]⟩, ⟨#[]⟩, fun w => by kernel_rfl⟩
  | 13, _ => exact ⟨⟨#[99, 97, 115]⟩, ⟨#[97, 98, 99]⟩, ⟨#[97]⟩, fun w => by kernel_rfl⟩
  | 14, _ => exact ⟨⟨#[106, 117, 109, 112]⟩, ⟨#[]⟩, ⟨#[]⟩, fun w => by kernel_rfl⟩
  | 15, _ => exact ⟨⟨#[122, 101, 114, 111]⟩, ⟨#[97]⟩, ⟨#[]⟩, fun w => by kernel_rfl⟩
  | 16, _ => exact ⟨⟨#[98, 97, 99, 107]⟩, ⟨#[]⟩, ⟨#[]⟩, fun w => by kernel_rfl⟩
  | 17, _ => exact ⟨⟨#[114, 101, 97, 100]⟩, ⟨#[]⟩, ⟨#[97]⟩, fun w => by kernel_rfl⟩
  | 18, _ => exact ⟨⟨#[119, 114, 105, 116, 101]⟩, ⟨#[]⟩, ⟨#[97]⟩, fun w => by kernel_rfl⟩
  | 19, _ => exact ⟨⟨#[112, 117, 116]⟩, ⟨#[]⟩, ⟨#[97]⟩, fun w => by kernel_rfl⟩
  | 20, _ => exact ⟨⟨#[116, 97, 107, 101]⟩, ⟨#[]⟩, ⟨#[97]⟩, fun w => by kernel_rfl⟩
  | 21, _ => exact ⟨⟨#[100, 111, 110, 101]⟩, ⟨#[]⟩, ⟨#[]⟩, fun w => by kernel_rfl⟩
  | n + 22, h => exact absurd h (by omega)
theorem shape_ix (op : Int) (h : 0 ≤ op ∧ op < 22) : ∃ s1 s2 s3 : ByteArray, ∀ w : World, (Instr.index 161 (.agg shapesV) (.int .i64 op)).run Tryz.prog w = .ok (.agg #[.string s1, .int .i64 (kindsOf op).1, .int .i64 (kindsOf op).2.1, .int .i64 (kindsOf op).2.2.1, .int .i64 (kindsOf op).2.2.2, .string s2, .string s3]) w := by
  obtain ⟨k, rfl⟩ := Int.eq_ofNat_of_zero_le h.1
  exact shape_at k (by omega)


theorem known_any (op : Int) (B : Bool) (w : World) (hB : decide (0 ≤ op ∧ op < 22) = B) : Calls Tryz.prog 186 #[.int .i64 op] w fun e w' => e = .returned (.bool B) ∧ w = w' := by
  subst hB
  by_cases h1 : 0 ≤ op
  · by_cases h2 : op < 22
    all_goals
      go_enter Tryz.func186, Tryz.ntmps186
      go_wp2
      go_ret
      exact ⟨rbool (by simp [h1, h2]), rfl⟩
  · go_enter Tryz.func186, Tryz.ntmps186
    go_wp2
    go_ret
    exact ⟨rbool (by simp [h1]; try omega), rfl⟩
set_option maxHeartbeats 1000000 in
theorem fits_any (k n : Int) (w : World) : Calls Tryz.prog 188 #[.int .i64 k, .int .i64 n] w fun e w' => e = .returned (.bool (fitsB k n)) ∧ w = w' := by
  go_enter Tryz.func188, Tryz.ntmps188
  go_wp2
  all_goals
    go_ret
    exact ⟨rbool (by simp_all [fitsB]; try omega), rfl⟩
theorem rightI_no {x : Instr} (h : ¬ (0 ≤ x.op ∧ x.op < 22)) : rightI x = false := by simp [rightI]; intro h1 h2; exact absurd ⟨h1, h2⟩ h
theorem rightI_yes {x : Instr} (h : 0 ≤ x.op ∧ x.op < 22) : rightI x = (fitsB (kindsOf x.op).1 x.a && (fitsB (kindsOf x.op).2.1 x.b && (fitsB (kindsOf x.op).2.2.1 x.c && fitsB (kindsOf x.op).2.2.2 x.n))) := by simp [rightI, h.1, h.2]
set_option maxHeartbeats 4000000 in
theorem right_any (x : Instr) (w : World) (hx : x.ok) : Calls Tryz.prog 169 #[instrV x] w fun e w' => e = .returned (.bool (rightI x)) ∧ Below w.heap.size w w' := by
  by_cases h : 0 ≤ x.op ∧ x.op < 22
  · rw [rightI_yes h]
    obtain ⟨s1, s2, s3, hix⟩ := shape_ix x.op h
    have hn := Go.bounds_u32 hx.2.2.2.2
    obtain ⟨hn1, hn2⟩ := hn
    generalize (kindsOf x.op).1 = k1 at *
    generalize (kindsOf x.op).2.1 = k2 at *
    generalize (kindsOf x.op).2.2.1 = k3 at *
    generalize (kindsOf x.op).2.2.2 = k4 at *
    go_enter Tryz.func169, Tryz.ntmps169
    go_wp2_with (go_at_call 186; refine (known_any _ true _ (by simpa using h)).mono ?_; rintro e w' ⟨rfl, rfl⟩)
    obtain ⟨w1, hw1⟩ : ∃ z, z = w.alloc (.cells #[.int .i64 x.op, .int .i64 x.a, .int .i64 x.b, .int .i64 x.c, .int .u32 x.n] 74) := ⟨_, rfl⟩
    have f1_0 : w1.cell? ⟨w.heap.size, 0, none⟩ = some (.int .i64 x.op) := by rw [hw1, World.cell?_alloc_at _ _ _ _ rfl]; rfl
    have f1_1 : w1.cell? ⟨w.heap.size, 1, none⟩ = some (.int .i64 x.a) := by rw [hw1, World.cell?_alloc_at _ _ _ _ rfl]; rfl
    have f1_2 : w1.cell? ⟨w.heap.size, 2, none⟩ = some (.int .i64 x.b) := by rw [hw1, World.cell?_alloc_at _ _ _ _ rfl]; rfl
    have f1_3 : w1.cell? ⟨w.heap.size, 3, none⟩ = some (.int .i64 x.c) := by rw [hw1, World.cell?_alloc_at _ _ _ _ rfl]; rfl
    have f1_4 : w1.cell? ⟨w.heap.size, 4, none⟩ = some (.int .u32 x.n) := by rw [hw1, World.cell?_alloc_at _ _ _ _ rfl]; rfl
    rw [← hw1]
    have hne : ∀ (W : World) (v : Value) (i j : Nat), i ≠ j → (W.setCell ⟨w1.heap.size, i, none⟩ v).cell? ⟨w1.heap.size, j, none⟩ = W.cell? ⟨w1.heap.size, j, none⟩ := fun W v i j h => World.cell?_setCell_other _ _ _ _ (by simp [h])
    have HB01 := hide (show Below w.heap.size w w1 by rw [hw1]; exact (Below.refl _ _).alloc (Nat.le_refl _) _)
    have MK1 := hide (show ∀ W, Below w1.heap.size w1 W → (W.cell? ⟨w.heap.size, 0, none⟩ = some (.int .i64 x.op) ∧ W.cell? ⟨w.heap.size, 1, none⟩ = some (.int .i64 x.a) ∧ W.cell? ⟨w.heap.size, 2, none⟩ = some (.int .i64 x.b) ∧ W.cell? ⟨w.heap.size, 3, none⟩ = some (.int .i64 x.c) ∧ W.cell? ⟨w.heap.size, 4, none⟩ = some (.int .u32 x.n) ∧ Below w1.heap.size w1 W) from fun W hb => ⟨Ext.below hb _ _ f1_0, Ext.below hb _ _ f1_1, Ext.below hb _ _ f1_2, Ext.below hb _ _ f1_3, Ext.below hb _ _ f1_4, hb⟩)
    have PR1 := hide (show ∀ W, (W.cell? ⟨w.heap.size, 0, none⟩ = some (.int .i64 x.op) ∧ W.cell? ⟨w.heap.size, 1, none⟩ = some (.int .i64 x.a) ∧ W.cell? ⟨w.heap.size, 2, none⟩ = some (.int .i64 x.b) ∧ W.cell? ⟨w.heap.size, 3, none⟩ = some (.int .i64 x.c) ∧ W.cell? ⟨w.heap.size, 4, none⟩ = some (.int .u32 x.n) ∧ Below w1.heap.size w1 W) → Below w1.heap.size w1 W from fun W h => h.2.2.2.2.2)
    have hb01 : Below w1.heap.size w1 w1 := Below.refl _ _
    clear hw1 f1_0 f1_1 f1_2 f1_3 f1_4
    go_region_held3 (fun W => W.cell? ⟨w.heap.size, 0, none⟩ = some (.int .i64 x.op) ∧ W.cell? ⟨w.heap.size, 1, none⟩ = some (.int .i64 x.a) ∧ W.cell? ⟨w.heap.size, 2, none⟩ = some (.int .i64 x.b) ∧ W.cell? ⟨w.heap.size, 3, none⟩ = some (.int .i64 x.c) ∧ W.cell? ⟨w.heap.size, 4, none⟩ = some (.int .u32 x.n) ∧ Below w1.heap.size w1 W) (first | exact MK1.out _ (by with_reducible assumption) | exact MK1.out _ (by with_reducible exact Below.drew (by assumption)) | exact MK1.out _ (by with_reducible (repeat (first | assumption | apply Below.drew | apply belowAl | (refine Below.setCell ?_ (by first | exact Nat.le_refl _ | exact Below.size (by assumption)) _)))))
      (first
        | (go_at_call 187; with_reducible (refine Calls.mono (shapes_any _) ?_); rintro e w' ⟨rfl, hb⟩; have hB : Below w1.heap.size w1 w' := Below.trans (PR1.out _ (by assumption)) (hb.mono (Below.size (PR1.out _ (by assumption)))); try have hg := new76 hb))
    go_goals
    go_wp2_with (first
      | (go_at_call 188; refine (fits_any _ _ _).mono ?_; rintro e w' ⟨rfl, rfl⟩))
    all_goals
      go_ret
      refine ⟨by simp_all, ?_⟩
      have hT : ∀ W, Below w1.heap.size w1 W → Below w.heap.size w W := fun W h => Below.trans HB01.out (h.mono HB01.out.size)
      refine hT _ ?_
      with_reducible (repeat (first | assumption | apply Below.drew | apply belowAl | (refine Below.setCell ?_ (by first | exact Nat.le_refl _ | exact Below.size (by assumption)) _)))
  · rw [rightI_no h]
    go_enter Tryz.func169, Tryz.ntmps169
    go_wp2_with (go_at_call 186; refine (known_any _ false _ (by simpa using h)).mono ?_; rintro e w' ⟨rfl, rfl⟩)
    go_ret
    exact ⟨rfl, (Below.refl _ _).alloc (Nat.le_refl _) _⟩
end Go.Proofs.YtkkmageogkkchaaGreat
namespace Go.Proofs.YtkkmageogkkchaaGreat
set_option maxRecDepth 100000
open Go.RowKit

theorem target_k4 {op : Int} (h : 0 ≤ op ∧ op < 22) : decide ((kindsOf op).2.2.2 = 4) = decide (14 ≤ op ∧ op ≤ 16) := by
  obtain ⟨k, rfl⟩ := Int.eq_ofNat_of_zero_le h.1
  have hk : k < 22 := by omega
  revert hk; clear h; intro hk
  match k, hk with
  | 0, _ => rfl
  | 1, _ => rfl
  | 2, _ => rfl
  | 3, _ => rfl
  | 4, _ => rfl
  | 5, _ => rfl
  | 6, _ => rfl
  | 7, _ => rfl
  | 8, _ => rfl
  | 9, _ => rfl
  | 10, _ => rfl
  | 11, _ => rfl
  | 12, _ => rfl
  | 13, _ => rfl
  | 14, _ => rfl
  | 15, _ => rfl
  | 16, _ => rfl
  | 17, _ => rfl
  | 18, _ => rfl
  | 19, _ => rfl
  | 20, _ => rfl
  | 21, _ => rfl
  | n + 22, h => exact absurd h (by omega)
def tgtI (x : Instr) : Int := if leadsI x then x.n else 0
set_option maxHeartbeats 4000000 in
theorem target_any (x : Instr) (w : World) (hx : x.ok) : Calls Tryz.prog 200 #[instrV x] w fun e w' => e = .returned (.tuple #[.int .i64 (tgtI x), .bool (leadsI x)]) ∧ Below w.heap.size w w' := by
  obtain ⟨hn1, hn2⟩ := Go.bounds_u32 hx.2.2.2.2
  by_cases hr : rightI x = true
  · have h : 0 ≤ x.op ∧ x.op < 22 := by simp [rightI] at hr; exact hr.1
    obtain ⟨s1, s2, s3, hix⟩ := shape_ix x.op h
    have h4 := target_k4 h
    have cR : Hid (∀ w0, Calls Tryz.prog 169 #[instrV x] w0 fun e w' => e = .returned (.bool true) ∧ Below w0.heap.size w0 w') := hide (fun w0 => by have := right_any x w0 hx; rwa [hr] at this)
    have htL : ((kindsOf x.op).2.2.2 = 4) → leadsI x = true ∧ tgtI x = x.n := fun e => by
      have : leadsI x = true := by rw [leadsI, hr, ← h4, e]; rfl
      exact ⟨this, by rw [tgtI, this]; rfl⟩
    have htN : ¬ ((kindsOf x.op).2.2.2 = 4) → leadsI x = false ∧ tgtI x = 0 := fun e => by
      have : leadsI x = false := by rw [leadsI, hr, ← h4, decide_eq_false e]; rfl
      exact ⟨this, by rw [tgtI, this]; rfl⟩
    have htL := hide htL
    have htN := hide htN
    clear h4 hr
    generalize (kindsOf x.op).1 = k1 at *
    generalize (kindsOf x.op).2.1 = k2 at *
    generalize (kindsOf x.op).2.2.1 = k3 at *
    generalize (kindsOf x.op).2.2.2 = k4 at *
    have hf : ∀ W, (Instr.field 160 (.agg #[.string s1, .int .i64 k1, .int .i64 k2, .int .i64 k3, .int .i64 k4, .string s2, .string s3]) 4).run Tryz.prog W = .ok (.int .i64 k4) W := fun W => by kernel_rfl
    by_cases hk : k4 = 4
    · obtain ⟨e1, e2⟩ := htL.out hk
      rw [e1, e2]
      clear htL htN e1 e2
      subst hk
      go_enter Tryz.func200, Tryz.ntmps200
      go_wp2_with fail
      obtain ⟨w1, hw1⟩ : ∃ z, z = w.alloc (.cells #[.int .i64 x.op, .int .i64 x.a, .int .i64 x.b, .int .i64 x.c, .int .u32 x.n] 74) := ⟨_, rfl⟩
      have f1_0 : w1.cell? ⟨w.heap.size, 0, none⟩ = some (.int .i64 x.op) := by rw [hw1, World.cell?_alloc_at _ _ _ _ rfl]; rfl
      have f1_1 : w1.cell? ⟨w.heap.size, 1, none⟩ = some (.int .i64 x.a) := by rw [hw1, World.cell?_alloc_at _ _ _ _ rfl]; rfl
      have f1_2 : w1.cell? ⟨w.heap.size, 2, none⟩ = some (.int .i64 x.b) := by rw [hw1, World.cell?_alloc_at _ _ _ _ rfl]; rfl
      have f1_3 : w1.cell? ⟨w.heap.size, 3, none⟩ = some (.int .i64 x.c) := by rw [hw1, World.cell?_alloc_at _ _ _ _ rfl]; rfl
      have f1_4 : w1.cell? ⟨w.heap.size, 4, none⟩ = some (.int .u32 x.n) := by rw [hw1, World.cell?_alloc_at _ _ _ _ rfl]; rfl
      rw [← hw1]
      have HB01 := hide (show Below w.heap.size w w1 by rw [hw1]; exact (Below.refl _ _).alloc (Nat.le_refl _) _)
      have MK1 := hide (show ∀ W, Below w1.heap.size w1 W → (W.cell? ⟨w.heap.size, 0, none⟩ = some (.int .i64 x.op) ∧ W.cell? ⟨w.heap.size, 1, none⟩ = some (.int .i64 x.a) ∧ W.cell? ⟨w.heap.size, 2, none⟩ = some (.int .i64 x.b) ∧ W.cell? ⟨w.heap.size, 3, none⟩ = some (.int .i64 x.c) ∧ W.cell? ⟨w.heap.size, 4, none⟩ = some (.int .u32 x.n) ∧ Below w1.heap.size w1 W) from fun W hb => ⟨Ext.below hb _ _ f1_0, Ext.below hb _ _ f1_1, Ext.below hb _ _ f1_2, Ext.below hb _ _ f1_3, Ext.below hb _ _ f1_4, hb⟩)
      have PR1 := hide (show ∀ W, (W.cell? ⟨w.heap.size, 0, none⟩ = some (.int .i64 x.op) ∧ W.cell? ⟨w.heap.size, 1, none⟩ = some (.int .i64 x.a) ∧ W.cell? ⟨w.heap.size, 2, none⟩ = some (.int .i64 x.b) ∧ W.cell? ⟨w.heap.size, 3, none⟩ = some (.int .i64 x.c) ∧ W.cell? ⟨w.heap.size, 4, none⟩ = some (.int .u32 x.n) ∧ Below w1.heap.size w1 W) → Below w1.heap.size w1 W from fun W h => h.2.2.2.2.2)
      have hb01 : Below w1.heap.size w1 w1 := Below.refl _ _
      clear hw1 f1_0 f1_1 f1_2 f1_3 f1_4
      go_region_held3 (fun W => W.cell? ⟨w.heap.size, 0, none⟩ = some (.int .i64 x.op) ∧ W.cell? ⟨w.heap.size, 1, none⟩ = some (.int .i64 x.a) ∧ W.cell? ⟨w.heap.size, 2, none⟩ = some (.int .i64 x.b) ∧ W.cell? ⟨w.heap.size, 3, none⟩ = some (.int .i64 x.c) ∧ W.cell? ⟨w.heap.size, 4, none⟩ = some (.int .u32 x.n) ∧ Below w1.heap.size w1 W) (first | exact MK1.out _ (by with_reducible assumption) | exact MK1.out _ (by with_reducible exact Below.drew (by assumption)))
        (first
          | (go_at_call 169; with_reducible (refine Calls.mono (cR.out _) ?_); rintro e w' ⟨rfl, hb⟩; have hB : Below w1.heap.size w1 w' := Below.trans (PR1.out _ (by assumption)) (hb.mono (Below.size (PR1.out _ (by assumption)))))
          | (go_at_call 187; with_reducible (refine Calls.mono (shapes_any _) ?_); rintro e w' ⟨rfl, hb⟩; have hB : Below w1.heap.size w1 w' := Below.trans (PR1.out _ (by assumption)) (hb.mono (Below.size (PR1.out _ (by assumption))))))
      all_goals
        go_wp2
        go_ret2
        have hT : ∀ W, Below w1.heap.size w1 W → Below w.heap.size w W := fun W h => Below.trans HB01.out (h.mono HB01.out.size)
        exact ⟨rfl, hT _ (by first | (with_reducible assumption) | (with_reducible exact Below.drew (by assumption)))⟩
    · obtain ⟨e1, e2⟩ := htN.out hk
      rw [e1, e2]
      clear htL htN e1 e2
      go_enter Tryz.func200, Tryz.ntmps200
      go_wp2_with fail
      obtain ⟨w1, hw1⟩ : ∃ z, z = w.alloc (.cells #[.int .i64 x.op, .int .i64 x.a, .int .i64 x.b, .int .i64 x.c, .int .u32 x.n] 74) := ⟨_, rfl⟩
      have f1_0 : w1.cell? ⟨w.heap.size, 0, none⟩ = some (.int .i64 x.op) := by rw [hw1, World.cell?_alloc_at _ _ _ _ rfl]; rfl
      have f1_1 : w1.cell? ⟨w.heap.size, 1, none⟩ = some (.int .i64 x.a) := by rw [hw1, World.cell?_alloc_at _ _ _ _ rfl]; rfl
      have f1_2 : w1.cell? ⟨w.heap.size, 2, none⟩ = some (.int .i64 x.b) := by rw [hw1, World.cell?_alloc_at _ _ _ _ rfl]; rfl
      have f1_3 : w1.cell? ⟨w.heap.size, 3, none⟩ = some (.int .i64 x.c) := by rw [hw1, World.cell?_alloc_at _ _ _ _ rfl]; rfl
      have f1_4 : w1.cell? ⟨w.heap.size, 4, none⟩ = some (.int .u32 x.n) := by rw [hw1, World.cell?_alloc_at _ _ _ _ rfl]; rfl
      rw [← hw1]
      have HB01 := hide (show Below w.heap.size w w1 by rw [hw1]; exact (Below.refl _ _).alloc (Nat.le_refl _) _)
      have MK1 := hide (show ∀ W, Below w1.heap.size w1 W → (W.cell? ⟨w.heap.size, 0, none⟩ = some (.int .i64 x.op) ∧ W.cell? ⟨w.heap.size, 1, none⟩ = some (.int .i64 x.a) ∧ W.cell? ⟨w.heap.size, 2, none⟩ = some (.int .i64 x.b) ∧ W.cell? ⟨w.heap.size, 3, none⟩ = some (.int .i64 x.c) ∧ W.cell? ⟨w.heap.size, 4, none⟩ = some (.int .u32 x.n) ∧ Below w1.heap.size w1 W) from fun W hb => ⟨Ext.below hb _ _ f1_0, Ext.below hb _ _ f1_1, Ext.below hb _ _ f1_2, Ext.below hb _ _ f1_3, Ext.below hb _ _ f1_4, hb⟩)
      have PR1 := hide (show ∀ W, (W.cell? ⟨w.heap.size, 0, none⟩ = some (.int .i64 x.op) ∧ W.cell? ⟨w.heap.size, 1, none⟩ = some (.int .i64 x.a) ∧ W.cell? ⟨w.heap.size, 2, none⟩ = some (.int .i64 x.b) ∧ W.cell? ⟨w.heap.size, 3, none⟩ = some (.int .i64 x.c) ∧ W.cell? ⟨w.heap.size, 4, none⟩ = some (.int .u32 x.n) ∧ Below w1.heap.size w1 W) → Below w1.heap.size w1 W from fun W h => h.2.2.2.2.2)
      have hb01 : Below w1.heap.size w1 w1 := Below.refl _ _
      clear hw1 f1_0 f1_1 f1_2 f1_3 f1_4
      go_region_held3 (fun W => W.cell? ⟨w.heap.size, 0, none⟩ = some (.int .i64 x.op) ∧ W.cell? ⟨w.heap.size, 1, none⟩ = some (.int .i64 x.a) ∧ W.cell? ⟨w.heap.size, 2, none⟩ = some (.int .i64 x.b) ∧ W.cell? ⟨w.heap.size, 3, none⟩ = some (.int .i64 x.c) ∧ W.cell? ⟨w.heap.size, 4, none⟩ = some (.int .u32 x.n) ∧ Below w1.heap.size w1 W) (first | exact MK1.out _ (by with_reducible assumption) | exact MK1.out _ (by with_reducible exact Below.drew (by assumption)))
        (first
          | (go_at_call 169; with_reducible (refine Calls.mono (cR.out _) ?_); rintro e w' ⟨rfl, hb⟩; have hB : Below w1.heap.size w1 w' := Below.trans (PR1.out _ (by assumption)) (hb.mono (Below.size (PR1.out _ (by assumption)))))
          | (go_at_call 187; with_reducible (refine Calls.mono (shapes_any _) ?_); rintro e w' ⟨rfl, hb⟩; have hB : Below w1.heap.size w1 w' := Below.trans (PR1.out _ (by assumption)) (hb.mono (Below.size (PR1.out _ (by assumption))))))
      all_goals
        go_wp2
        go_ret2
        have hT : ∀ W, Below w1.heap.size w1 W → Below w.heap.size w W := fun W h => Below.trans HB01.out (h.mono HB01.out.size)
        exact ⟨rfl, hT _ (by first | (with_reducible assumption) | (with_reducible exact Below.drew (by assumption)))⟩
  · have hr : rightI x = false := by simpa using hr
    have e1 : leadsI x = false := by rw [leadsI, hr]; rfl
    have e2 : tgtI x = 0 := by rw [tgtI, e1]; rfl
    rw [e1, e2]
    have cR : Hid (∀ w0, Calls Tryz.prog 169 #[instrV x] w0 fun e w' => e = .returned (.bool false) ∧ Below w0.heap.size w0 w') := hide (fun w0 => by have := right_any x w0 hx; rwa [hr] at this)
    go_enter Tryz.func200, Tryz.ntmps200
    go_wp2_with fail
    first
      | go_region_with (go_at_call 169; refine (cR.out _).mono ?_; rintro e w' ⟨rfl, hb⟩)
      | fail
    all_goals
      go_wp2
      go_ret2
      refine ⟨rfl, ?_⟩
      have HB := (Below.refl w.heap.size w).alloc (Nat.le_refl _) (.cells #[.int .i64 x.op, .int .i64 x.a, .int .i64 x.b, .int .i64 x.c, .int .u32 x.n] 74)
      first
        | exact Below.trans HB ((by assumption : Below _ _ _).mono HB.size)
        | exact Below.trans HB.drew ((by assumption : Below _ _ _).mono HB.size)
        | exact Below.trans HB.drew.drew ((by assumption : Below _ _ _).mono HB.size)
        | exact (Below.trans HB ((by assumption : Below _ _ _).mono HB.size)).drew
        | exact (Below.trans HB.drew ((by assumption : Below _ _ _).mono HB.size)).drew
end Go.Proofs.YtkkmageogkkchaaGreat
namespace Go.Proofs.YtkkmageogkkchaaGreat
set_option maxRecDepth 100000
open Go.RowKit

theorem reg08_any (n : Int) (w : World) : Calls Tryz.prog 170 #[.int .i64 n] w fun e w' => e = .returned (.bool (decide (0 ≤ n ∧ n < 8))) ∧ w = w' := by
  go_enter Tryz.func170, Tryz.ntmps170
  go_wp2
  all_goals
    go_ret
    exact ⟨rbool (by simp_all; try omega), rfl⟩
set_option maxHeartbeats 8000000 in
set_option maxRecDepth 100000 in
theorem right08_any (x : Instr) (w : World) (hx : x.ok) : Calls Tryz.prog 144 #[instrV x] w fun e w' => e = .returned (.bool (rightI x)) ∧ Below w.heap.size w w' := by
  obtain ⟨hn1, hn2⟩ := Go.bounds_u32 hx.2.2.2.2
  by_cases h : 0 ≤ x.op ∧ x.op < 22
  · obtain ⟨op, a, b, c, n⟩ := x
    have h0 : op = 0 ∨ op = 1 ∨ op = 2 ∨ op = 3 ∨ op = 4 ∨ op = 5 ∨ op = 6 ∨ op = 7 ∨ op = 8 ∨ op = 9 ∨ op = 10 ∨ op = 11 ∨ op = 12 ∨ op = 13 ∨ op = 14 ∨ op = 15 ∨ op = 16 ∨ op = 17 ∨ op = 18 ∨ op = 19 ∨ op = 20 ∨ op = 21 := by simp only at h; omega
    clear h hx
    rcases h0 with rfl | rfl | rfl | rfl | rfl | rfl | rfl | rfl | rfl | rfl | rfl | rfl | rfl | rfl | rfl | rfl | rfl | rfl | rfl | rfl | rfl | rfl
    all_goals
      go_enter Tryz.func144, Tryz.ntmps144
      go_wp2_with (go_at_call 170; refine (reg08_any _ _).mono ?_; rintro e w' ⟨rfl, rfl⟩)
      all_goals
        go_ret
        exact ⟨rbool (by simp_all [rightI, kindsOf, kindsN, fitsB]; try omega), (Below.refl _ _).alloc (Nat.le_refl _) _⟩
  · rw [rightI_no h]
    have n0 : ¬ x.op = 0 := by omega
    have n1 : ¬ x.op = 1 := by omega
    have n2 : ¬ x.op = 2 := by omega
    have n3 : ¬ x.op = 3 := by omega
    have n4 : ¬ x.op = 4 := by omega
    have n5 : ¬ x.op = 5 := by omega
    have n6 : ¬ x.op = 6 := by omega
    have n7 : ¬ x.op = 7 := by omega
    have n8 : ¬ x.op = 8 := by omega
    have n9 : ¬ x.op = 9 := by omega
    have n10 : ¬ x.op = 10 := by omega
    have n11 : ¬ x.op = 11 := by omega
    have n12 : ¬ x.op = 12 := by omega
    have n13 : ¬ x.op = 13 := by omega
    have n14 : ¬ x.op = 14 := by omega
    have n15 : ¬ x.op = 15 := by omega
    have n16 : ¬ x.op = 16 := by omega
    have n17 : ¬ x.op = 17 := by omega
    have n18 : ¬ x.op = 18 := by omega
    have n19 : ¬ x.op = 19 := by omega
    have n20 : ¬ x.op = 20 := by omega
    have n21 : ¬ x.op = 21 := by omega
    clear h
    go_enter Tryz.func144, Tryz.ntmps144
    go_wp2
    go_ret
    exact ⟨rfl, (Below.refl _ _).alloc (Nat.le_refl _) _⟩
end Go.Proofs.YtkkmageogkkchaaGreat
namespace Go.Proofs.YtkkmageogkkchaaGreat
set_option maxRecDepth 100000
open Go.RowKit
theorem fn_of_calls {P : Program} {f : FuncId} {args : List AV} {r : AV} (he : Entered P f) (hp : ∀ (σ : Sig) (ι : Nat → Value) (w : World) (vs : List Value), L2 (VR σ ι) args vs → ∃ u, (∀ σ', VR0 σ' r u) ∧ Calls P f vs.toArray w fun e w' => e = .returned u ∧ Below w.heap.size w w') : Fn P f args r :=
  ⟨he, fun σ ι w vs hsub hv => by
    obtain ⟨u, h1, h2⟩ := hp σ ι w vs hv
    refine h2.mono fun e w' ⟨h3, h4⟩ => ⟨u, σ, h3, h1 σ, ?_⟩
    have hcell : ∀ a v, σ a = some v → w'.cell? a = some v := fun a v ha => by
      have hb := World.block_lt_of_cell? w a (hsub a v ha)
      rw [h4.cell hb]; exact hsub a v ha
    exact ⟨h4.os, h4.tape, h4.output, h4.size, fun b hb _ => h4.block b hb, fun _ _ => rfl, hcell, fun i c hc => (by cases hc), fun i c hc => (by cases hc), fun i j c d hc => (by cases hc), fun p hp => (by cases hp), fun p hp => (by cases hp), fun p hp => (by cases hp)⟩⟩
end Go.Proofs.YtkkmageogkkchaaGreat
namespace Go.Proofs.YtkkmageogkkchaaGreat
set_option maxRecDepth 100000
open Go.RowKit
theorem instr_arg {σ : Sig} {ι : Nat → Value} {x : Instr} {vs : List Value} (h : L2 (VR σ ι) [.agg (eInstr x)] vs) : vs = [instrV x] ∧ x.ok := by
  obtain ⟨v, ys, rfl, h1, h2⟩ := h.cons_inv
  rw [L2.nil_iff] at h2
  subst h2
  obtain ⟨us, rfl, h3⟩ := h1.agg_inv
  have hx := ex_Instr σ ι x us h3
  refine ⟨by rw [hx]; rfl, ?_⟩
  obtain ⟨_, _, _, r0, h3⟩ := L2.cons_inv h3
  obtain ⟨_, _, _, r1, h3⟩ := L2.cons_inv h3
  obtain ⟨_, _, _, r2, h3⟩ := L2.cons_inv h3
  obtain ⟨_, _, _, r3, h3⟩ := L2.cons_inv h3
  obtain ⟨_, _, _, r4, h3⟩ := L2.cons_inv h3
  exact ⟨rangeP_wf.1 r0.int_inv.2, rangeP_wf.1 r1.int_inv.2, rangeP_wf.1 r2.int_inv.2, rangeP_wf.1 r3.int_inv.2, rangeP_wf.1 r4.int_inv.2⟩
theorem right_fn (x : Instr) : Fn Tryz.prog 169 [.agg (eInstr x)] (.bool (rightI x)) :=
  fn_of_calls (entered_of (by kernel_rfl)) fun σ ι w vs hv => by
    obtain ⟨rfl, hx⟩ := instr_arg hv
    exact ⟨.bool (rightI x), fun _ => .bool _, right_any x w hx⟩
theorem target_fn (x : Instr) (h : 0 ≤ x.n ∧ x.n ≤ 4294967295) : Fn Tryz.prog 200 [.agg (eInstr x)] (.tup [.int .i64 (tgtI x), .bool (leadsI x)]) :=
  fn_of_calls (entered_of (by kernel_rfl)) fun σ ι w vs hv => by
    obtain ⟨rfl, hx⟩ := instr_arg hv
    refine ⟨.tuple #[.int .i64 (tgtI x), .bool (leadsI x)], fun σ' => .tup _ [_, _] rfl (((L2.nil _).cons (.bool _)).cons (.int _ _ ?_)).2, target_any x w hx⟩
    simp only [rangeP, tgtI]; split <;> omega
theorem right08_fn (x : Instr) : Fn Tryz.prog 144 [.agg (eInstr x)] (.bool (rightI x)) :=
  fn_of_calls (entered_of (by kernel_rfl)) fun σ ι w vs hv => by
    obtain ⟨rfl, hx⟩ := instr_arg hv
    exact ⟨.bool (rightI x), fun _ => .bool _, right08_any x w hx⟩
theorem leads08_fn (n : Int) : Fn Tryz.prog 214 [.int .i64 n] (.bool (decide (14 ≤ n ∧ n ≤ 16))) := by
  refine fnb Tryz.func214 (entered_of (by kernel_rfl)) rfl rfl rfl ?_
  repeat' (first | refine sA ?_ | ((first | apply kM | apply kN); (iterate 3 (· exact rfl)); (· first | exact ya)) | refine sG ?_ | (refine sK ?_ ?_ <;> intro hc <;> (try simp only [KL, sL, reduceCtorEq] at hc) <;> (try (exfalso; omega))))
  all_goals exact retq rfl (congrArg AV.bool (by rw [Bool.eq_iff_iff]; (try simp only [cond_true, cond_false, decide_eq_true_eq, Bool.not_eq_true', decide_eq_false_iff_not, Bool.and_eq_true, Bool.or_eq_true, true_iff, false_iff, iff_true, iff_false, Bool.false_eq_true, Bool.not_true, Bool.not_false, reduceCtorEq]); (first | done | omega | (constructor <;> intros <;> omega))))
end Go.Proofs.YtkkmageogkkchaaGreat
namespace Go.Proofs.YtkkmageogkkchaaGreat
set_option maxRecDepth 100000
open Go.RowKit Go.ChangeShapes Go.WideShapes

structure Span where
  frm : Int
  to : Int
instance : Inhabited Span := ⟨⟨0, 0⟩⟩
theorem Span.ext_ {x y : Span} (h : x.frm = y.frm ∧ x.to = y.to) : x = y := by cases x; cases y; simp_all
instance : DecidableEq Span := fun x y => decidable_of_iff (x.frm = y.frm ∧ x.to = y.to) ⟨Span.ext_, fun h => by subst h; simp⟩
def Span.cells (x : Span) : List Value := [.int .i64 x.frm, .int .i64 x.to]
def Span.ok (x : Span) : Prop := (Lit.int .i64 x.frm).wf = true ∧ (Lit.int .i64 x.to).wf = true
def Span.cod : Cod Span := fun _ cs x => cs = x.cells ∧ x.ok
theorem Span.mono : Mono Span.cod := fun _ _ _ _ _ h => h
theorem Span.size {w : World} {cs : List Value} {x : Span} (h : Span.cod w cs x) : cs.length = 2 := by rw [h.1]; rfl
theorem Span.at {w : World} {b off : Nat} {xs : List Span} (h : Row' Span.cod 2 w b off xs) (i : Nat) (hi : i < xs.length) :
    w.cell? ⟨b, off + i * 2, none⟩ = some (.int .i64 xs[i].frm) ∧ w.cell? ⟨b, off + i * 2 + 1, none⟩ = some (.int .i64 xs[i].to) ∧ xs[i].ok := by
  obtain ⟨cs, hx, _, hc⟩ := h i xs[i] (List.getElem?_eq_getElem hi)
  obtain ⟨rfl, hk⟩ := hx
  exact ⟨hc 0 _ rfl, hc 1 _ rfl, hk⟩
theorem Span.opens : Opens Tryz.prog 122 Span.cod := by
  intro H enc w base spare held fuel cs x h
  obtain ⟨xs, n, _, _, hlen, hxl, hf⟩ := DataW.trod_struct Tryz.underlying122 h
  have hxl' : xs.length = 2 := hxl
  have hl' : cs.length = 2 := hlen.trans (by kernel_rfl)
  have f0 := (hf 0 _ rfl).trans (List.getElem?_eq_getElem (show 0 < xs.length by omega))
  obtain ⟨v0, e0, _, w0⟩ := DataW.trod_int Tryz.underlying3 f0
  have g0 := takeHead e0
  have f1 := (hf 1 _ rfl).trans (List.getElem?_eq_getElem (show 1 < xs.length by omega))
  obtain ⟨v1, e1, _, w1⟩ := DataW.trod_int Tryz.underlying3 f1
  have g1 := takeHead e1
  refine ⟨⟨v0, v1⟩, ?_, ⟨w0, w1⟩⟩
  refine list_of_cells [.int .i64 v0, .int .i64 v1] hl' fun i hi => ?_
  have hi' : i < 2 := hi
  match i, hi' with
  | 0, _ => exact g0
  | 1, _ => exact g1
theorem Span.run_eqIn (x y : Span) (w : World) : (Op.equalIn 10000 122 (.agg #[.int .i64 x.frm, .int .i64 x.to]) (.agg #[.int .i64 y.frm, .int .i64 y.to])).run Tryz.prog w = .ok (decide (x = y)) w := by
  have hs : Tryz.prog.stoodInHeld 122 = false := by kernel_rfl
  rw [run_equalIn_agg w 9999 122 _ _ (by simp only [Program.fieldsOf, Tryz.underlying122]) hs]
  simp only [Program.fieldsOf, Tryz.underlying122]
  simp [go_sem]
  by_cases h : x = y
  · subst h; simp
  · rw [show decide (x = y) = false from by simp [h]]
    repeat' split
    all_goals first | rfl | exact absurd (Span.ext_ ⟨by assumption, by assumption⟩) h
theorem Span.run_guard (op : BinOp) (xo yo : Operand) (xs ys : Array Value) (w : World) : (eqGuard op 122 xo yo (.agg xs) (.agg ys)).run Tryz.prog w = .ok () w := run_eqGuard_agg w op 122 xo yo xs ys (by kernel_rfl)
end Go.Proofs.YtkkmageogkkchaaGreat
namespace Go.Proofs.YtkkmageogkkchaaGreat
set_option maxRecDepth 100000
open Go.RowKit
def eSpan (x : Span) : List AV := [.int .i64 x.frm, .int .i64 x.to]
theorem ex_Span : ∀ σ ι x vs, L2 (VR σ ι) (eSpan x) vs → vs = Span.cells x := fun σ ι x vs h => by
  obtain ⟨u0, r0, rfl, h0, h⟩ := L2.cons_inv h
  obtain ⟨u1, r1, rfl, h1, h⟩ := L2.cons_inv h
  rw [L2.nil_iff] at h
  subst h
  rw [h0.int_inv.1, h1.int_inv.1]
  rfl
theorem eq_Span {s : Slots} {h : Heap} {o : Oper} {yt : TypeId} {X Y : Operand} {op : BinOp} {x y : Span} (ho : o.op = .binOp op 122 X Y yt) (hop : op = .eql ∨ op = .neq) (hx : evA s X = .agg (eSpan x)) (hy : evA s Y = .agg (eSpan y)) : OkO Tryz.prog o s h (.bool (if op = .eql then decide (x = y) else !decide (x = y))) :=
  ok_eqS Span.cells eSpan hop ex_Span (fun w => Span.run_eqIn x y w) (fun xs ys w => Span.run_guard op X Y xs ys w) ho hx hy
theorem neq_Span {s : Slots} {h : Heap} {o : Oper} {yt : TypeId} {X Y : Operand} {x y : Span} (ho : o.op = .binOp .neq 122 X Y yt) (hx : evA s X = .agg (eSpan x)) (hy : evA s Y = .agg (eSpan y)) : OkO Tryz.prog o s h (.bool (!decide (x = y))) := eq_Span ho (.inr rfl) hx hy
end Go.Proofs.YtkkmageogkkchaaGreat
