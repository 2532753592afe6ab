/- The package isa: which instructions are right, and where they may lead; and the reference; no condition. -/
import Derived.Test.YtffciebjpiljgaaTyInstr
import Derived.Test.YtffciebjpiljgaaOwn
import Derived.Deep.RegionHeld3
import Derived.OpenShut
namespace Go.Proofs.Ytffciebjpiljgaa
set_option linter.unusedSimpArgs false
set_option linter.unusedVariables false
set_option maxRecDepth 100000
open Go.RowKit

def kindsN (op : Nat) : Int × Int × Int × Int := match op with
  | 0 => (0, 0, 0, 0)
  | 1 => (1, 0, 0, 6)
  | 2 => (1, 1, 0, 0)
  | 3 => (1, 1, 1, 0)
  | 4 => (1, 1, 1, 0)
  | 5 => (1, 1, 1, 0)
  | 6 => (1, 1, 1, 0)
  | 7 => (1, 1, 1, 0)
  | 8 => (1, 1, 1, 0)
  | 9 => (1, 1, 1, 0)
  | 10 => (1, 1, 1, 0)
  | 11 => (1, 1, 0, 6)
  | 12 => (1, 1, 0, 6)
  | 13 => (1, 1, 1, 6)
  | 14 => (0, 0, 0, 4)
  | 15 => (1, 0, 0, 4)
  | 16 => (0, 0, 3, 4)
  | 17 => (1, 2, 0, 5)
  | 18 => (1, 2, 0, 5)
  | 19 => (1, 2, 0, 5)
  | 20 => (1, 2, 0, 5)
  | 21 => (0, 0, 0, 0)
  | _ => (0, 0, 0, 0)
/-- What the operands of a kind may be. -/
def kindsOf (op : Int) : Int × Int × Int × Int := kindsN op.toNat
def fitsB (k n : Int) : Bool := if k = 0 then n == 0 else if k = 1 then decide (0 ≤ n ∧ n < 8) else if k = 2 then decide (0 ≤ n ∧ n < 8) else if k = 3 then decide (1 ≤ n ∧ n ≤ 255) else if k = 4 then decide (n < 64) else if k = 5 then decide (n < 64) else true
/-- May an instruction be? -/
def rightI (x : Instr) : Bool := decide (0 ≤ x.op ∧ x.op < 22) && (fitsB (kindsOf x.op).1 x.a && (fitsB (kindsOf x.op).2.1 x.b && (fitsB (kindsOf x.op).2.2.1 x.c && fitsB (kindsOf x.op).2.2.2 x.n)))
/-- Does a right instruction lead elsewhere? -/
def leadsI (x : Instr) : Bool := rightI x && decide (14 ≤ x.op ∧ x.op ≤ 16)
def shapesV : Array Value := #[.string ⟨#[110, 111, 112]⟩, .int .i64 0, .int .i64 0, .int .i64 0, .int .i64 0, .string ⟨#[]⟩, .string ⟨#[]⟩, .string ⟨#[115, 101, 116]⟩, .int .i64 1, .int .i64 0, .int .i64 0, .int .i64 6, .string ⟨#[]⟩, .string ⟨#[97]⟩, .string ⟨#[109, 111, 118, 101]⟩, .int .i64 1, .int .i64 1, .int .i64 0, .int .i64 0, .string ⟨#[98]⟩, .string ⟨#[97]⟩, .string ⟨#[97, 100, 100]⟩, .int .i64 1, .int .i64 1, .int .i64 1, .int .i64 0, .string ⟨#[98, 99]⟩, .string ⟨#[97]⟩, .string ⟨#[115, 117, 98]⟩, .int .i64 1, .int .i64 1, .int .i64 1, .int .i64 0, .string ⟨#[98, 99]⟩, .string ⟨#[97]⟩, .string ⟨#[109, 117, 108]⟩, .int .i64 1, .int .i64 1, .int .i64 1, .int .i64 0, .string ⟨#[98, 99]⟩, .string ⟨#[97]⟩, .string ⟨#[97, 110, 100]⟩, .int .i64 1, .int .i64 1, .int .i64 1, .int .i64 0, .string ⟨#[98, 99]⟩, .string ⟨#[97]⟩, .string ⟨#[111, 114]⟩, .int .i64 1, .int .i64 1, .int .i64 1, .int .i64 0, .string ⟨#[98, 99]⟩, .string ⟨#[97]⟩, .string ⟨#[120, 111, 114]⟩, .int .i64 1, .int .i64 1, .int .i64 1, .int .i64 0, .string ⟨#[98, 99]⟩, .string ⟨#[97]⟩, .string ⟨#[108, 101, 115, 115]⟩, .int .i64 1, .int .i64 1, .int .i64 1, .int .i64 0, .string ⟨#[98, 99]⟩, .string ⟨#[97]⟩, .string ⟨#[101, 113, 117, 97, 108]⟩, .int .i64 1, .int .i64 1, .int .i64 1, .int .i64 0, .string ⟨#[98, 99]⟩, .string ⟨#[97]⟩, .string ⟨#[108, 111, 97, 100]⟩, .int .i64 1, .int .i64 1, .int .i64 0, .int .i64 6, .string ⟨#[98]⟩, .string ⟨#[97]⟩, .string ⟨#[115, 116, 111, 114, 101]⟩, .int .i64 1, .int .i64 1, .int .i64 0, .int .i64 6, .string ⟨#[97, 98]⟩, .string ⟨#[]⟩, .string ⟨#[99, 97, 115]⟩, .int .i64 1, .int .i64 1, .int .i64 1, .int .i64 6, .string ⟨#[97, 98, 99]⟩, .string ⟨#[97]⟩, .string ⟨#[106, 117, 109, 112]⟩, .int .i64 0, .int .i64 0, .int .i64 0, .int .i64 4, .string ⟨#[]⟩, .string ⟨#[]⟩, .string ⟨#[122, 101, 114, 111]⟩, .int .i64 1, .int .i64 0, .int .i64 0, .int .i64 4, .string ⟨#[97]⟩, .string ⟨#[]⟩, .string ⟨#[98, 97, 99, 107]⟩, .int .i64 0, .int .i64 0, .int .i64 3, .int .i64 4, .string ⟨#[]⟩, .string ⟨#[]⟩, .string ⟨#[114, 101, 97, 100]⟩, .int .i64 1, .int .i64 2, .int .i64 0, .int .i64 5, .string ⟨#[]⟩, .string ⟨#[97]⟩, .string ⟨#[119, 114, 105, 116, 101]⟩, .int .i64 1, .int .i64 2, .int .i64 0, .int .i64 5, .string ⟨#[]⟩, .string ⟨#[97]⟩, .string ⟨#[112, 117, 116]⟩, .int .i64 1, .int .i64 2, .int .i64 0, .int .i64 5, .string ⟨#[]⟩, .string ⟨#[97]⟩, .string ⟨#[116, 97, 107, 101]⟩, .int .i64 1, .int .i64 2, .int .i64 0, .int .i64 5, .string ⟨#[]⟩, .string ⟨#[97]⟩, .string ⟨#[100, 111, 110, 101]⟩, .int .i64 0, .int .i64 0, .int .i64 0, .int .i64 0, .string ⟨#[]⟩, .string ⟨#[]⟩]

theorem belowRow {B : Nat} {a w : World} (h : Below B a w) {g : Nat} (hg : B ≤ g) (cs : Array Value) : Below B a (w.setRow g cs) :=
  h.trans ⟨rfl, rfl, rfl, by simp [World.setRow], fun k hk => setRow_other w g k _ (by omega)⟩
theorem three_any (s : ByteArray) (w : World) : Calls Try.prog 133 #[.string s] w fun e w' => e = .returned (.agg #[.string s, .int .i64 1, .int .i64 1, .int .i64 1, .int .i64 0, .string ⟨#[98, 99]⟩, .string ⟨#[97]⟩]) ∧ w.alloc (.cells #[.string s, .int .i64 1, .int .i64 1, .int .i64 1, .int .i64 0, .string ⟨#[98, 99]⟩, .string ⟨#[97]⟩] 164) = w' := by
  go_enter Try.func133, Try.ntmps133
  go_wp2
  exact bodyPost_ret (v := .agg #[.string s, .int .i64 1, .int .i64 1, .int .i64 1, .int .i64 0, .string ⟨#[98, 99]⟩, .string ⟨#[97]⟩]) (by simp [results, Try.results133, go_sem]) rfl ⟨rfl, rfl⟩
theorem call_any (s : ByteArray) (w : World) : Calls Try.prog 134 #[.string s] w fun e w' => e = .returned (.agg #[.string s, .int .i64 1, .int .i64 2, .int .i64 0, .int .i64 5, .string ⟨#[]⟩, .string ⟨#[97]⟩]) ∧ w.alloc (.cells #[.string s, .int .i64 1, .int .i64 2, .int .i64 0, .int .i64 5, .string ⟨#[]⟩, .string ⟨#[97]⟩] 164) = w' := by
  go_enter Try.func134, Try.ntmps134
  go_wp2
  exact bodyPost_ret (v := .agg #[.string s, .int .i64 1, .int .i64 2, .int .i64 0, .int .i64 5, .string ⟨#[]⟩, .string ⟨#[97]⟩]) (by simp [results, Try.results134, go_sem]) rfl ⟨rfl, rfl⟩
set_option maxRecDepth 100000 in
set_option maxHeartbeats 2000000 in
theorem shapes_any (w : World) : Calls Try.prog 123 #[] w fun e w' => e = .returned (.agg shapesV) ∧ Below w.heap.size w w' := by
  go_enter Try.func123, Try.ntmps123
  go_wp2_with (first
    | (go_at_call 133; refine (three_any _ _).mono ?_; rintro e w' ⟨rfl, rfl⟩)
    | (go_at_call 134; refine (call_any _ _).mono ?_; rintro e w' ⟨rfl, rfl⟩))
  rw [run_storeCells_at Try.prog w.heap.size 0 165 _ 0 Try.zeroCells165 _ ?h1 ?h2 ?h3]
  case h1 =>
    have hB : ∀ W, Below (w.heap.size + 1) (w.alloc (.cells Try.zeroCells165 165)) W → W.heap[w.heap.size]? = some (.cells Try.zeroCells165 165 (0, 0)) := fun W h => (h.block w.heap.size (by omega)).trans (heap_alloc_new w _)
    refine hB _ ?_
    repeat (first | exact Below.refl _ _ | refine Below.alloc ?_ (by simp only [World.size_alloc]; omega) _)
  case h2 => exact of_decide_eq_true (by kernel_rfl)
  case h3 => decide
  simp only [Result.andThen_ok]
  go_wp2_with fail
  have hB : ∀ W, Below (w.heap.size + 1) (w.alloc (.cells Try.zeroCells165 165)) W → W.heap[w.heap.size]? = some (.cells Try.zeroCells165 165 (0, 0)) := fun W h => (h.block w.heap.size (by omega)).trans (heap_alloc_new w _)
  refine bodyPost_ret (v := .agg shapesV) (results_cell_row rfl _ _ w.heap.size 165 shapesV (0, 0) _ rfl ?_ Try.underlying165 rfl (by kernel_rfl)) rfl ⟨rfl, ?_⟩
  · refine setRow_heap _ _ Try.zeroCells165 _ _ _ (hB _ ?_)
    repeat (first | exact Below.refl _ _ | refine Below.alloc ?_ (by simp only [World.size_alloc]; omega) _)
  · refine belowRow ?_ (by omega) _
    repeat (first | exact Below.refl _ _ | refine Below.alloc ?_ (by first | omega | (simp only [World.size_alloc]; omega)) _)
end Go.Proofs.Ytffciebjpiljgaa
namespace Go.Proofs.Ytffciebjpiljgaa
set_option linter.unusedSimpArgs false
set_option linter.unusedVariables false
set_option maxRecDepth 100000
open Go.RowKit

/-- An alloc, and a store past the start. -/
theorem belowAl {a w : World} (h : Below a.heap.size a w) (o : Obj) : Below a.heap.size a (w.alloc o) := h.alloc h.size o
theorem belowStore {a w : World} {b : Nat} (h : Below a.heap.size a w) (hb : a.heap.size ≤ b) (o : Nat) (vs : List Value) : Below a.heap.size a (w.setCells b o vs) := by
  induction vs generalizing o w with
  | nil => exact h
  | cons v vs ih => exact ih (h.setCell hb v) (o + 1)
theorem new76 {w1 w' : World} (hb : Below (w1.alloc (.cells #[.string ⟨#[]⟩, .int .i64 0, .int .i64 0, .int .i64 0, .int .i64 0, .string ⟨#[]⟩, .string ⟨#[]⟩] 164)).drew.heap.size (w1.alloc (.cells #[.string ⟨#[]⟩, .int .i64 0, .int .i64 0, .int .i64 0, .int .i64 0, .string ⟨#[]⟩, .string ⟨#[]⟩] 164)).drew w') :
    w'.cell? ⟨w1.heap.size, 0, none⟩ = some (.string ⟨#[]⟩) ∧ w'.cell? ⟨w1.heap.size, 1, none⟩ = some (.int .i64 0) ∧ w'.cell? ⟨w1.heap.size, 2, none⟩ = some (.int .i64 0) ∧ w'.cell? ⟨w1.heap.size, 3, none⟩ = some (.int .i64 0) ∧ w'.cell? ⟨w1.heap.size, 4, none⟩ = some (.int .i64 0) ∧ w'.cell? ⟨w1.heap.size, 5, none⟩ = some (.string ⟨#[]⟩) ∧ w'.cell? ⟨w1.heap.size, 6, none⟩ = some (.string ⟨#[]⟩) ∧ w'.frozen? ⟨w1.heap.size, 0, none⟩ = false ∧ w'.frozen? ⟨w1.heap.size, 1, none⟩ = false ∧ w'.frozen? ⟨w1.heap.size, 2, none⟩ = false ∧ w'.frozen? ⟨w1.heap.size, 3, none⟩ = false ∧ w'.frozen? ⟨w1.heap.size, 4, none⟩ = false ∧ w'.frozen? ⟨w1.heap.size, 5, none⟩ = false ∧ w'.frozen? ⟨w1.heap.size, 6, none⟩ = false :=
  ⟨Ext.below hb _ _ ((World.cell?_drew _ _).trans ((World.cell?_alloc_at _ _ _ _ rfl).trans rfl)), Ext.below hb _ _ ((World.cell?_drew _ _).trans ((World.cell?_alloc_at _ _ _ _ rfl).trans rfl)), Ext.below hb _ _ ((World.cell?_drew _ _).trans ((World.cell?_alloc_at _ _ _ _ rfl).trans rfl)), Ext.below hb _ _ ((World.cell?_drew _ _).trans ((World.cell?_alloc_at _ _ _ _ rfl).trans rfl)), Ext.below hb _ _ ((World.cell?_drew _ _).trans ((World.cell?_alloc_at _ _ _ _ rfl).trans rfl)), Ext.below hb _ _ ((World.cell?_drew _ _).trans ((World.cell?_alloc_at _ _ _ _ rfl).trans rfl)), Ext.below hb _ _ ((World.cell?_drew _ _).trans ((World.cell?_alloc_at _ _ _ _ rfl).trans rfl)), (Below.frozen hb (by simp)).trans ((World.frozen?_drew _ _).trans (World.frozen?_alloc_at _ _ _ _ rfl)), (Below.frozen hb (by simp)).trans ((World.frozen?_drew _ _).trans (World.frozen?_alloc_at _ _ _ _ rfl)), (Below.frozen hb (by simp)).trans ((World.frozen?_drew _ _).trans (World.frozen?_alloc_at _ _ _ _ rfl)), (Below.frozen hb (by simp)).trans ((World.frozen?_drew _ _).trans (World.frozen?_alloc_at _ _ _ _ rfl)), (Below.frozen hb (by simp)).trans ((World.frozen?_drew _ _).trans (World.frozen?_alloc_at _ _ _ _ rfl)), (Below.frozen hb (by simp)).trans ((World.frozen?_drew _ _).trans (World.frozen?_alloc_at _ _ _ _ rfl)), (Below.frozen hb (by simp)).trans ((World.frozen?_drew _ _).trans (World.frozen?_alloc_at _ _ _ _ rfl))⟩
abbrev instrV (x : Instr) : Value := .agg #[.int .i64 x.op, .int .i64 x.a, .int .i64 x.b, .int .i64 x.c, .int .u32 x.n]
theorem shape_at (k : Nat) (hk : k < 22) : ∃ s1 s2 s3 : ByteArray, ∀ w : World, (Instr.index 165 (.agg shapesV) (.int .i64 (k : Int))).run Try.prog w = .ok (.agg #[.string s1, .int .i64 (kindsN k).1, .int .i64 (kindsN k).2.1, .int .i64 (kindsN k).2.2.1, .int .i64 (kindsN k).2.2.2, .string s2, .string s3]) w := by
  match k, hk with
  | 0, _ => exact ⟨⟨#[110, 111, 112]⟩, ⟨#[]⟩, ⟨#[]⟩, fun w => by kernel_rfl⟩
  | 1, _ => exact ⟨⟨#[115, 101, 116]⟩, ⟨#[]⟩, ⟨#[97]⟩, fun w => by kernel_rfl⟩
  | 2, _ => exact ⟨⟨#[109, 111, 118, 101]⟩, ⟨#[98]⟩, ⟨#[97]⟩, fun w => by kernel_rfl⟩
  | 3, _ => exact ⟨⟨#[97, 100, 100]⟩, ⟨#[98, 99]⟩, ⟨#[97]⟩, fun w => by kernel_rfl⟩
  | 4, _ => exact ⟨⟨#[115, 117, 98]⟩, ⟨#[98, 99]⟩, ⟨#[97]⟩, fun w => by kernel_rfl⟩
  | 5, _ => exact ⟨⟨#[109, 117, 108]⟩, ⟨#[98, 99]⟩, ⟨#[97]⟩, fun w => by kernel_rfl⟩
  | 6, _ => exact ⟨⟨#[97, 110, 100]⟩, ⟨#[98, 99]⟩, ⟨#[97]⟩, fun w => by kernel_rfl⟩
  | 7, _ => exact ⟨⟨#[111, 114]⟩, ⟨#[98, 99]⟩, ⟨#[97]⟩, fun w => by kernel_rfl⟩
  | 8, _ => exact ⟨⟨#[120, 111, 114]⟩, ⟨#[98, 99]⟩, ⟨#[97]⟩, fun w => by kernel_rfl⟩
  | 9, _ => exact ⟨⟨#[108, 101, 115, 115]⟩, ⟨#[98, 99]⟩, ⟨#[97]⟩, fun w => by kernel_rfl⟩
  | 10, _ => exact ⟨⟨#[101, 113, 117, 97, 108]⟩, ⟨#[98, 99]⟩, ⟨#[97]⟩, fun w => by kernel_rfl⟩
  | 11, _ => exact ⟨⟨#[108, 111, 97, 100]⟩, ⟨#[98]⟩, ⟨#[97]⟩, fun w => by kernel_rfl⟩
  | 12, _ => exact ⟨⟨#[115, 116, 111, 114, 101]⟩, ⟨#[97, 98]⟩, ⟨#[]⟩, fun w => by kernel_rfl⟩
  | 13, _ => exact ⟨⟨#[99, 97, 115]⟩, ⟨#[97, 98, 99]⟩, ⟨#[97]⟩, fun w => by kernel_rfl⟩
  | 14, _ => exact ⟨⟨#[106, 117, 109, 112]⟩, ⟨#[]⟩, ⟨#[]⟩, fun w => by kernel_rfl⟩
  | 15, _ => exact ⟨⟨#[122, 101, 114, 111]⟩, ⟨#[97]⟩, ⟨#[]⟩, fun w => by kernel_rfl⟩
  | 16, _ => exact ⟨⟨#[98, 97, 99, 107]⟩, ⟨#[]⟩, ⟨#[]⟩, fun w => by kernel_rfl⟩
  | 17, _ => exact ⟨⟨#[114, 101, 97, 100]⟩, ⟨#[]⟩, ⟨#[97]⟩, fun w => by kernel_rfl⟩
  | 18, _ => exact ⟨⟨#[119, 114, 105, 116, 101]⟩, ⟨#[]⟩, ⟨#[97]⟩, fun w => by kernel_rfl⟩
  | 19, _ => exact ⟨⟨#[112, 117, 116]⟩, ⟨#[]⟩, ⟨#[97]⟩, fun w => by kernel_rfl⟩
  | 20, _ => exact ⟨⟨#[116, 97, 107, 101]⟩, ⟨#[]⟩, ⟨#[97]⟩, fun w => by kernel_rfl⟩
  | 21, _ => exact ⟨⟨#[100, 111, 110, 101]⟩, ⟨#[]⟩, ⟨#[]⟩, fun w => by kernel_rfl⟩
  | n + 22, h => exact absurd h (by omega)
theorem shape_ix (op : Int) (h : 0 ≤ op ∧ op < 22) : ∃ s1 s2 s3 : ByteArray, ∀ w : World, (Instr.index 165 (.agg shapesV) (.int .i64 op)).run Try.prog w = .ok (.agg #[.string s1, .int .i64 (kindsOf op).1, .int .i64 (kindsOf op).2.1, .int .i64 (kindsOf op).2.2.1, .int .i64 (kindsOf op).2.2.2, .string s2, .string s3]) w := by
  obtain ⟨k, rfl⟩ := Int.eq_ofNat_of_zero_le h.1
  exact shape_at k (by omega)


theorem known_any (op : Int) (B : Bool) (w : World) (hB : decide (0 ≤ op ∧ op < 22) = B) : Calls Try.prog 122 #[.int .i64 op] w fun e w' => e = .returned (.bool B) ∧ w = w' := by
  subst hB
  by_cases h1 : 0 ≤ op
  · by_cases h2 : op < 22
    all_goals
      go_enter Try.func122, Try.ntmps122
      go_wp2
      go_ret
      exact ⟨rbool (by simp [h1, h2]), rfl⟩
  · go_enter Try.func122, Try.ntmps122
    go_wp2
    go_ret
    exact ⟨rbool (by simp [h1]; try omega), rfl⟩
set_option maxHeartbeats 1000000 in
theorem fits_any (k n : Int) (w : World) : Calls Try.prog 124 #[.int .i64 k, .int .i64 n] w fun e w' => e = .returned (.bool (fitsB k n)) ∧ w = w' := by
  go_enter Try.func124, Try.ntmps124
  go_wp2
  all_goals
    go_ret
    exact ⟨rbool (by simp_all [fitsB]; try omega), rfl⟩
/-- The same, in the order of the program. -/
theorem rightI_no {x : Instr} (h : ¬ (0 ≤ x.op ∧ x.op < 22)) : rightI x = false := by simp [rightI]; intro h1 h2; exact absurd ⟨h1, h2⟩ h
theorem rightI_yes {x : Instr} (h : 0 ≤ x.op ∧ x.op < 22) : rightI x = (fitsB (kindsOf x.op).1 x.a && (fitsB (kindsOf x.op).2.1 x.b && (fitsB (kindsOf x.op).2.2.1 x.c && fitsB (kindsOf x.op).2.2.2 x.n))) := by simp [rightI, h.1, h.2]
set_option maxHeartbeats 4000000 in
theorem right_any (x : Instr) (w : World) (hx : x.ok) : Calls Try.prog 103 #[instrV x] w fun e w' => e = .returned (.bool (rightI x)) ∧ Below w.heap.size w w' := by
  by_cases h : 0 ≤ x.op ∧ x.op < 22
  · rw [rightI_yes h]
    obtain ⟨s1, s2, s3, hix⟩ := shape_ix x.op h
    have hn := Go.bounds_u32 hx.2.2.2.2
    obtain ⟨hn1, hn2⟩ := hn
    generalize (kindsOf x.op).1 = k1 at *
    generalize (kindsOf x.op).2.1 = k2 at *
    generalize (kindsOf x.op).2.2.1 = k3 at *
    generalize (kindsOf x.op).2.2.2 = k4 at *
    go_enter Try.func103, Try.ntmps103
    go_wp2_with (go_at_call 122; refine (known_any _ true _ (by simpa using h)).mono ?_; rintro e w' ⟨rfl, rfl⟩)
    obtain ⟨w1, hw1⟩ : ∃ z, z = w.alloc (.cells #[.int .i64 x.op, .int .i64 x.a, .int .i64 x.b, .int .i64 x.c, .int .u32 x.n] 49) := ⟨_, rfl⟩
    have f1_0 : w1.cell? ⟨w.heap.size, 0, none⟩ = some (.int .i64 x.op) := by rw [hw1, World.cell?_alloc_at _ _ _ _ rfl]; rfl
    have f1_1 : w1.cell? ⟨w.heap.size, 1, none⟩ = some (.int .i64 x.a) := by rw [hw1, World.cell?_alloc_at _ _ _ _ rfl]; rfl
    have f1_2 : w1.cell? ⟨w.heap.size, 2, none⟩ = some (.int .i64 x.b) := by rw [hw1, World.cell?_alloc_at _ _ _ _ rfl]; rfl
    have f1_3 : w1.cell? ⟨w.heap.size, 3, none⟩ = some (.int .i64 x.c) := by rw [hw1, World.cell?_alloc_at _ _ _ _ rfl]; rfl
    have f1_4 : w1.cell? ⟨w.heap.size, 4, none⟩ = some (.int .u32 x.n) := by rw [hw1, World.cell?_alloc_at _ _ _ _ rfl]; rfl
    rw [← hw1]
    have hne : ∀ (W : World) (v : Value) (i j : Nat), i ≠ j → (W.setCell ⟨w1.heap.size, i, none⟩ v).cell? ⟨w1.heap.size, j, none⟩ = W.cell? ⟨w1.heap.size, j, none⟩ := fun W v i j h => World.cell?_setCell_other _ _ _ _ (by simp [h])
    have HB01 := hide (show Below w.heap.size w w1 by rw [hw1]; exact (Below.refl _ _).alloc (Nat.le_refl _) _)
    have MK1 := hide (show ∀ W, Below w1.heap.size w1 W → (W.cell? ⟨w.heap.size, 0, none⟩ = some (.int .i64 x.op) ∧ W.cell? ⟨w.heap.size, 1, none⟩ = some (.int .i64 x.a) ∧ W.cell? ⟨w.heap.size, 2, none⟩ = some (.int .i64 x.b) ∧ W.cell? ⟨w.heap.size, 3, none⟩ = some (.int .i64 x.c) ∧ W.cell? ⟨w.heap.size, 4, none⟩ = some (.int .u32 x.n) ∧ Below w1.heap.size w1 W) from fun W hb => ⟨Ext.below hb _ _ f1_0, Ext.below hb _ _ f1_1, Ext.below hb _ _ f1_2, Ext.below hb _ _ f1_3, Ext.below hb _ _ f1_4, hb⟩)
    have PR1 := hide (show ∀ W, (W.cell? ⟨w.heap.size, 0, none⟩ = some (.int .i64 x.op) ∧ W.cell? ⟨w.heap.size, 1, none⟩ = some (.int .i64 x.a) ∧ W.cell? ⟨w.heap.size, 2, none⟩ = some (.int .i64 x.b) ∧ W.cell? ⟨w.heap.size, 3, none⟩ = some (.int .i64 x.c) ∧ W.cell? ⟨w.heap.size, 4, none⟩ = some (.int .u32 x.n) ∧ Below w1.heap.size w1 W) → Below w1.heap.size w1 W from fun W h => h.2.2.2.2.2)
    have hb01 : Below w1.heap.size w1 w1 := Below.refl _ _
    clear hw1 f1_0 f1_1 f1_2 f1_3 f1_4
    go_region_held3 (fun W => W.cell? ⟨w.heap.size, 0, none⟩ = some (.int .i64 x.op) ∧ W.cell? ⟨w.heap.size, 1, none⟩ = some (.int .i64 x.a) ∧ W.cell? ⟨w.heap.size, 2, none⟩ = some (.int .i64 x.b) ∧ W.cell? ⟨w.heap.size, 3, none⟩ = some (.int .i64 x.c) ∧ W.cell? ⟨w.heap.size, 4, none⟩ = some (.int .u32 x.n) ∧ Below w1.heap.size w1 W) (first | exact MK1.out _ (by with_reducible assumption) | exact MK1.out _ (by with_reducible exact Below.drew (by assumption)) | exact MK1.out _ (by with_reducible (repeat (first | assumption | apply Below.drew | apply belowAl | (refine Below.setCell ?_ (by first | exact Nat.le_refl _ | exact Below.size (by assumption)) _)))))
      (first
        | (go_at_call 123; with_reducible (refine Calls.mono (shapes_any _) ?_); rintro e w' ⟨rfl, hb⟩; have hB : Below w1.heap.size w1 w' := Below.trans (PR1.out _ (by assumption)) (hb.mono (Below.size (PR1.out _ (by assumption)))); try have hg := new76 hb))
    go_goals
    go_wp2_with (first
      | (go_at_call 124; refine (fits_any _ _ _).mono ?_; rintro e w' ⟨rfl, rfl⟩))
    all_goals
      go_ret
      refine ⟨by simp_all, ?_⟩
      have hT : ∀ W, Below w1.heap.size w1 W → Below w.heap.size w W := fun W h => Below.trans HB01.out (h.mono HB01.out.size)
      refine hT _ ?_
      with_reducible (repeat (first | assumption | apply Below.drew | apply belowAl | (refine Below.setCell ?_ (by first | exact Nat.le_refl _ | exact Below.size (by assumption)) _)))
  · rw [rightI_no h]
    go_enter Try.func103, Try.ntmps103
    go_wp2_with (go_at_call 122; refine (known_any _ false _ (by simpa using h)).mono ?_; rintro e w' ⟨rfl, rfl⟩)
    go_ret
    exact ⟨rfl, (Below.refl _ _).alloc (Nat.le_refl _) _⟩
end Go.Proofs.Ytffciebjpiljgaa
