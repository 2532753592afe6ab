/- The package isa: which instructions are right, and where they may lead; and the reference; no condition. -/
import Derived.Test.YtnijdaidmpjccaaTyInstr
import Derived.Test.YtnijdaidmpjccaaOwn
import Derived.Deep.RegionHeld3
namespace Go.Proofs.Ytnijdaidmpjccaa
set_option linter.unusedSimpArgs false
set_option linter.unusedVariables false
set_option maxRecDepth 100000
open Go.RowKit

def kindsN (op : Nat) : Int × Int × Int × Int := match op with
  | 0 => (0, 0, 0, 0)
  | 1 => (1, 0, 0, 6)
  | 2 => (1, 1, 0, 0)
  | 3 => (1, 1, 1, 0)
  | 4 => (1, 1, 1, 0)
  | 5 => (1, 1, 1, 0)
  | 6 => (1, 1, 1, 0)
  | 7 => (1, 1, 1, 0)
  | 8 => (1, 1, 1, 0)
  | 9 => (1, 1, 1, 0)
  | 10 => (1, 1, 1, 0)
  | 11 => (1, 1, 0, 6)
  | 12 => (1, 1, 0, 6)
  | 13 => (1, 1, 1, 6)
  | 14 => (0, 0, 0, 4)
  | 15 => (1, 0, 0, 4)
  | 16 => (0, 0, 3, 4)
  | 17 => (1, 2, 0, 5)
  | 18 => (1, 2, 0, 5)
  | 19 => (1, 2, 0, 5)
  | 20 => (1, 2, 0, 5)
  | 21 => (0, 0, 0, 0)
  | _ => (0, 0, 0, 0)
/-- What the operands of a kind may be. -/
def kindsOf (op : Int) : Int × Int × Int × Int := kindsN op.toNat
def fitsB (k n : Int) : Bool := if k = 0 then n == 0 else if k = 1 then decide (0 ≤ n ∧ n < 8) else if k = 2 then decide (0 ≤ n ∧ n < 8) else if k = 3 then decide (1 ≤ n ∧ n ≤ 255) else if k = 4 then decide (n < 64) else if k = 5 then decide (n < 64) else true
/-- May an instruction be? -/
def rightI (x : Instr) : Bool := decide (0 ≤ x.op ∧ x.op < 22) && (fitsB (kindsOf x.op).1 x.a && (fitsB (kindsOf x.op).2.1 x.b && (fitsB (kindsOf x.op).2.2.1 x.c && fitsB (kindsOf x.op).2.2.2 x.n)))
/-- Does a right instruction lead elsewhere? -/
def leadsI (x : Instr) : Bool := rightI x && decide (14 ≤ x.op ∧ x.op ≤ 16)
def shapesV : Array Value := #[.string ⟨#[110, 111, 112]⟩, .int .i64 0, .int .i64 0, .int .i64 0, .int .i64 0, .string ⟨#[]⟩, .string ⟨#[]⟩, .string ⟨#[115, 101, 116]⟩, .int .i64 1, .int .i64 0, .int .i64 0, .int .i64 6, .string ⟨#[]⟩, .string ⟨#[97]⟩, .string ⟨#[109, 111, 118, 101]⟩, .int .i64 1, .int .i64 1, .int .i64 0, .int .i64 0, .string ⟨#[98]⟩, .string ⟨#[97]⟩, .string ⟨#[97, 100, 100]⟩, .int .i64 1, .int .i64 1, .int .i64 1, .int .i64 0, .string ⟨#[98, 99]⟩, .string ⟨#[97]⟩, .string ⟨#[115, 117, 98]⟩, .int .i64 1, .int .i64 1, .int .i64 1, .int .i64 0, .string ⟨#[98, 99]⟩, .string ⟨#[97]⟩, .string ⟨#[109, 117, 108]⟩, .int .i64 1, .int .i64 1, .int .i64 1, .int .i64 0, .string ⟨#[98, 99]⟩, .string ⟨#[97]⟩, .string ⟨#[97, 110, 100]⟩, .int .i64 1, .int .i64 1, .int .i64 1, .int .i64 0, .string ⟨#[98, 99]⟩, .string ⟨#[97]⟩, .string ⟨#[111, 114]⟩, .int .i64 1, .int .i64 1, .int .i64 1, .int .i64 0, .string ⟨#[98, 99]⟩, .string ⟨#[97]⟩, .string ⟨#[120, 111, 114]⟩, .int .i64 1, .int .i64 1, .int .i64 1, .int .i64 0, .string ⟨#[98, 99]⟩, .string ⟨#[97]⟩, .string ⟨#[108, 101, 115, 115]⟩, .int .i64 1, .int .i64 1, .int .i64 1, .int .i64 0, .string ⟨#[98, 99]⟩, .string ⟨#[97]⟩, .string ⟨#[101, 113, 117, 97, 108]⟩, .int .i64 1, .int .i64 1, .int .i64 1, .int .i64 0, .string ⟨#[98, 99]⟩, .string ⟨#[97]⟩, .string ⟨#[108, 111, 97, 100]⟩, .int .i64 1, .int .i64 1, .int .i64 0, .int .i64 6, .string ⟨#[98]⟩, .string ⟨#[97]⟩, .string ⟨#[115, 116, 111, 114, 101]⟩, .int .i64 1, .int .i64 1, .int .i64 0, .int .i64 6, .string ⟨#[97, 98]⟩, .string ⟨#[]⟩, .string ⟨#[99, 97, 115]⟩, .int .i64 1, .int .i64 1, .int .i64 1, .int .i64 6, .string ⟨#[97, 98, 99]⟩, .string ⟨#[97]⟩, .string ⟨#[106, 117, 109, 112]⟩, .int .i64 0, .int .i64 0, .int .i64 0, .int .i64 4, .string ⟨#[]⟩, .string ⟨#[]⟩, .string ⟨#[122, 101, 114, 111]⟩, .int .i64 1, .int .i64 0, .int .i64 0, .int .i64 4, .string ⟨#[97]⟩, .string ⟨#[]⟩, .string ⟨#[98, 97, 99, 107]⟩, .int .i64 0, .int .i64 0, .int .i64 3, .int .i64 4, .string ⟨#[]⟩, .string ⟨#[]⟩, .string ⟨#[114, 101, 97, 100]⟩, .int .i64 1, .int .i64 2, .int .i64 0, .int .i64 5, .string ⟨#[]⟩, .string ⟨#[97]⟩, .string ⟨#[119, 114, 105, 116, 101]⟩, .int .i64 1, .int .i64 2, .int .i64 0, .int .i64 5, .string ⟨#[]⟩, .string ⟨#[97]⟩, .string ⟨#[112, 117, 116]⟩, .int .i64 1, .int .i64 2, .int .i64 0, .int .i64 5, .string ⟨#[]⟩, .string ⟨#[97]⟩, .string ⟨#[116, 97, 107, 101]⟩, .int .i64 1, .int .i64 2, .int .i64 0, .int .i64 5, .string ⟨#[]⟩, .string ⟨#[97]⟩, .string ⟨#[100, 111, 110, 101]⟩, .int .i64 0, .int .i64 0, .int .i64 0, .int .i64 0, .string ⟨#[]⟩, .string ⟨#[]⟩]

theorem belowRow {B : Nat} {a w : World} (h : Below B a w) {g : Nat} (hg : B ≤ g) (cs : Array Value) : Below B a (w.setRow g cs) :=
  h.trans ⟨rfl, rfl, rfl, by simp [World.setRow], fun k hk => setRow_other w g k _ (by omega)⟩
theorem three_any (s : ByteArray) (w : World) : Calls Try.prog 87 #[.string s] w fun e w' => e = .returned (.agg #[.string s, .int .i64 1, .int .i64 1, .int .i64 1, .int .i64 0, .string ⟨#[98, 99]⟩, .string ⟨#[97]⟩]) ∧ w.alloc (.cells #[.string s, .int .i64 1, .int .i64 1, .int .i64 1, .int .i64 0, .string ⟨#[98, 99]⟩, .string ⟨#[97]⟩] 76) = w' := by
  go_enter Try.func87, Try.ntmps87
  go_wp2
  exact bodyPost_ret (v := .agg #[.string s, .int .i64 1, .int .i64 1, .int .i64 1, .int .i64 0, .string ⟨#[98, 99]⟩, .string ⟨#[97]⟩]) (by simp [results, Try.results87, go_sem]) rfl ⟨rfl, rfl⟩
theorem call_any (s : ByteArray) (w : World) : Calls Try.prog 88 #[.string s] w fun e w' => e = .returned (.agg #[.string s, .int .i64 1, .int .i64 2, .int .i64 0, .int .i64 5, .string ⟨#[]⟩, .string ⟨#[97]⟩]) ∧ w.alloc (.cells #[.string s, .int .i64 1, .int .i64 2, .int .i64 0, .int .i64 5, .string ⟨#[]⟩, .string ⟨#[97]⟩] 76) = w' := by
  go_enter Try.func88, Try.ntmps88
  go_wp2
  exact bodyPost_ret (v := .agg #[.string s, .int .i64 1, .int .i64 2, .int .i64 0, .int .i64 5, .string ⟨#[]⟩, .string ⟨#[97]⟩]) (by simp [results, Try.results88, go_sem]) rfl ⟨rfl, rfl⟩
set_option maxRecDepth 100000 in
set_option maxHeartbeats 2000000 in
theorem shapes_any (w : World) : Calls Try.prog 73 #[] w fun e w' => e = .returned (.agg shapesV) ∧ Below w.heap.size w w' := by
  go_enter Try.func73, Try.ntmps73
  go_wp2_with (first
    | (go_at_call 87; refine (three_any _ _).mono ?_; rintro e w' ⟨rfl, rfl⟩)
    | (go_at_call 88; refine (call_any _ _).mono ?_; rintro e w' ⟨rfl, rfl⟩))
  rw [run_storeCells_at Try.prog w.heap.size 0 77 _ 0 Try.zeroCells77 _ ?h1 ?h2 ?h3]
  case h1 =>
    have hB : ∀ W, Below (w.heap.size + 1) (w.alloc (.cells Try.zeroCells77 77)) W → W.heap[w.heap.size]? = some (.cells Try.zeroCells77 77 (0, 0)) := fun W h => (h.block w.heap.size (by omega)).trans (heap_alloc_new w _)
    refine hB _ ?_
    repeat (first | exact Below.refl _ _ | refine Below.alloc ?_ (by simp only [World.size_alloc]; omega) _)
  case h2 => exact of_decide_eq_true (by kernel_rfl)
  case h3 => decide
  simp only [Result.andThen_ok]
  go_wp2_with fail
  have hB : ∀ W, Below (w.heap.size + 1) (w.alloc (.cells Try.zeroCells77 77)) W → W.heap[w.heap.size]? = some (.cells Try.zeroCells77 77 (0, 0)) := fun W h => (h.block w.heap.size (by omega)).trans (heap_alloc_new w _)
  refine bodyPost_ret (v := .agg shapesV) (results_cell_row rfl _ _ w.heap.size 77 shapesV (0, 0) _ rfl ?_ Try.underlying77 rfl (by kernel_rfl)) rfl ⟨rfl, ?_⟩
  · refine setRow_heap _ _ Try.zeroCells77 _ _ _ (hB _ ?_)
    repeat (first | exact Below.refl _ _ | refine Below.alloc ?_ (by simp only [World.size_alloc]; omega) _)
  · refine belowRow ?_ (by omega) _
    repeat (first | exact Below.refl _ _ | refine Below.alloc ?_ (by first | omega | (simp only [World.size_alloc]; omega)) _)
end Go.Proofs.Ytnijdaidmpjccaa
