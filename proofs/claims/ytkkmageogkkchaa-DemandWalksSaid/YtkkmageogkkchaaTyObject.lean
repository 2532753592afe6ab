/- The struct Object: its cells, and how they are read; no condition. -/
import Derived.Test.YtkkmageogkkchaaRep
import Derived.WalkKit
namespace Go.Proofs.Ytkkmageogkkchaa
set_option linter.unusedSimpArgs false
set_option linter.unusedVariables false
set_option maxRecDepth 100000
open Go.RowKit Go.ChangeShapes Go.WideShapes

structure Object where
  kind : Int
  width : Int
  slots : Int
  cap : Int
  start : Int
  init : List Int
  writer : Int
  readers : List Int
instance : Inhabited Object := ⟨⟨0, 0, 0, 0, 0, [], 0, []⟩⟩
theorem Object.ext_ {x y : Object} (h : x.kind = y.kind ∧ x.width = y.width ∧ x.slots = y.slots ∧ x.cap = y.cap ∧ x.start = y.start ∧ x.init = y.init ∧ x.writer = y.writer ∧ x.readers = y.readers) : x = y := by cases x; cases y; simp_all
instance : DecidableEq Object := fun x y => decidable_of_iff (x.kind = y.kind ∧ x.width = y.width ∧ x.slots = y.slots ∧ x.cap = y.cap ∧ x.start = y.start ∧ x.init = y.init ∧ x.writer = y.writer ∧ x.readers = y.readers) ⟨Object.ext_, fun h => by subst h; simp⟩
def Object.ok (x : Object) : Prop := (Lit.int .i64 x.kind).wf = true ∧ (Lit.int .i64 x.width).wf = true ∧ (Lit.int .i64 x.slots).wf = true ∧ (Lit.int .i64 x.cap).wf = true ∧ (Lit.int .u32 x.start).wf = true ∧ (Lit.int .i64 x.writer).wf = true
def Object.cod : Cod Object := fun w cs x => ∃ (A_init : Option Addr) (c_init : Nat) (A_readers : Option Addr) (c_readers : Nat), cs = [.int .i64 x.kind, .int .i64 x.width, .int .i64 x.slots, .int .i64 x.cap, .int .u32 x.start, .slice A_init x.init.length c_init, .int .i64 x.writer, .slice A_readers x.readers.length c_readers] ∧ x.ok ∧ x.init.length ≤ c_init ∧ c_init ≤ maxLen ∧ Row (cInt .u32) 1 w A_init x.init ∧ x.readers.length ≤ c_readers ∧ c_readers ≤ maxLen ∧ Row (cInt .i64) 1 w A_readers x.readers
theorem Object.mono : Mono Object.cod := fun _ _ _ _ he ⟨A_init, c_init, A_readers, c_readers, h, hk, l_init, m_init, r_init, l_readers, m_readers, r_readers⟩ => ⟨A_init, c_init, A_readers, c_readers, h, hk, l_init, m_init, r_init.ext (Mono.int _) he, l_readers, m_readers, r_readers.ext (Mono.int _) he⟩
theorem Object.size {w : World} {cs : List Value} {x : Object} (h : Object.cod w cs x) : cs.length = 8 := by obtain ⟨A_init, c_init, A_readers, c_readers, h, _⟩ := h; rw [h]; rfl
/-- The cells of an element. -/
theorem Object.at {w : World} {b off : Nat} {xs : List Object} (h : Row' Object.cod 8 w b off xs) (i : Nat) (hi : i < xs.length) :
    ∃ (A_init : Option Addr) (c_init : Nat) (A_readers : Option Addr) (c_readers : Nat), w.cell? ⟨b, off + i * 8, none⟩ = some (.int .i64 xs[i].kind) ∧ w.cell? ⟨b, off + i * 8 + 1, none⟩ = some (.int .i64 xs[i].width) ∧ w.cell? ⟨b, off + i * 8 + 2, none⟩ = some (.int .i64 xs[i].slots) ∧ w.cell? ⟨b, off + i * 8 + 3, none⟩ = some (.int .i64 xs[i].cap) ∧ w.cell? ⟨b, off + i * 8 + 4, none⟩ = some (.int .u32 xs[i].start) ∧ w.cell? ⟨b, off + i * 8 + 5, none⟩ = some (.slice A_init xs[i].init.length c_init) ∧ w.cell? ⟨b, off + i * 8 + 6, none⟩ = some (.int .i64 xs[i].writer) ∧ w.cell? ⟨b, off + i * 8 + 7, none⟩ = some (.slice A_readers xs[i].readers.length c_readers) ∧ xs[i].ok ∧ xs[i].init.length ≤ c_init ∧ c_init ≤ maxLen ∧ Row (cInt .u32) 1 w A_init xs[i].init ∧ xs[i].readers.length ≤ c_readers ∧ c_readers ≤ maxLen ∧ Row (cInt .i64) 1 w A_readers xs[i].readers := by
  obtain ⟨cs, hx, _, hc⟩ := h i xs[i] (List.getElem?_eq_getElem hi)
  obtain ⟨A_init, c_init, A_readers, c_readers, rfl, hk, l_init, m_init, r_init, l_readers, m_readers, r_readers⟩ := hx
  exact ⟨A_init, c_init, A_readers, c_readers, hc 0 _ rfl, hc 1 _ rfl, hc 2 _ rfl, hc 3 _ rfl, hc 4 _ rfl, hc 5 _ rfl, hc 6 _ rfl, hc 7 _ rfl, hk, l_init, m_init, r_init, l_readers, m_readers, r_readers⟩
/-- From the row's reading. -/
theorem Object.opens : Opens Try.prog 33 Object.cod := by
  intro H enc w base spare held fuel cs x h
  obtain ⟨xs, n, _, _, hlen, hxl, hf⟩ := DataW.trod_struct Try.underlying33 h
  have hxl' : xs.length = 8 := hxl
  have hl' : cs.length = 8 := hlen.trans (by kernel_rfl)
  have f0 := (hf 0 _ rfl).trans (List.getElem?_eq_getElem (show 0 < xs.length by omega))
  obtain ⟨v0, e0, _, w0⟩ := DataW.trod_int Try.underlying3 f0
  have g0 := takeHead e0
  have f1 := (hf 1 _ rfl).trans (List.getElem?_eq_getElem (show 1 < xs.length by omega))
  obtain ⟨v1, e1, _, w1⟩ := DataW.trod_int Try.underlying3 f1
  have g1 := takeHead e1
  have f2 := (hf 2 _ rfl).trans (List.getElem?_eq_getElem (show 2 < xs.length by omega))
  obtain ⟨v2, e2, _, w2⟩ := DataW.trod_int Try.underlying3 f2
  have g2 := takeHead e2
  have f3 := (hf 3 _ rfl).trans (List.getElem?_eq_getElem (show 3 < xs.length by omega))
  obtain ⟨v3, e3, _, w3⟩ := DataW.trod_int Try.underlying3 f3
  have g3 := takeHead e3
  have f4 := (hf 4 _ rfl).trans (List.getElem?_eq_getElem (show 4 < xs.length by omega))
  obtain ⟨v4, e4, _, w4⟩ := DataW.trod_int Try.underlying30 f4
  have g4 := takeHead e4
  have f5 := (hf 5 _ rfl).trans (List.getElem?_eq_getElem (show 5 < xs.length by omega))
  obtain ⟨v5, A5, c5, e5, l5, m5, r5⟩ := Opens.slice (R := (cInt .u32)) (k := 1) Try.underlying31 (show Try.prog.cellsOf 30 = 1 by kernel_rfl) (by decide) (Opens.int Try.underlying30) _ _ _ _ _ _ _ _ _ f5
  have g5 := takeHead e5
  have f6 := (hf 6 _ rfl).trans (List.getElem?_eq_getElem (show 6 < xs.length by omega))
  obtain ⟨v6, e6, _, w6⟩ := DataW.trod_int Try.underlying3 f6
  have g6 := takeHead e6
  have f7 := (hf 7 _ rfl).trans (List.getElem?_eq_getElem (show 7 < xs.length by omega))
  obtain ⟨v7, A7, c7, e7, l7, m7, r7⟩ := Opens.slice (R := (cInt .i64)) (k := 1) Try.underlying26 (show Try.prog.cellsOf 3 = 1 by kernel_rfl) (by decide) (Opens.int Try.underlying3) _ _ _ _ _ _ _ _ _ f7
  have g7 := takeHead e7
  refine ⟨⟨v0, v1, v2, v3, v4, v5, v6, v7⟩, A5, c5, A7, c7, ?_, ⟨w0, w1, w2, w3, w4, w6⟩, l5, m5, r5, l7, m7, r7⟩
  refine list_of_cells [.int .i64 v0, .int .i64 v1, .int .i64 v2, .int .i64 v3, .int .u32 v4, .slice A5 v5.length c5, .int .i64 v6, .slice A7 v7.length c7] hl' fun i hi => ?_
  have hi' : i < 8 := hi
  match i, hi' with
  | 0, _ => exact g0
  | 1, _ => exact g1
  | 2, _ => exact g2
  | 3, _ => exact g3
  | 4, _ => exact g4
  | 5, _ => exact g5
  | 6, _ => exact g6
  | 7, _ => exact g7
end Go.Proofs.Ytkkmageogkkchaa
