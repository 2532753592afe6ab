/- What the statements' frames need besides. No condition. -/
import Derived.Test.YtfjoaeghnfkdlaaGreatDoorB1
import Derived.Test.YtfjoaeghnfkdlaaGreatDoorB2
import Derived.Test.YtfjoaeghnfkdlaaGreatDoorB3
import Derived.Test.YtfjoaeghnfkdlaaGreatDoorB4
import Derived.Test.YtfjoaeghnfkdlaaGreatDoorB5
import Derived.Test.YtfjoaeghnfkdlaaGreatDoorB6
import Derived.Test.YtfjoaeghnfkdlaaGreatDoorB7
import Derived.Test.YtfjoaeghnfkdlaaGreatDoorB8
import Derived.Test.YtfjoaeghnfkdlaaGreatDoorB9
import Derived.Test.YtfjoaeghnfkdlaaGreatDoorB10
import Derived.Test.YtfjoaeghnfkdlaaGreatDoorB11
import Derived.Test.YtfjoaeghnfkdlaaGreatDoorB12
import Derived.Test.YtfjoaeghnfkdlaaGreatDoorB13
import Derived.Test.YtfjoaeghnfkdlaaGreatDoorB14
import Derived.Test.YtfjoaeghnfkdlaaGreatDoorB15
import Derived.Test.YtfjoaeghnfkdlaaGreatDoorB16
import Derived.Test.YtfjoaeghnfkdlaaGreatDoorB17
import Derived.Test.YtfjoaeghnfkdlaaGreatDoorB18
import Derived.Test.YtfjoaeghnfkdlaaGreatDoorB19
import Derived.Test.YtfjoaeghnfkdlaaGreatDoorB20
import Derived.Test.YtfjoaeghnfkdlaaGreatDoorB21
import Derived.Test.YtfjoaeghnfkdlaaGreatDoorB22
import Derived.Test.YtfjoaeghnfkdlaaGreatDoorB23
import Derived.Test.YtfjoaeghnfkdlaaGreatDoorB24
import Derived.Test.YtfjoaeghnfkdlaaGreatDoorB25
import Derived.Test.YtfjoaeghnfkdlaaGreatDoorB26
import Derived.Test.YtfjoaeghnfkdlaaGreatDoorB27
import Derived.Test.YtfjoaeghnfkdlaaGreatDoorB28
import Derived.Test.YtfjoaeghnfkdlaaGreatDoorB29
import Derived.Test.YtfjoaeghnfkdlaaGreatDoorB30
import Derived.Test.YtfjoaeghnfkdlaaGreatDoorB31
import Derived.Test.YtfjoaeghnfkdlaaGreatDoorB32
import Derived.Test.YtfjoaeghnfkdlaaGreatDoorB33
namespace Go.Proofs.YtfjoaeghnfkdlaaGreatDoor
set_option maxRecDepth 100000
open Go.RowKit Go.ChangeShapes Go.WideShapes

theorem takeHead {cs : List Value} {o k : Nat} {v : Value} (h : (cs.drop o).take k = [v]) : cs[o]? = some v := by
 cases k with
 | zero => simp at h
 | succ k =>
  cases hd : cs.drop o with
  | nil => rw [hd] at h; simp at h
  | cons a r =>
   rw [hd] at h
   simp at h
   have : (cs.drop o)[0]? = some v := by rw [hd, h.1]; rfl
   rwa [List.getElem?_drop, Nat.add_zero] at this
theorem list_of_cells {cs : List Value} (l : List Value) (hlen : cs.length = l.length) (h : ∀ i, i < l.length -> cs[i]? = l[i]?) : cs = l := by
 apply List.ext_getElem?
 intro i
 by_cases hi : i < l.length
 ·exact h i hi
 ·rw [List.getElem?_eq_none (by omega), List.getElem?_eq_none (by omega)]

theorem open_struct_arg {α : Type} {H : Type} {enc : TypeId × Value -> H} {P : Program} {W : World} {t : TypeId} {fs : Array Field} {r : Reach} {b0 : Nat} {R : Cod α} {v : Value} {d : DataW H} {p : List MemPlace} {sp : Nat -> Bool}
  (ht : P.underlying t = some (.struct fs)) (hO : Opens P t R) (hv : Value.okWide P W r b0 t v) (h : DataW.Trod enc P W 0 sp true t v d p) :
  ∃ cs x, v = .agg (List.toArray cs) ∧ R W cs x := by
 obtain ⟨cs, rfl, _⟩ := okWide_struct ht hv
 obtain ⟨fuel, hf⟩ := h
 obtain ⟨x, hx⟩ := hO _ _ _ _ _ _ _ _ _ hf
 exact ⟨cs.toList, x, by simp, by simpa [Value.cells] using hx⟩
end Go.Proofs.YtfjoaeghnfkdlaaGreatDoor

namespace Go.Proofs.YtfjoaeghnfkdlaaGreatDoor
set_option maxRecDepth 100000
open Go.RowKit
theorem v_struct {α : Type} {R : Cod α} {f : α -> List AV} (hR : Br R f) {w : World} {cs : List Value} {x : α} (h : R w cs x) : VR0 (sg w) (.agg (f x)) (.agg cs.toArray) := .agg _ _ (hR w cs x h).1 (hR w cs x h).2
end Go.Proofs.YtfjoaeghnfkdlaaGreatDoor

namespace Go.Proofs.YtfjoaeghnfkdlaaGreatDoor
set_option maxRecDepth 100000
open Go.RowKit
section
variable {P : Program} {n : Md} {Q : Exit -> j6 -> j8 -> Prop} {s : j6} {h : j8} {ops : Array Oper} {rest : List Oper} {o : Oper} {K : j6 -> Prop}
end
end Go.Proofs.YtfjoaeghnfkdlaaGreatDoor
namespace Go.Proofs.YtfjoaeghnfkdlaaGreatDoor
set_option maxRecDepth 100000
open Go.RowKit
section
variable {P : Program} {n : Md} {Q : Exit -> j6 -> j8 -> Prop} {s : j6} {h : j8} {ops : Array Oper} {rest : List Oper} {o : Oper} {K : j6 -> Prop}
end
end Go.Proofs.YtfjoaeghnfkdlaaGreatDoor
namespace Go.Proofs.YtfjoaeghnfkdlaaGreatDoor
set_option maxRecDepth 100000
open Go.RowKit
section
variable {P : Program} {k : Nat} {Q : List Deferred -> Exit -> j6 -> j8 -> Prop} {ds : List Deferred} {s : j6} {h : j8}
end
end Go.Proofs.YtfjoaeghnfkdlaaGreatDoor
namespace Go.Proofs.YtfjoaeghnfkdlaaGreatDoor
set_option maxRecDepth 100000
open Go.RowKit
section
variable {P : Program} {n : Md} {Q : Exit -> j6 -> j8 -> Prop} {s : j6} {h : j8} {ops : Array Oper} {rest : List Oper} {o : Oper} {K : j6 -> Prop} {kn : Know}
theorem topT {f : FuncId} {args : List AV} {vs : List Value} {W : World} (hf : FnT P kn f args (.bool true)) (hk : kn.T (sg W)) (hv : L2 (VR0 (sg W)) args vs) :
  Calls P f vs.toArray W fun e W' => e = .returned (.bool true) ∧ Below W.heap.size W W' := by
 refine (hf.2 (sg W) (fun _ => undef) W vs hk (fun _ _ h => h) (hv.mono fun _ _ h => .base _ _ h)).mono ?_
 rintro e w' ⟨u, σ', rfl, h1, h2⟩
 exact ⟨by rw [VR.bool_inv (ι := fun _ => undef) (.base _ _ h1)], ⟨h2.os, h2.tape, h2.output, h2.size, fun k hk => h2.old k hk (by simp)⟩⟩
end
end Go.Proofs.YtfjoaeghnfkdlaaGreatDoor
namespace Go.Proofs.YtfjoaeghnfkdlaaGreatDoor
set_option maxRecDepth 100000
open Go.RowKit
section
variable {P : Program} {k : Nat} {Q : Exit -> j6 -> j8 -> Prop} {s : j6} {h : j8}
end
end Go.Proofs.YtfjoaeghnfkdlaaGreatDoor
namespace Go.Proofs.YtfjoaeghnfkdlaaGreatDoor
set_option maxRecDepth 100000
open Go.RowKit
section
variable {P : Program} {k : Nat} {Q : List Deferred -> Exit -> j6 -> j8 -> Prop} {ds : List Deferred} {s : j6} {h : j8} {next : List Deferred -> j6 -> j8 -> Prop}
end
end Go.Proofs.YtfjoaeghnfkdlaaGreatDoor
namespace Go.Proofs.YtfjoaeghnfkdlaaGreatDoor
set_option maxRecDepth 100000
open Go.RowKit
end Go.Proofs.YtfjoaeghnfkdlaaGreatDoor

namespace Go.Proofs.YtfjoaeghnfkdlaaGreatDoor
set_option maxRecDepth 100000
open Go.RowKit Go.ChangeShapes Go.WideShapes

theorem Due.opens : Opens Tryz.prog 60 Due.cod := by
 intro H enc w base spare held fuel cs x h
 obtain ⟨xs, n, _, _, hlen, hxl, hf⟩ := DataW.trod_struct Tryz.underlying60 h
 have hxl' : xs.length = 2 := hxl
 have hl' : cs.length = 2 := hlen.trans (by kernel_rfl)
 have f0 := (hf 0 _ rfl).trans (List.getElem?_eq_getElem (show 0 < xs.length by omega))
 obtain ⟨v0, e0, _, w0⟩ := DataW.trod_int Tryz.underlying3 f0
 have g0 := takeHead e0
 have f1 := (hf 1 _ rfl).trans (List.getElem?_eq_getElem (show 1 < xs.length by omega))
 obtain ⟨v1, e1, _, w1⟩ := DataW.trod_int Tryz.underlying3 f1
 have g1 := takeHead e1
 refine ⟨⟨v0, v1⟩, ?_, ⟨w0, w1⟩⟩
 refine list_of_cells [.int .i64 v0, .int .i64 v1] hl' fun i hi => ?_
 have hi' : i < 2 := hi
 match i, hi' with
 | 0, _ => exact g0
 | 1, _ => exact g1
end Go.Proofs.YtfjoaeghnfkdlaaGreatDoor

namespace Go.Proofs.YtfjoaeghnfkdlaaGreatDoor
set_option maxRecDepth 100000
open Go.RowKit Go.ChangeShapes Go.WideShapes

theorem Job.opens : Opens Tryz.prog 71 Job.cod := by
 intro H enc w base spare held fuel cs x h
 obtain ⟨xs, n, _, _, hlen, hxl, hf⟩ := DataW.trod_struct Tryz.underlying71 h
 have hxl' : xs.length = 8 := hxl
 have hl' : cs.length = 8 := hlen.trans (by kernel_rfl)
 have f0 := (hf 0 _ rfl).trans (List.getElem?_eq_getElem (show 0 < xs.length by omega))
 obtain ⟨v0, e0, _, w0⟩ := DataW.trod_int Tryz.underlying3 f0
 have g0 := takeHead e0
 have f1 := (hf 1 _ rfl).trans (List.getElem?_eq_getElem (show 1 < xs.length by omega))
 obtain ⟨v1, e1, _, w1⟩ := DataW.trod_int Tryz.underlying3 f1
 have g1 := takeHead e1
 have f2 := (hf 2 _ rfl).trans (List.getElem?_eq_getElem (show 2 < xs.length by omega))
 obtain ⟨v2, e2, _, w2⟩ := DataW.trod_int Tryz.underlying3 f2
 have g2 := takeHead e2
 have f3 := (hf 3 _ rfl).trans (List.getElem?_eq_getElem (show 3 < xs.length by omega))
 obtain ⟨v3, e3, _, w3⟩ := DataW.trod_int Tryz.underlying3 f3
 have g3 := takeHead e3
 have f4 := (hf 4 _ rfl).trans (List.getElem?_eq_getElem (show 4 < xs.length by omega))
 obtain ⟨v4, e4, _, w4⟩ := DataW.trod_int Tryz.underlying3 f4
 have g4 := takeHead e4
 have f5 := (hf 5 _ rfl).trans (List.getElem?_eq_getElem (show 5 < xs.length by omega))
 obtain ⟨v5, e5, _, w5⟩ := DataW.trod_int Tryz.underlying3 f5
 have g5 := takeHead e5
 have f6 := (hf 6 _ rfl).trans (List.getElem?_eq_getElem (show 6 < xs.length by omega))
 obtain ⟨v6, e6, _, w6⟩ := DataW.trod_int Tryz.underlying3 f6
 have g6 := takeHead e6
 have f7 := (hf 7 _ rfl).trans (List.getElem?_eq_getElem (show 7 < xs.length by omega))
 obtain ⟨v7, e7, _⟩ := DataW.trod_bool Tryz.underlying4 f7
 have g7 := takeHead e7
 refine ⟨⟨v0, v1, v2, v3, v4, v5, v6, v7⟩, ?_, ⟨w0, w1, w2, w3, w4, w5, w6⟩⟩
 refine list_of_cells [.int .i64 v0, .int .i64 v1, .int .i64 v2, .int .i64 v3, .int .i64 v4, .int .i64 v5, .int .i64 v6, .bool v7] hl' fun i hi => ?_
 have hi' : i < 8 := hi
 match i, hi' with
 | 0, _ => exact g0
 | 1, _ => exact g1
 | 2, _ => exact g2
 | 3, _ => exact g3
 | 4, _ => exact g4
 | 5, _ => exact g5
 | 6, _ => exact g6
 | 7, _ => exact g7
end Go.Proofs.YtfjoaeghnfkdlaaGreatDoor

namespace Go.Proofs.YtfjoaeghnfkdlaaGreatDoor
set_option maxRecDepth 100000
open Go.RowKit Go.ChangeShapes Go.WideShapes

theorem Instr.opens : Opens Tryz.prog 217 Instr.cod := by
 intro H enc w base spare held fuel cs x h
 obtain ⟨xs, n, _, _, hlen, hxl, hf⟩ := DataW.trod_struct Tryz.underlying217 h
 have hxl' : xs.length = 5 := hxl
 have hl' : cs.length = 5 := hlen.trans (by kernel_rfl)
 have f0 := (hf 0 _ rfl).trans (List.getElem?_eq_getElem (show 0 < xs.length by omega))
 obtain ⟨v0, e0, _, w0⟩ := DataW.trod_int Tryz.underlying3 f0
 have g0 := takeHead e0
 have f1 := (hf 1 _ rfl).trans (List.getElem?_eq_getElem (show 1 < xs.length by omega))
 obtain ⟨v1, e1, _, w1⟩ := DataW.trod_int Tryz.underlying3 f1
 have g1 := takeHead e1
 have f2 := (hf 2 _ rfl).trans (List.getElem?_eq_getElem (show 2 < xs.length by omega))
 obtain ⟨v2, e2, _, w2⟩ := DataW.trod_int Tryz.underlying3 f2
 have g2 := takeHead e2
 have f3 := (hf 3 _ rfl).trans (List.getElem?_eq_getElem (show 3 < xs.length by omega))
 obtain ⟨v3, e3, _, w3⟩ := DataW.trod_int Tryz.underlying3 f3
 have g3 := takeHead e3
 have f4 := (hf 4 _ rfl).trans (List.getElem?_eq_getElem (show 4 < xs.length by omega))
 obtain ⟨v4, e4, _, w4⟩ := DataW.trod_int Tryz.underlying180 f4
 have g4 := takeHead e4
 refine ⟨⟨v0, v1, v2, v3, v4⟩, ?_, ⟨w0, w1, w2, w3, w4⟩⟩
 refine list_of_cells [.int .i64 v0, .int .i64 v1, .int .i64 v2, .int .i64 v3, .int .u32 v4] hl' fun i hi => ?_
 have hi' : i < 5 := hi
 match i, hi' with
 | 0, _ => exact g0
 | 1, _ => exact g1
 | 2, _ => exact g2
 | 3, _ => exact g3
 | 4, _ => exact g4
end Go.Proofs.YtfjoaeghnfkdlaaGreatDoor

namespace Go.Proofs.YtfjoaeghnfkdlaaGreatDoor
set_option maxRecDepth 100000
open Go.RowKit Go.ChangeShapes Go.WideShapes

theorem Task.opens : Opens Tryz.prog 77 Task.cod := by
 intro H enc w base spare held fuel cs x h
 obtain ⟨xs, n, _, _, hlen, hxl, hf⟩ := DataW.trod_struct Tryz.underlying77 h
 have hxl' : xs.length = 7 := hxl
 have hl' : cs.length = 7 := hlen.trans (by kernel_rfl)
 have f0 := (hf 0 _ rfl).trans (List.getElem?_eq_getElem (show 0 < xs.length by omega))
 obtain ⟨v0, e0, _, w0⟩ := DataW.trod_int Tryz.underlying3 f0
 have g0 := takeHead e0
 have f1 := (hf 1 _ rfl).trans (List.getElem?_eq_getElem (show 1 < xs.length by omega))
 obtain ⟨v1, e1, _, w1⟩ := DataW.trod_int Tryz.underlying3 f1
 have g1 := takeHead e1
 have f2 := (hf 2 _ rfl).trans (List.getElem?_eq_getElem (show 2 < xs.length by omega))
 obtain ⟨v2, e2, _, w2⟩ := DataW.trod_int Tryz.underlying3 f2
 have g2 := takeHead e2
 have f3 := (hf 3 _ rfl).trans (List.getElem?_eq_getElem (show 3 < xs.length by omega))
 obtain ⟨v3, e3, _, w3⟩ := DataW.trod_int Tryz.underlying3 f3
 have g3 := takeHead e3
 have f4 := (hf 4 _ rfl).trans (List.getElem?_eq_getElem (show 4 < xs.length by omega))
 obtain ⟨v4, e4, _, w4⟩ := DataW.trod_int Tryz.underlying3 f4
 have g4 := takeHead e4
 have f5 := (hf 5 _ rfl).trans (List.getElem?_eq_getElem (show 5 < xs.length by omega))
 obtain ⟨v5, e5, _, w5⟩ := DataW.trod_int Tryz.underlying3 f5
 have g5 := takeHead e5
 have f6 := (hf 6 _ rfl).trans (List.getElem?_eq_getElem (show 6 < xs.length by omega))
 obtain ⟨v6, A6, c6, e6, l6, m6, r6⟩ := Opens.slice (R := Instr.cod) (k := 5) Tryz.underlying75 (show Tryz.prog.cellsOf 217 = 5 by kernel_rfl) (by decide) Instr.opens _ _ _ _ _ _ _ _ _ f6
 have g6 := takeHead e6
 refine ⟨⟨v0, v1, v2, v3, v4, v5, v6⟩, A6, c6, ?_, ⟨w0, w1, w2, w3, w4, w5⟩, l6, m6, r6⟩
 refine list_of_cells [.int .i64 v0, .int .i64 v1, .int .i64 v2, .int .i64 v3, .int .i64 v4, .int .i64 v5, .slice A6 v6.length c6] hl' fun i hi => ?_
 have hi' : i < 7 := hi
 match i, hi' with
 | 0, _ => exact g0
 | 1, _ => exact g1
 | 2, _ => exact g2
 | 3, _ => exact g3
 | 4, _ => exact g4
 | 5, _ => exact g5
 | 6, _ => exact g6
end Go.Proofs.YtfjoaeghnfkdlaaGreatDoor

namespace Go.Proofs.YtfjoaeghnfkdlaaGreatDoor
set_option maxRecDepth 100000
open Go.RowKit Go.ChangeShapes Go.WideShapes

theorem Event.opens : Opens Tryz.prog 68 Event.cod := by
 intro H enc w base spare held fuel cs x h
 obtain ⟨xs, n, _, _, hlen, hxl, hf⟩ := DataW.trod_struct Tryz.underlying68 h
 have hxl' : xs.length = 5 := hxl
 have hl' : cs.length = 5 := hlen.trans (by kernel_rfl)
 have f0 := (hf 0 _ rfl).trans (List.getElem?_eq_getElem (show 0 < xs.length by omega))
 obtain ⟨v0, e0, _, w0⟩ := DataW.trod_int Tryz.underlying3 f0
 have g0 := takeHead e0
 have f1 := (hf 1 _ rfl).trans (List.getElem?_eq_getElem (show 1 < xs.length by omega))
 obtain ⟨v1, e1, _, w1⟩ := DataW.trod_int Tryz.underlying3 f1
 have g1 := takeHead e1
 have f2 := (hf 2 _ rfl).trans (List.getElem?_eq_getElem (show 2 < xs.length by omega))
 obtain ⟨v2, e2, _, w2⟩ := DataW.trod_int Tryz.underlying3 f2
 have g2 := takeHead e2
 have f3 := (hf 3 _ rfl).trans (List.getElem?_eq_getElem (show 3 < xs.length by omega))
 obtain ⟨v3, e3, _, w3⟩ := DataW.trod_int Tryz.underlying3 f3
 have g3 := takeHead e3
 have f4 := (hf 4 _ rfl).trans (List.getElem?_eq_getElem (show 4 < xs.length by omega))
 obtain ⟨v4, e4, _, w4⟩ := DataW.trod_int Tryz.underlying3 f4
 have g4 := takeHead e4
 refine ⟨⟨v0, v1, v2, v3, v4⟩, ?_, ⟨w0, w1, w2, w3, w4⟩⟩
 refine list_of_cells [.int .i64 v0, .int .i64 v1, .int .i64 v2, .int .i64 v3, .int .i64 v4] hl' fun i hi => ?_
 have hi' : i < 5 := hi
 match i, hi' with
 | 0, _ => exact g0
 | 1, _ => exact g1
 | 2, _ => exact g2
 | 3, _ => exact g3
 | 4, _ => exact g4
end Go.Proofs.YtfjoaeghnfkdlaaGreatDoor

namespace Go.Proofs.YtfjoaeghnfkdlaaGreatDoor
set_option maxRecDepth 100000
open Go.RowKit Go.ChangeShapes Go.WideShapes

theorem Case29.opens : Opens Tryz.prog 57 Case29.cod := by
 intro H enc w base spare held fuel cs x h
 obtain ⟨xs, n, _, _, hlen, hxl, hf⟩ := DataW.trod_struct Tryz.underlying57 h
 have hxl' : xs.length = 4 := hxl
 have hl' : cs.length = 4 := hlen.trans (by kernel_rfl)
 have f0 := (hf 0 _ rfl).trans (List.getElem?_eq_getElem (show 0 < xs.length by omega))
 obtain ⟨v0, A0, c0, e0, l0, m0, r0⟩ := Opens.slice (R := Task.cod) (k := 7) Tryz.underlying22 (show Tryz.prog.cellsOf 77 = 7 by kernel_rfl) (by decide) Task.opens _ _ _ _ _ _ _ _ _ f0
 have g0 := takeHead e0
 have f1 := (hf 1 _ rfl).trans (List.getElem?_eq_getElem (show 1 < xs.length by omega))
 obtain ⟨v1, A1, c1, e1, l1, m1, r1⟩ := Opens.slice (R := Due.cod) (k := 2) Tryz.underlying40 (show Tryz.prog.cellsOf 60 = 2 by kernel_rfl) (by decide) Due.opens _ _ _ _ _ _ _ _ _ f1
 have g1 := takeHead e1
 have f2 := (hf 2 _ rfl).trans (List.getElem?_eq_getElem (show 2 < xs.length by omega))
 obtain ⟨v2, A2, c2, e2, l2, m2, r2⟩ := Opens.slice (R := (V4 (ZN .i64) 1)) (k := 1) Tryz.underlying48 (show Tryz.prog.cellsOf 43 = 1 by kernel_rfl) (by decide) (Opens.slice (R := ZN .i64) (k := 1) Tryz.underlying43 (show Tryz.prog.cellsOf 3 = 1 by kernel_rfl) (by decide) (Opens.int Tryz.underlying3)) _ _ _ _ _ _ _ _ _ f2
 have g2 := takeHead e2
 have f3 := (hf 3 _ rfl).trans (List.getElem?_eq_getElem (show 3 < xs.length by omega))
 obtain ⟨v3, e3, _, w3⟩ := DataW.trod_int Tryz.underlying3 f3
 have g3 := takeHead e3
 refine ⟨⟨v0, v1, v2, v3⟩, A0, c0, A1, c1, A2, c2, ?_, w3, l0, m0, r0, l1, m1, r1, l2, m2, r2⟩
 refine list_of_cells [.slice A0 v0.length c0, .slice A1 v1.length c1, .slice A2 v2.length c2, .int .i64 v3] hl' fun i hi => ?_
 have hi' : i < 4 := hi
 match i, hi' with
 | 0, _ => exact g0
 | 1, _ => exact g1
 | 2, _ => exact g2
 | 3, _ => exact g3
end Go.Proofs.YtfjoaeghnfkdlaaGreatDoor

