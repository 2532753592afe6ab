/- The struct Spot, over abstract values. No condition. -/
import Derived.Test.YtkkmageogkkchaaAvTop
import Derived.Test.YtkkmageogkkchaaTySpot
namespace Go.Proofs.Ytkkmageogkkchaa
set_option linter.unusedSimpArgs false
set_option linter.unusedVariables false
set_option maxRecDepth 100000
open Go.RowKit
def eSpot (x : Spot) : List AV := [.int .i64 x.task, .int .i64 x.object, .int .i64 x.at_]
theorem br_Spot : Br Spot.cod eSpot := fun w cs x ⟨h1, h2⟩ => by
  subst h1
  obtain ⟨h_task, h_object, h_at_⟩ := h2
  exact (((L2.nil _).cons (.int _ _ (rangeP_wf.2 h_at_))).cons (.int _ _ (rangeP_wf.2 h_object))).cons (.int _ _ (rangeP_wf.2 h_task))
theorem ex_Spot : ∀ σ ι x vs, L2 (VR σ ι) (eSpot x) vs → vs = Spot.cells x := fun σ ι x vs h => by
  obtain ⟨u0, r0, rfl, h0, h⟩ := L2.cons_inv h
  obtain ⟨u1, r1, rfl, h1, h⟩ := L2.cons_inv h
  obtain ⟨u2, r2, rfl, h2, h⟩ := L2.cons_inv h
  rw [L2.nil_iff] at h
  subst h
  rw [h0.int_inv.1, h1.int_inv.1, h2.int_inv.1]
  rfl
theorem eq_Spot {s : Slots} {h : Heap} {o : Oper} {yt : TypeId} {X Y : Operand} {op : BinOp} {x y : Spot} (ho : o.op = .binOp op 55 X Y yt) (hop : op = .eql ∨ op = .neq) (hx : evA s X = .agg (eSpot x)) (hy : evA s Y = .agg (eSpot y)) : OkO Try.prog o s h (.bool (if op = .eql then decide (x = y) else !decide (x = y))) :=
  ok_eqS Spot.cells eSpot hop ex_Spot (fun w => Spot.run_eqIn x y w) (fun xs ys w => Spot.run_guard op X Y xs ys w) ho hx hy
theorem eql_Spot {s : Slots} {h : Heap} {o : Oper} {yt : TypeId} {X Y : Operand} {x y : Spot} (ho : o.op = .binOp .eql 55 X Y yt) (hx : evA s X = .agg (eSpot x)) (hy : evA s Y = .agg (eSpot y)) : OkO Try.prog o s h (.bool (decide (x = y))) := eq_Spot ho (.inl rfl) hx hy
theorem neq_Spot {s : Slots} {h : Heap} {o : Oper} {yt : TypeId} {X Y : Operand} {x y : Spot} (ho : o.op = .binOp .neq 55 X Y yt) (hx : evA s X = .agg (eSpot x)) (hy : evA s Y = .agg (eSpot y)) : OkO Try.prog o s h (.bool (!decide (x = y))) := eq_Spot ho (.inr rfl) hx hy
end Go.Proofs.Ytkkmageogkkchaa
