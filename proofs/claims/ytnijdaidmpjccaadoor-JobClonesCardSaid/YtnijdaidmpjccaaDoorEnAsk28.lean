/- The struct Ask28, over abstract values. No condition. -/
import Derived.Test.YtnijdaidmpjccaaDoorAvTop
import Derived.Test.YtnijdaidmpjccaaDoorTyAsk28
namespace Go.Proofs.YtnijdaidmpjccaaDoor
set_option linter.unusedSimpArgs false
set_option linter.unusedVariables false
set_option maxRecDepth 100000
open Go.RowKit
def eAsk28 (x : Ask28) : List AV := [.int .i64 x.kind, .int .i64 x.i, .int .i64 x.t]
theorem br_Ask28 : Br Ask28.cod eAsk28 := fun w cs x ⟨h1, h2⟩ => by
  subst h1
  obtain ⟨h_kind, h_i, h_t⟩ := h2
  exact (((L2.nil _).cons (.int _ _ (rangeP_wf.2 h_t))).cons (.int _ _ (rangeP_wf.2 h_i))).cons (.int _ _ (rangeP_wf.2 h_kind))
theorem ex_Ask28 : ∀ σ ι x vs, L2 (VR σ ι) (eAsk28 x) vs → vs = Ask28.cells x := fun σ ι x vs h => by
  obtain ⟨u0, r0, rfl, h0, h⟩ := L2.cons_inv h
  obtain ⟨u1, r1, rfl, h1, h⟩ := L2.cons_inv h
  obtain ⟨u2, r2, rfl, h2, h⟩ := L2.cons_inv h
  rw [L2.nil_iff] at h
  subst h
  rw [h0.int_inv.1, h1.int_inv.1, h2.int_inv.1]
  rfl
theorem eq_Ask28 {s : Slots} {h : Heap} {o : Oper} {yt : TypeId} {X Y : Operand} {op : BinOp} {x y : Ask28} (ho : o.op = .binOp op 45 X Y yt) (hop : op = .eql ∨ op = .neq) (hx : evA s X = .agg (eAsk28 x)) (hy : evA s Y = .agg (eAsk28 y)) : OkO Tryd.prog o s h (.bool (if op = .eql then decide (x = y) else !decide (x = y))) :=
  ok_eqS Ask28.cells eAsk28 hop ex_Ask28 (fun w => Ask28.run_eqIn x y w) (fun xs ys w => Ask28.run_guard op X Y xs ys w) ho hx hy
theorem eql_Ask28 {s : Slots} {h : Heap} {o : Oper} {yt : TypeId} {X Y : Operand} {x y : Ask28} (ho : o.op = .binOp .eql 45 X Y yt) (hx : evA s X = .agg (eAsk28 x)) (hy : evA s Y = .agg (eAsk28 y)) : OkO Tryd.prog o s h (.bool (decide (x = y))) := eq_Ask28 ho (.inl rfl) hx hy
theorem neq_Ask28 {s : Slots} {h : Heap} {o : Oper} {yt : TypeId} {X Y : Operand} {x y : Ask28} (ho : o.op = .binOp .neq 45 X Y yt) (hx : evA s X = .agg (eAsk28 x)) (hy : evA s Y = .agg (eAsk28 y)) : OkO Tryd.prog o s h (.bool (!decide (x = y))) := eq_Ask28 ho (.inr rfl) hx hy
end Go.Proofs.YtnijdaidmpjccaaDoor
