/- The struct Due, over abstract values. No condition. -/
import Derived.Test.YtfjoaeghnfkdlaaAvTop
import Derived.Test.YtfjoaeghnfkdlaaTyDue
namespace Go.Proofs.Ytfjoaeghnfkdlaa
set_option linter.unusedSimpArgs false
set_option linter.unusedVariables false
set_option maxRecDepth 100000
open Go.RowKit
def eDue (x : Due) : List AV := [.int .i64 x.at_, .int .i64 x.task]
theorem br_Due : Br Due.cod eDue := fun w cs x ⟨h1, h2⟩ => by
  subst h1
  obtain ⟨h_at_, h_task⟩ := h2
  exact ((L2.nil _).cons (.int _ _ (rangeP_wf.2 h_task))).cons (.int _ _ (rangeP_wf.2 h_at_))
theorem ex_Due : ∀ σ ι x vs, L2 (VR σ ι) (eDue x) vs → vs = Due.cells x := fun σ ι x vs h => by
  obtain ⟨u0, r0, rfl, h0, h⟩ := L2.cons_inv h
  obtain ⟨u1, r1, rfl, h1, h⟩ := L2.cons_inv h
  rw [L2.nil_iff] at h
  subst h
  rw [h0.int_inv.1, h1.int_inv.1]
  rfl
theorem eq_Due {s : Slots} {h : Heap} {o : Oper} {yt : TypeId} {X Y : Operand} {op : BinOp} {x y : Due} (ho : o.op = .binOp op 41 X Y yt) (hop : op = .eql ∨ op = .neq) (hx : evA s X = .agg (eDue x)) (hy : evA s Y = .agg (eDue y)) : OkO Try.prog o s h (.bool (if op = .eql then decide (x = y) else !decide (x = y))) :=
  ok_eqS Due.cells eDue hop ex_Due (fun w => Due.run_eqIn x y w) (fun xs ys w => Due.run_guard op X Y xs ys w) ho hx hy
theorem eql_Due {s : Slots} {h : Heap} {o : Oper} {yt : TypeId} {X Y : Operand} {x y : Due} (ho : o.op = .binOp .eql 41 X Y yt) (hx : evA s X = .agg (eDue x)) (hy : evA s Y = .agg (eDue y)) : OkO Try.prog o s h (.bool (decide (x = y))) := eq_Due ho (.inl rfl) hx hy
theorem neq_Due {s : Slots} {h : Heap} {o : Oper} {yt : TypeId} {X Y : Operand} {x y : Due} (ho : o.op = .binOp .neq 41 X Y yt) (hx : evA s X = .agg (eDue x)) (hy : evA s Y = .agg (eDue y)) : OkO Try.prog o s h (.bool (!decide (x = y))) := eq_Due ho (.inr rfl) hx hy
end Go.Proofs.Ytfjoaeghnfkdlaa
