/- The struct Job, over abstract values. No condition. -/
import Derived.Test.YtfjoaeghnfkdlaaAvTop
import Derived.Test.YtfjoaeghnfkdlaaTyJob
namespace Go.Proofs.Ytfjoaeghnfkdlaa
set_option linter.unusedSimpArgs false
set_option linter.unusedVariables false
set_option maxRecDepth 100000
open Go.RowKit
def eJob (x : Job) : List AV := [.int .i64 x.task, .int .i64 x.no, .int .i64 x.release, .int .i64 x.deadline, .int .i64 x.start, .int .i64 x.fin, .int .i64 x.steps, .bool x.missed]
theorem br_Job : Br Job.cod eJob := fun w cs x ⟨h1, h2⟩ => by
  subst h1
  obtain ⟨h_task, h_no, h_release, h_deadline, h_start, h_fin, h_steps⟩ := h2
  exact ((((((((L2.nil _).cons (.bool _)).cons (.int _ _ (rangeP_wf.2 h_steps))).cons (.int _ _ (rangeP_wf.2 h_fin))).cons (.int _ _ (rangeP_wf.2 h_start))).cons (.int _ _ (rangeP_wf.2 h_deadline))).cons (.int _ _ (rangeP_wf.2 h_release))).cons (.int _ _ (rangeP_wf.2 h_no))).cons (.int _ _ (rangeP_wf.2 h_task))
theorem ex_Job : ∀ σ ι x vs, L2 (VR σ ι) (eJob x) vs → vs = Job.cells x := fun σ ι x vs h => by
  obtain ⟨u0, r0, rfl, h0, h⟩ := L2.cons_inv h
  obtain ⟨u1, r1, rfl, h1, h⟩ := L2.cons_inv h
  obtain ⟨u2, r2, rfl, h2, h⟩ := L2.cons_inv h
  obtain ⟨u3, r3, rfl, h3, h⟩ := L2.cons_inv h
  obtain ⟨u4, r4, rfl, h4, h⟩ := L2.cons_inv h
  obtain ⟨u5, r5, rfl, h5, h⟩ := L2.cons_inv h
  obtain ⟨u6, r6, rfl, h6, h⟩ := L2.cons_inv h
  obtain ⟨u7, r7, rfl, h7, h⟩ := L2.cons_inv h
  rw [L2.nil_iff] at h
  subst h
  rw [h0.int_inv.1, h1.int_inv.1, h2.int_inv.1, h3.int_inv.1, h4.int_inv.1, h5.int_inv.1, h6.int_inv.1, h7.bool_inv]
  rfl
theorem eq_Job {s : Slots} {h : Heap} {o : Oper} {yt : TypeId} {X Y : Operand} {op : BinOp} {x y : Job} (ho : o.op = .binOp op 74 X Y yt) (hop : op = .eql ∨ op = .neq) (hx : evA s X = .agg (eJob x)) (hy : evA s Y = .agg (eJob y)) : OkO Try.prog o s h (.bool (if op = .eql then decide (x = y) else !decide (x = y))) :=
  ok_eqS Job.cells eJob hop ex_Job (fun w => Job.run_eqIn x y w) (fun xs ys w => Job.run_guard op X Y xs ys w) ho hx hy
theorem eql_Job {s : Slots} {h : Heap} {o : Oper} {yt : TypeId} {X Y : Operand} {x y : Job} (ho : o.op = .binOp .eql 74 X Y yt) (hx : evA s X = .agg (eJob x)) (hy : evA s Y = .agg (eJob y)) : OkO Try.prog o s h (.bool (decide (x = y))) := eq_Job ho (.inl rfl) hx hy
theorem neq_Job {s : Slots} {h : Heap} {o : Oper} {yt : TypeId} {X Y : Operand} {x y : Job} (ho : o.op = .binOp .neq 74 X Y yt) (hx : evA s X = .agg (eJob x)) (hy : evA s Y = .agg (eJob y)) : OkO Try.prog o s h (.bool (!decide (x = y))) := eq_Job ho (.inr rfl) hx hy
end Go.Proofs.Ytfjoaeghnfkdlaa
