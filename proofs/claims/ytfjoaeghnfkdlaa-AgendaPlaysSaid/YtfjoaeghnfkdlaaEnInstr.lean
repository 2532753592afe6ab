/- The struct Instr, over abstract values. No condition. -/
import Derived.Test.YtfjoaeghnfkdlaaAvTop
import Derived.Test.YtfjoaeghnfkdlaaTyInstr
namespace Go.Proofs.Ytfjoaeghnfkdlaa
set_option linter.unusedSimpArgs false
set_option linter.unusedVariables false
set_option maxRecDepth 100000
open Go.RowKit
def eInstr (x : Instr) : List AV := [.int .i64 x.op, .int .i64 x.a, .int .i64 x.b, .int .i64 x.c, .int .u32 x.n]
theorem br_Instr : Br Instr.cod eInstr := fun w cs x ⟨h1, h2⟩ => by
  subst h1
  obtain ⟨h_op, h_a, h_b, h_c, h_n⟩ := h2
  exact (((((L2.nil _).cons (.int _ _ (rangeP_wf.2 h_n))).cons (.int _ _ (rangeP_wf.2 h_c))).cons (.int _ _ (rangeP_wf.2 h_b))).cons (.int _ _ (rangeP_wf.2 h_a))).cons (.int _ _ (rangeP_wf.2 h_op))
theorem ex_Instr : ∀ σ ι x vs, L2 (VR σ ι) (eInstr x) vs → vs = Instr.cells x := fun σ ι x vs h => by
  obtain ⟨u0, r0, rfl, h0, h⟩ := L2.cons_inv h
  obtain ⟨u1, r1, rfl, h1, h⟩ := L2.cons_inv h
  obtain ⟨u2, r2, rfl, h2, h⟩ := L2.cons_inv h
  obtain ⟨u3, r3, rfl, h3, h⟩ := L2.cons_inv h
  obtain ⟨u4, r4, rfl, h4, h⟩ := L2.cons_inv h
  rw [L2.nil_iff] at h
  subst h
  rw [h0.int_inv.1, h1.int_inv.1, h2.int_inv.1, h3.int_inv.1, h4.int_inv.1]
  rfl
theorem eq_Instr {s : Slots} {h : Heap} {o : Oper} {yt : TypeId} {X Y : Operand} {op : BinOp} {x y : Instr} (ho : o.op = .binOp op 194 X Y yt) (hop : op = .eql ∨ op = .neq) (hx : evA s X = .agg (eInstr x)) (hy : evA s Y = .agg (eInstr y)) : OkO Try.prog o s h (.bool (if op = .eql then decide (x = y) else !decide (x = y))) :=
  ok_eqS Instr.cells eInstr hop ex_Instr (fun w => Instr.run_eqIn x y w) (fun xs ys w => Instr.run_guard op X Y xs ys w) ho hx hy
theorem eql_Instr {s : Slots} {h : Heap} {o : Oper} {yt : TypeId} {X Y : Operand} {x y : Instr} (ho : o.op = .binOp .eql 194 X Y yt) (hx : evA s X = .agg (eInstr x)) (hy : evA s Y = .agg (eInstr y)) : OkO Try.prog o s h (.bool (decide (x = y))) := eq_Instr ho (.inl rfl) hx hy
theorem neq_Instr {s : Slots} {h : Heap} {o : Oper} {yt : TypeId} {X Y : Operand} {x y : Instr} (ho : o.op = .binOp .neq 194 X Y yt) (hx : evA s X = .agg (eInstr x)) (hy : evA s Y = .agg (eInstr y)) : OkO Try.prog o s h (.bool (!decide (x = y))) := eq_Instr ho (.inr rfl) hx hy
end Go.Proofs.Ytfjoaeghnfkdlaa
