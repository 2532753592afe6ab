/- The struct Span, over abstract values. No condition. -/
import Derived.Test.YtffciebjpiljgaaAvTop
import Derived.Test.YtffciebjpiljgaaTySpan
namespace Go.Proofs.Ytffciebjpiljgaa
set_option linter.unusedSimpArgs false
set_option linter.unusedVariables false
set_option maxRecDepth 100000
open Go.RowKit
def eSpan (x : Span) : List AV := [.int .i64 x.frm, .int .i64 x.to]
theorem br_Span : Br Span.cod eSpan := fun w cs x ⟨h1, h2⟩ => by
  subst h1
  obtain ⟨h_frm, h_to⟩ := h2
  exact ((L2.nil _).cons (.int _ _ (rangeP_wf.2 h_to))).cons (.int _ _ (rangeP_wf.2 h_frm))
theorem ex_Span : ∀ σ ι x vs, L2 (VR σ ι) (eSpan x) vs → vs = Span.cells x := fun σ ι x vs h => by
  obtain ⟨u0, r0, rfl, h0, h⟩ := L2.cons_inv h
  obtain ⟨u1, r1, rfl, h1, h⟩ := L2.cons_inv h
  rw [L2.nil_iff] at h
  subst h
  rw [h0.int_inv.1, h1.int_inv.1]
  rfl
theorem eq_Span {s : Slots} {h : Heap} {o : Oper} {yt : TypeId} {X Y : Operand} {op : BinOp} {x y : Span} (ho : o.op = .binOp op 84 X Y yt) (hop : op = .eql ∨ op = .neq) (hx : evA s X = .agg (eSpan x)) (hy : evA s Y = .agg (eSpan y)) : OkO Try.prog o s h (.bool (if op = .eql then decide (x = y) else !decide (x = y))) :=
  ok_eqS Span.cells eSpan hop ex_Span (fun w => Span.run_eqIn x y w) (fun xs ys w => Span.run_guard op X Y xs ys w) ho hx hy
theorem eql_Span {s : Slots} {h : Heap} {o : Oper} {yt : TypeId} {X Y : Operand} {x y : Span} (ho : o.op = .binOp .eql 84 X Y yt) (hx : evA s X = .agg (eSpan x)) (hy : evA s Y = .agg (eSpan y)) : OkO Try.prog o s h (.bool (decide (x = y))) := eq_Span ho (.inl rfl) hx hy
theorem neq_Span {s : Slots} {h : Heap} {o : Oper} {yt : TypeId} {X Y : Operand} {x y : Span} (ho : o.op = .binOp .neq 84 X Y yt) (hx : evA s X = .agg (eSpan x)) (hy : evA s Y = .agg (eSpan y)) : OkO Try.prog o s h (.bool (!decide (x = y))) := eq_Span ho (.inr rfl) hx hy
end Go.Proofs.Ytffciebjpiljgaa
