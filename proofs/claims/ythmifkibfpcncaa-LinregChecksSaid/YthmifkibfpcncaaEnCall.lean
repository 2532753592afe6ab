/- The struct Call, over abstract values. No condition. -/
import Derived.Test.YthmifkibfpcncaaAvTop
import Derived.Test.YthmifkibfpcncaaTyCall
namespace Go.Proofs.Ythmifkibfpcncaa
set_option linter.unusedSimpArgs false
set_option linter.unusedVariables false
set_option maxRecDepth 100000
open Go.RowKit
def eCall (x : Call) : List AV := [.int .i64 x.proc, .int .i64 x.object, .int .i64 x.op, .lst 1 (x.rc.map eU), .int .i64 x.code, .int .i64 x.begin_, .int .i64 x.fin]
theorem br_Call : Br Call.cod eCall := fun w cs x ⟨A_rc, c_rc, h1, hk, l_rc, m_rc, r_rc⟩ => by
  subst h1
  obtain ⟨h_proc, h_object, h_op, h_code, h_begin_, h_fin⟩ := hk
  exact (((((((L2.nil _).cons (.int _ _ (rangeP_wf.2 h_fin))).cons (.int _ _ (rangeP_wf.2 h_begin_))).cons (.int _ _ (rangeP_wf.2 h_code))).cons (br_row br_u32 (fun _ => rfl) r_rc l_rc m_rc)).cons (.int _ _ (rangeP_wf.2 h_op))).cons (.int _ _ (rangeP_wf.2 h_object))).cons (.int _ _ (rangeP_wf.2 h_proc))
end Go.Proofs.Ythmifkibfpcncaa
