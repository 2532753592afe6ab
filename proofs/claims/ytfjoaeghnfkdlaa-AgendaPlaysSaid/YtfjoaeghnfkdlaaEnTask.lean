/- The struct Task, over abstract values. No condition. -/
import Derived.Test.YtfjoaeghnfkdlaaAvTop
import Derived.Test.YtfjoaeghnfkdlaaTyTask
import Derived.Test.YtfjoaeghnfkdlaaEnInstr
namespace Go.Proofs.Ytfjoaeghnfkdlaa
set_option linter.unusedSimpArgs false
set_option linter.unusedVariables false
set_option maxRecDepth 100000
open Go.RowKit
def eTask (x : Task) : List AV := [.int .i64 x.kind, .int .i64 x.prio, .int .i64 x.period, .int .i64 x.offset, .int .i64 x.deadline, .int .i64 x.own, .lst 5 (x.code.map eInstr)]
theorem br_Task : Br Task.cod eTask := fun w cs x ⟨A_code, c_code, h1, hk, l_code, m_code, r_code⟩ => by
  subst h1
  obtain ⟨h_kind, h_prio, h_period, h_offset, h_deadline, h_own⟩ := hk
  exact (((((((L2.nil _).cons (br_row br_Instr (fun _ => rfl) r_code l_code m_code)).cons (.int _ _ (rangeP_wf.2 h_own))).cons (.int _ _ (rangeP_wf.2 h_deadline))).cons (.int _ _ (rangeP_wf.2 h_offset))).cons (.int _ _ (rangeP_wf.2 h_period))).cons (.int _ _ (rangeP_wf.2 h_prio))).cons (.int _ _ (rangeP_wf.2 h_kind))
end Go.Proofs.Ytfjoaeghnfkdlaa
