/- The struct Ask of law 5, over abstract values. No condition. -/
import Derived.Test.YtfjoaeghnfkdlaaAvTop
import Derived.Test.YtfjoaeghnfkdlaaTyAsk05
import Derived.Test.YtfjoaeghnfkdlaaEnDue
namespace Go.Proofs.Ytfjoaeghnfkdlaa
set_option linter.unusedSimpArgs false
set_option linter.unusedVariables false
set_option maxRecDepth 100000
open Go.RowKit
def eAsk05 (x : Ask05) : List AV := [.int .i64 x.kind, .int .i64 x.d.at_, .int .i64 x.d.task, .int .i64 x.t]
theorem br_Ask05 : Br Ask05.cod eAsk05 := fun w cs x ⟨h1, h2⟩ => by
  subst h1
  obtain ⟨h_kind, ⟨h_at, h_task⟩, h_t⟩ := h2
  exact ((((L2.nil _).cons (.int _ _ (rangeP_wf.2 h_t))).cons (.int _ _ (rangeP_wf.2 h_task))).cons (.int _ _ (rangeP_wf.2 h_at))).cons (.int _ _ (rangeP_wf.2 h_kind))
end Go.Proofs.Ytfjoaeghnfkdlaa
