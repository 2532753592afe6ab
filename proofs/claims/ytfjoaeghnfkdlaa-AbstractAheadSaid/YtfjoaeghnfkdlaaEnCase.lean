/- The struct Case, over abstract values. No condition. -/
import Derived.Test.YtfjoaeghnfkdlaaAvTop
import Derived.Test.YtfjoaeghnfkdlaaTyCase
import Derived.Test.YtfjoaeghnfkdlaaEnTask
import Derived.Test.YtfjoaeghnfkdlaaEnDue
import Derived.Test.YtfjoaeghnfkdlaaLI
namespace Go.Proofs.Ytfjoaeghnfkdlaa
set_option linter.unusedSimpArgs false
set_option linter.unusedVariables false
set_option maxRecDepth 100000
open Go.RowKit
def eCase (x : Case) : List AV := [.lst 7 (x.l.map eTask), .lst 2 (x.lt.map eDue), .lst 1 (x.dm.map eLI), .int .i64 x.ticks]
theorem br_Case : Br Case.cod eCase := fun w cs x ⟨A_l, c_l, A_lt, c_lt, A_dm, c_dm, h1, hk, l_l, m_l, r_l, l_lt, m_lt, r_lt, l_dm, m_dm, r_dm⟩ => by
  subst h1
  have h_ticks := hk
  exact ((((L2.nil _).cons (.int _ _ (rangeP_wf.2 h_ticks))).cons (br_row br_LI (fun _ => rfl) r_dm l_dm m_dm)).cons (br_row br_Due (fun _ => rfl) r_lt l_lt m_lt)).cons (br_row br_Task (fun _ => rfl) r_l l_l m_l)
end Go.Proofs.Ytfjoaeghnfkdlaa
