/- The struct System, over abstract values. No condition. -/
import Derived.Test.YtkkmageogkkchaaAvTop
import Derived.Test.YtkkmageogkkchaaTySystem
import Derived.Test.YtkkmageogkkchaaEnTask
import Derived.Test.YtkkmageogkkchaaEnObject
namespace Go.Proofs.Ytkkmageogkkchaa
set_option linter.unusedSimpArgs false
set_option linter.unusedVariables false
set_option maxRecDepth 100000
open Go.RowKit
def eSystem (x : System) : List AV := [.lst 7 (x.tasks.map eTask), .lst 8 (x.objects.map eObject)]
theorem br_System : Br System.cod eSystem := fun w cs x ⟨A_tasks, c_tasks, A_objects, c_objects, h1, _, l_tasks, m_tasks, r_tasks, l_objects, m_objects, r_objects⟩ => by
  subst h1
  exact ((L2.nil _).cons (br_row br_Object (fun _ => rfl) r_objects l_objects m_objects)).cons (br_row br_Task (fun _ => rfl) r_tasks l_tasks m_tasks)
end Go.Proofs.Ytkkmageogkkchaa
