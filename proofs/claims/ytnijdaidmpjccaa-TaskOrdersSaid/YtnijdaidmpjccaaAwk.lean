/- The chapter's examples, over abstract values. No condition. -/
import Derived.Test.YtnijdaidmpjccaaFnC
import Derived.Test.YtnijdaidmpjccaaTask2
namespace Go.Proofs.Ytnijdaidmpjccaa
set_option linter.unusedSimpArgs false
set_option linter.unusedVariables false
set_option maxRecDepth 100000
open Go.RowKit
theorem awake26_fn : Fn Try.prog 11 [] (.bool true) := fn_of_calls (entered_of (by kernel_rfl)) fun σ ι w vs hv => by
  rw [L2.nil_iff] at hv; subst hv
  exact ⟨.bool true, fun _ => .bool _, awake26 w⟩
end Go.Proofs.Ytnijdaidmpjccaa
