/- The struct Object, over abstract values. No condition. -/
import Derived.Test.YtkkmageogkkchaaAvTop
import Derived.Test.YtkkmageogkkchaaTyObject
namespace Go.Proofs.Ytkkmageogkkchaa
set_option linter.unusedSimpArgs false
set_option linter.unusedVariables false
set_option maxRecDepth 100000
open Go.RowKit
def eObject (x : Object) : List AV := [.int .i64 x.kind, .int .i64 x.width, .int .i64 x.slots, .int .i64 x.cap, .int .u32 x.start, .lst 1 (x.init.map eU), .int .i64 x.writer, .lst 1 (x.readers.map eI)]
theorem br_Object : Br Object.cod eObject := fun w cs x ⟨A_init, c_init, A_readers, c_readers, h1, hk, l_init, m_init, r_init, l_readers, m_readers, r_readers⟩ => by
  subst h1
  obtain ⟨h_kind, h_width, h_slots, h_cap, h_start, h_writer⟩ := hk
  exact ((((((((L2.nil _).cons (br_row br_int (fun _ => rfl) r_readers l_readers m_readers)).cons (.int _ _ (rangeP_wf.2 h_writer))).cons (br_row br_u32 (fun _ => rfl) r_init l_init m_init)).cons (.int _ _ (rangeP_wf.2 h_start))).cons (.int _ _ (rangeP_wf.2 h_cap))).cons (.int _ _ (rangeP_wf.2 h_slots))).cons (.int _ _ (rangeP_wf.2 h_width))).cons (.int _ _ (rangeP_wf.2 h_kind))
end Go.Proofs.Ytkkmageogkkchaa
