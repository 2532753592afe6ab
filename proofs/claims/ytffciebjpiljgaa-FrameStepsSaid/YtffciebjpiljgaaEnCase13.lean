/- The struct Case13, over abstract values. No condition. -/
import Derived.Test.YtffciebjpiljgaaAvTop
import Derived.Test.YtffciebjpiljgaaTyCase13
import Derived.Test.YtffciebjpiljgaaEnInstr
namespace Go.Proofs.Ytffciebjpiljgaa
set_option linter.unusedSimpArgs false
set_option linter.unusedVariables false
set_option maxRecDepth 100000
open Go.RowKit
def eCase13 (x : Case13) : List AV := [.int .i64 x.pc, .int .u32 x.r0, .int .u32 x.r1, .int .u32 x.r2, .int .u32 x.r3, .int .u32 x.r4, .int .u32 x.r5, .int .u32 x.r6, .int .u32 x.r7, .lst 1 (x.tn.map eI), .lst 5 (x.p.map eInstr), .lst 1 (x.l.map eU), .int .i64 x.at_, .int .i64 x.len]
theorem br_Case13 : Br Case13.cod eCase13 := fun w cs x ⟨A_tn, c_tn, A_p, c_p, A_l, c_l, h1, hk, l_tn, m_tn, r_tn, l_p, m_p, r_p, l_l, m_l, r_l⟩ => by
  subst h1
  obtain ⟨h_pc, h_r0, h_r1, h_r2, h_r3, h_r4, h_r5, h_r6, h_r7, h_at_, h_len⟩ := hk
  exact ((((((((((((((L2.nil _).cons (.int _ _ (rangeP_wf.2 h_len))).cons (.int _ _ (rangeP_wf.2 h_at_))).cons (br_row br_u32 (fun _ => rfl) r_l l_l m_l)).cons (br_row br_Instr (fun _ => rfl) r_p l_p m_p)).cons (br_row br_int (fun _ => rfl) r_tn l_tn m_tn)).cons (.int _ _ (rangeP_wf.2 h_r7))).cons (.int _ _ (rangeP_wf.2 h_r6))).cons (.int _ _ (rangeP_wf.2 h_r5))).cons (.int _ _ (rangeP_wf.2 h_r4))).cons (.int _ _ (rangeP_wf.2 h_r3))).cons (.int _ _ (rangeP_wf.2 h_r2))).cons (.int _ _ (rangeP_wf.2 h_r1))).cons (.int _ _ (rangeP_wf.2 h_r0))).cons (.int _ _ (rangeP_wf.2 h_pc))
end Go.Proofs.Ytffciebjpiljgaa
