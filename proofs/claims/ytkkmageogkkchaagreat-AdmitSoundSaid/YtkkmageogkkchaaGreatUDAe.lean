/- The verdict by the document; the example; the statement AdmitChecks. No condition. -/
import Derived.Test.YtkkmageogkkchaaGreatUDX
import Derived.Test.YtkkmageogkkchaaGreatUDAd
set_option linter.unusedSimpArgs false
set_option linter.unusedVariables false
set_option maxHeartbeats 1000000
namespace Go.Proofs.YtkkmageogkkchaaGreat
set_option maxRecDepth 100000
set_option maxRecDepth 100000
open Go.RowKit
def t40 (d : Int) : Task := ⟨1, 0, 9, 0, d, 1, [nopX, nopX, nopX, nopX, doneX]⟩
def s40 (d : Int) : System := ⟨[t40 d], []⟩
theorem ok40 (d : Int) : OkS (s40 d) := ok2 _ (by simp [s40]) (by simp [s40, t40]) (by simp [s40])
theorem verd40 : verd (s40 4) = ⟨13, 0, -1, []⟩ ∧ verd (s40 5) = ⟨0, -1, -1, [5]⟩ := by decide +kernel
theorem awake40_fn : Fn Tryz.prog 43 [] (.bool true) := by
  have c1 : Fn Tryz.prog 46 [.agg [.lst 7 ((s40 4).tasks.map eTask), .nils]] _ := (check40_fn (s40 4) (ok40 4)).le (by repeat' (first | exact L2.nil _ | refine L2.cons ?_ ?_ | exact LeV.of_eq rfl | exact LeV.nils _ | refine LeV.agg ?_))
  have c2 : Fn Tryz.prog 46 [.agg [.lst 7 ((s40 5).tasks.map eTask), .nils]] _ := (check40_fn (s40 5) (ok40 5)).le (by repeat' (first | exact L2.nil _ | refine L2.cons ?_ ?_ | exact LeV.of_eq rfl | exact LeV.nils _ | refine LeV.agg ?_))
  rw [verd40.1] at c1
  rw [verd40.2] at c2
  have c3 := pl_Ints [5] [5]
  rw [decide_eq_true rfl] at c3
  refine fnb Tryz.func43 (entered_of (by kernel_rfl)) rfl rfl rfl ?_
  repeat' (first | refine sA ?_ | (show O _ _ _ _ _ _ _; first | refine ao_alloc (id := 10) rfl rfl rfl rfl rfl rfl rfl ?_ | refine ao_alloc (id := 11) rfl rfl rfl rfl rfl rfl rfl ?_) | ((first | apply kM | apply kN); (iterate 3 (· exact rfl)); (· first | exact ya | exact q_c (c1) rfl | exact q_c (c2) rfl | exact q_c (c3) rfl)) | refine sG ?_ | (refine sK ?_ ?_ <;> intro hc <;> (try simp only [KL, sL, reduceCtorEq] at hc) <;> (try (exfalso; omega))))
  all_goals exact retq rfl rfl
end Go.Proofs.YtkkmageogkkchaaGreat
