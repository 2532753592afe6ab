/- What is wrong of a system, by the document. No condition. -/
import Derived.Test.YtkkmageogkkchaaGreatUDX
import Derived.Test.YtkkmageogkkchaaGreatUDCk
set_option linter.unusedSimpArgs false
set_option linter.unusedVariables false
set_option maxHeartbeats 1000000
namespace Go.Proofs.YtkkmageogkkchaaGreat
set_option maxRecDepth 100000
set_option maxRecDepth 100000
open Go.RowKit
theorem tasksF_all : ∀ (m : Nat) (l : List Task), (tasksF m l).2.2 = 0 → ∀ t ∈ l, (faultF t).2 = 0
  | _, [], _ => fun t ht => by cases ht
  | m, t :: l, h => by
    rw [tasksF] at h
    by_cases hr : (faultF t).2 = 0
    · rw [if_pos hr] at h
      intro x hx
      rcases List.mem_cons.1 hx with rfl | hx
      · exact hr
      · exact tasksF_all _ l h x hx
    · rw [if_neg hr] at h; exact absurd h hr
theorem fault_0 {t : Task} (h : (faultF t).2 = 0) : plainB t = true ∧ (checkF t.code).2 = 0 := by
  rw [faultF] at h
  by_cases hp : plainB t = true
  · rw [if_pos hp] at h
    by_cases hck : (checkF t.code).2 = 0
    · exact ⟨hp, hck⟩
    · rw [if_neg hck] at h; exact absurd h hck
  · rw [if_neg hp] at h; simp at h
theorem sys_task {S : System} (h0 : ¬ (S.tasks.length = 0 ∨ 8 < S.tasks.length ∨ 8 < S.objects.length)) (h : (tasksF 0 S.tasks).2.2 ≠ 0) : sysF S = ((tasksF 0 S.tasks).1, -1, (tasksF 0 S.tasks).2.1, (tasksF 0 S.tasks).2.2) := by
  rw [sysF, if_neg h0, if_pos h]
theorem sys_obj {S : System} (h0 : ¬ (S.tasks.length = 0 ∨ 8 < S.tasks.length ∨ 8 < S.objects.length)) (ht : (tasksF 0 S.tasks).2.2 = 0) (h : (objF S).2.2 ≠ 0) : sysF S = ((objF S).1, (objF S).2.1, -1, (objF S).2.2) := by
  rw [sysF, if_neg h0, if_neg (by simpa using ht), if_pos h]
theorem sys_code {S : System} (h0 : ¬ (S.tasks.length = 0 ∨ 8 < S.tasks.length ∨ 8 < S.objects.length)) (ht : (tasksF 0 S.tasks).2.2 = 0) (ho : (objF S).2.2 = 0) (h : (codeF S 0 S.tasks).2.2.2 ≠ 0) : sysF S = codeF S 0 S.tasks := by
  rw [sysF, if_neg h0, if_neg (by simpa using ht), if_neg (by simpa using ho), if_pos h]
theorem sys_lay {S : System} (h0 : ¬ (S.tasks.length = 0 ∨ 8 < S.tasks.length ∨ 8 < S.objects.length)) (ht : (tasksF 0 S.tasks).2.2 = 0) (ho : (objF S).2.2 = 0) (h : (codeF S 0 S.tasks).2.2.2 = 0) : sysF S = (-1, -1, -1, layE S) := by
  rw [sysF, if_neg h0, if_neg (by simpa using ht), if_neg (by simpa using ho), if_neg (by simpa using h)]
end Go.Proofs.YtkkmageogkkchaaGreat
