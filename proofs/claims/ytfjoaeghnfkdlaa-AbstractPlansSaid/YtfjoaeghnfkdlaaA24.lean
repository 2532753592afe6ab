/- Law 30: the plan is what comes tick by tick. No condition. -/
import Derived.Test.YtfjoaeghnfkdlaaA23
import Derived.Test.YtfjoaeghnfkdlaaA14
import Derived.Test.YtfjoaeghnfkdlaaA11
import Derived.Test.YtfjoaeghnfkdlaaA7
set_option linter.unusedSimpArgs false
set_option linter.unusedVariables false
set_option maxHeartbeats 1000000
namespace Go.Proofs.Ytfjoaeghnfkdlaa
set_option linter.unusedSimpArgs false
set_option linter.unusedVariables false
set_option maxRecDepth 100000
set_option linter.unusedVariables false
set_option linter.unusedSimpArgs false
set_option maxRecDepth 100000
open Go.RowKit
set_option maxHeartbeats 4000000 in
theorem abstractPlans_fn (l : List Task) (lt : List Due) (dm : List (List Int)) (ticks : Int) : Fn Try.prog 11 [.agg [.lst 7 (l.map eTask), .lst 2 (lt.map eDue), .lst 1 (dm.map eLI), .int .i64 ticks]] (.bool true) := by
  have ha := awake30_fn
  have hli := light30_fn l lt dm ticks
  refine fnb Try.func11 (entered_of (by kernel_rfl)) rfl rfl rfl ?_
  by_cases hl : (lightB l lt dm 0 && decide (ticks ≤ 500)) = true
  case neg =>
    rw [Bool.not_eq_true] at hl
    rw [hl] at hli
    repeat' (first | (show W _ _ _ _ _ _; first | apply kA | refine kB rfl ?_ | refine kC rfl rfl ?_ | refine kD rfl rfl ?_ | apply kE | apply kF | apply kG | apply kH | refine kI (by kernel_rfl) (by kernel_rfl) ?_) | (show O _ _ _ _ _ _ _; first | (show O _ _ _ _ (⟨_, .store _ _ _, _, _, _, _⟩ :: _) _ _; refine kJ rfl rfl rfl rfl rfl rfl rfl rfl rfl rfl rfl ?_) | apply kK) | apply kL | ((first | apply kM | apply kN); (iterate 3 (· exact rfl)); (· first | (show Y _ ⟨_, .call ⟨.value _, _, _⟩, _, _, _, _⟩ _ _ _; first | exact q_c (ha) rfl | exact q_c (hli) rfl) | exact ya)) | refine kO rfl rfl rfl rfl rfl ?_ | refine kP rfl rfl rfl ?_ | ((first | refine kQ rfl rfl ?_ ?_ | refine kR rfl rfl rfl rfl rfl ?_ ?_ | refine kS rfl rfl rfl ?_ ?_) <;> intro hc <;> (try simp only [KL, cond_true, cond_false, beq_iff_eq, bne_iff_ne, ne_eq, reduceCtorEq] at hc) <;> (try (have hT : True := hc; clear hT hc)) <;> (try (exfalso; omega))) | apply kT | apply kU | apply kV | apply kW | refine kX rfl ?_ | apply kY | apply kZ)
    all_goals first | (exfalso; omega) | exact retq rfl rfl
  rw [hl] at hli
  have hlen : l.length ≤ 20 ∧ lt.length ≤ 200 ∧ ticks ≤ 500 := by
    simp only [lightB, fewQ, Bool.and_eq_true, decide_eq_true_eq] at hl
    omega
  obtain ⟨h1, h2, h3⟩ := hlen
  obtain ⟨p1, p2, p3⟩ := plan_run l lt dm ticks (by omega)
  obtain ⟨q1, q2⟩ := plan_lens l lt dm ticks (by omega) h2 h3
  have c1 := run30_fn l lt dm ticks (by omega) (by omega) (by omega)
  have c2 := timeline_fn l lt dm ticks (by omega) (by omega)
  have c3 := jobs30_fn l lt dm ticks (by omega) (by omega) q1
  have c4 := overs30_fn l lt dm ticks (by omega) (by omega) q2
  rw [p1] at c2
  rw [p2] at c3
  rw [p3] at c4
  clear p1 p2 p3 q1 q2 hl
  generalize (runR (ahB l) l dm (sortD lt) (ticksN ticks)).2 = tk at *
  generalize (runR (ahB l) l dm (sortD lt) (ticksN ticks)).1.all.map (missJ (ticksN ticks)) = js at *
  generalize (runR (ahB l) l dm (sortD lt) (ticksN ticks)).1.overs = os at *
  have d1 := pl_Ints tk tk
  have d2 := pl_Jobs js js
  have d3 := pl_Dues os os
  rw [decide_eq_true rfl] at d1 d2 d3
  repeat' (first | (show W _ _ _ _ _ _; first | apply kA | refine kB rfl ?_ | refine kC rfl rfl ?_ | refine kD rfl rfl ?_ | apply kE | apply kF | apply kG | apply kH | refine kI (by kernel_rfl) (by kernel_rfl) ?_) | (show O _ _ _ _ _ _ _; first | (show O _ _ _ _ (⟨_, .store _ _ _, _, _, _, _⟩ :: _) _ _; refine kJ rfl rfl rfl rfl rfl rfl rfl rfl rfl rfl rfl ?_) | apply kK) | apply kL | ((first | apply kM | apply kN); (iterate 3 (· exact rfl)); (· first | (show Y _ ⟨_, .call ⟨.value _, _, _⟩, _, _, _, _⟩ _ _ _; first | exact q_c (ha) rfl | exact q_c (hli) rfl) | exact ya)) | refine kO rfl rfl rfl rfl rfl ?_ | refine kP rfl rfl rfl ?_ | ((first | refine kQ rfl rfl ?_ ?_ | refine kR rfl rfl rfl rfl rfl ?_ ?_ | refine kS rfl rfl rfl ?_ ?_) <;> intro hc <;> (try simp only [KL, cond_true, cond_false, beq_iff_eq, bne_iff_ne, ne_eq, reduceCtorEq] at hc) <;> (try (have hT : True := hc; clear hT hc)) <;> (try (exfalso; omega))) | apply kT | apply kU | apply kV | apply kW | refine kX rfl ?_ | apply kY | apply kZ)
  all_goals first | (exfalso; omega) | skip
  refine oturn (turn_dummy eI 10 3 1 (by omega) rfl) ?_
  refine zcall (fun i => i + 5) (c1) rfl rfl leh rfl rfl rfl rfl rfl rfl (fun r h' hR => ?_)
  obtain ⟨rfl, rfl⟩ := hR
  refine ⟨rfl, rfl, ?_⟩
  repeat' (first | (show W _ _ _ _ _ _; first | apply kA | refine kB rfl ?_ | refine kC rfl rfl ?_ | refine kD rfl rfl ?_ | apply kE | apply kF | apply kG | apply kH | refine kI (by kernel_rfl) (by kernel_rfl) ?_) | (show O _ _ _ _ _ _ _; first | (show O _ _ _ _ (⟨_, .alloc _, _, _, _, _⟩ :: _) _ _; first | refine ao_alloc (id := 11) rfl rfl rfl rfl rfl rfl rfl ?_) | (show O _ _ _ _ (⟨_, .store _ _ _, _, _, _, _⟩ :: _) _ _; refine kJ rfl rfl rfl rfl rfl rfl rfl rfl rfl rfl rfl ?_) | apply kK) | apply kL | ((first | apply kM | apply kN); (iterate 3 (· exact rfl)); (· first | (show Y _ ⟨_, .call ⟨.value _, _, _⟩, _, _, _, _⟩ _ _ _; first | exact q_c (ha) rfl | exact q_c (c2) rfl | exact q_c (c3) rfl | exact q_c (c4) rfl | exact q_c (d1) rfl | exact q_c (d2) rfl | exact q_c (d3) rfl) | exact ya)) | refine kO rfl rfl rfl rfl rfl ?_ | refine kP rfl rfl rfl ?_ | ((first | refine kQ rfl rfl ?_ ?_ | refine kR rfl rfl rfl rfl rfl ?_ ?_ | refine kS rfl rfl rfl ?_ ?_) <;> intro hc <;> (try simp only [KL, cond_true, cond_false, beq_iff_eq, bne_iff_ne, ne_eq, reduceCtorEq] at hc) <;> (try (have hT : True := hc; clear hT hc)) <;> (try (exfalso; omega))) | apply kT | apply kU | apply kV | apply kW | refine kX rfl ?_ | apply kY | apply kZ)
  exact retq rfl rfl
end Go.Proofs.Ytfjoaeghnfkdlaa
namespace Go.Proofs.Ytfjoaeghnfkdlaa
set_option maxRecDepth 100000
open Go.RowKit Go.ChangeShapes Go.WideShapes

structure Case where
  l : List Task
  lt : List Due
  dm : List (List Int)
  ticks : Int
instance : Inhabited Case := ⟨⟨[], [], [], 0⟩⟩
theorem Case.ext_ {x y : Case} (h : x.l = y.l ∧ x.lt = y.lt ∧ x.dm = y.dm ∧ x.ticks = y.ticks) : x = y := by cases x; cases y; simp_all
instance : DecidableEq Case := fun x y => decidable_of_iff (x.l = y.l ∧ x.lt = y.lt ∧ x.dm = y.dm ∧ x.ticks = y.ticks) ⟨Case.ext_, fun h => by subst h; simp⟩
def Case.ok (x : Case) : Prop := (Lit.int .i64 x.ticks).wf = true
def Case.cod : Cod Case := fun w cs x => ∃ (A_l : Option Addr) (c_l : Nat) (A_lt : Option Addr) (c_lt : Nat) (A_dm : Option Addr) (c_dm : Nat), cs = [.slice A_l x.l.length c_l, .slice A_lt x.lt.length c_lt, .slice A_dm x.dm.length c_dm, .int .i64 x.ticks] ∧ x.ok ∧ x.l.length ≤ c_l ∧ c_l ≤ maxLen ∧ Row Task.cod 7 w A_l x.l ∧ x.lt.length ≤ c_lt ∧ c_lt ≤ maxLen ∧ Row Due.cod 2 w A_lt x.lt ∧ x.dm.length ≤ c_dm ∧ c_dm ≤ maxLen ∧ Row (cSlice (cInt .i64) 1) 1 w A_dm x.dm
theorem Case.mono : Mono Case.cod := fun _ _ _ _ he ⟨A_l, c_l, A_lt, c_lt, A_dm, c_dm, h, hk, l_l, m_l, r_l, l_lt, m_lt, r_lt, l_dm, m_dm, r_dm⟩ => ⟨A_l, c_l, A_lt, c_lt, A_dm, c_dm, h, hk, l_l, m_l, r_l.ext Task.mono he, l_lt, m_lt, r_lt.ext Due.mono he, l_dm, m_dm, r_dm.ext (Mono.slice (Mono.int _) 1) he⟩
theorem Case.size {w : World} {cs : List Value} {x : Case} (h : Case.cod w cs x) : cs.length = 4 := by obtain ⟨A_l, c_l, A_lt, c_lt, A_dm, c_dm, h, _⟩ := h; rw [h]; rfl
theorem Case.at {w : World} {b off : Nat} {xs : List Case} (h : Row' Case.cod 4 w b off xs) (i : Nat) (hi : i < xs.length) :
    ∃ (A_l : Option Addr) (c_l : Nat) (A_lt : Option Addr) (c_lt : Nat) (A_dm : Option Addr) (c_dm : Nat), w.cell? ⟨b, off + i * 4, none⟩ = some (.slice A_l xs[i].l.length c_l) ∧ w.cell? ⟨b, off + i * 4 + 1, none⟩ = some (.slice A_lt xs[i].lt.length c_lt) ∧ w.cell? ⟨b, off + i * 4 + 2, none⟩ = some (.slice A_dm xs[i].dm.length c_dm) ∧ w.cell? ⟨b, off + i * 4 + 3, none⟩ = some (.int .i64 xs[i].ticks) ∧ xs[i].ok ∧ xs[i].l.length ≤ c_l ∧ c_l ≤ maxLen ∧ Row Task.cod 7 w A_l xs[i].l ∧ xs[i].lt.length ≤ c_lt ∧ c_lt ≤ maxLen ∧ Row Due.cod 2 w A_lt xs[i].lt ∧ xs[i].dm.length ≤ c_dm ∧ c_dm ≤ maxLen ∧ Row (cSlice (cInt .i64) 1) 1 w A_dm xs[i].dm := by
  obtain ⟨cs, hx, _, hc⟩ := h i xs[i] (List.getElem?_eq_getElem hi)
  obtain ⟨A_l, c_l, A_lt, c_lt, A_dm, c_dm, rfl, hk, l_l, m_l, r_l, l_lt, m_lt, r_lt, l_dm, m_dm, r_dm⟩ := hx
  exact ⟨A_l, c_l, A_lt, c_lt, A_dm, c_dm, hc 0 _ rfl, hc 1 _ rfl, hc 2 _ rfl, hc 3 _ rfl, hk, l_l, m_l, r_l, l_lt, m_lt, r_lt, l_dm, m_dm, r_dm⟩
end Go.Proofs.Ytfjoaeghnfkdlaa
namespace Go.Proofs.Ytfjoaeghnfkdlaa
set_option maxRecDepth 100000
open Go.RowKit
theorem br_LI : Br (cSlice (cInt .i64) 1) eLI := fun w cs x ⟨A, c, h1, h2, h3, h4⟩ => by
  subst h1
  exact (L2.nil _).cons (br_row br_int (fun _ => rfl) h4 h2 h3)
end Go.Proofs.Ytfjoaeghnfkdlaa
namespace Go.Proofs.Ytfjoaeghnfkdlaa
set_option maxRecDepth 100000
open Go.RowKit
def eCase (x : Case) : List AV := [.lst 7 (x.l.map eTask), .lst 2 (x.lt.map eDue), .lst 1 (x.dm.map eLI), .int .i64 x.ticks]
theorem br_Case : Br Case.cod eCase := fun w cs x ⟨A_l, c_l, A_lt, c_lt, A_dm, c_dm, h1, hk, l_l, m_l, r_l, l_lt, m_lt, r_lt, l_dm, m_dm, r_dm⟩ => by
  subst h1
  have h_ticks := hk
  exact ((((L2.nil _).cons (.int _ _ (rangeP_wf.2 h_ticks))).cons (br_row br_LI (fun _ => rfl) r_dm l_dm m_dm)).cons (br_row br_Due (fun _ => rfl) r_lt l_lt m_lt)).cons (br_row br_Task (fun _ => rfl) r_l l_l m_l)
end Go.Proofs.Ytfjoaeghnfkdlaa
