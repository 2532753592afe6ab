/- The struct Case29: its cells, and how they are read; no condition. -/
import Derived.Test.YtfjoaeghnfkdlaaGreatDoorB16
import Derived.Test.YtfjoaeghnfkdlaaGreatDoorB13
import Derived.Test.YtfjoaeghnfkdlaaGreatDoorB8
set_option linter.unusedSimpArgs false
set_option linter.unusedVariables false
set_option maxHeartbeats 1000000
set_option maxRecDepth 100000
namespace Go.Proofs.YtfjoaeghnfkdlaaGreatDoor
open Go.RowKit Go.ChangeShapes Go.WideShapes

structure Case29 where
 l : List Task
 lt : List Due
 dm : List (List Int)
 ticks : Int
instance : Inhabited Case29 := ⟨⟨[], [], [], 0⟩⟩
theorem Case29.ext_ {x y : Case29} (h : x.l = y.l ∧ x.lt = y.lt ∧ x.dm = y.dm ∧ x.ticks = y.ticks) : x = y := by cases x; cases y; simp_all
instance : DecidableEq Case29 := fun x y => decidable_of_iff (x.l = y.l ∧ x.lt = y.lt ∧ x.dm = y.dm ∧ x.ticks = y.ticks) ⟨Case29.ext_, fun h => by subst h; simp⟩
def Case29.ok (x : Case29) : Prop := (Lit.int .i64 x.ticks).wf = true
def Case29.cod : Cod Case29 := fun w cs x => ∃ (A_l : Option Addr) (c_l : Nat) (A_lt : Option Addr) (c_lt : Nat) (A_dm : Option Addr) (c_dm : Nat), cs = [.slice A_l x.l.length c_l, .slice A_lt x.lt.length c_lt, .slice A_dm x.dm.length c_dm, .int .i64 x.ticks] ∧ x.ok ∧ x.l.length <= c_l ∧ c_l <= maxLen ∧ Row Task.cod 7 w A_l x.l ∧ x.lt.length <= c_lt ∧ c_lt <= maxLen ∧ Row Due.cod 2 w A_lt x.lt ∧ x.dm.length <= c_dm ∧ c_dm <= maxLen ∧ Row (V4 (ZN .i64) 1) 1 w A_dm x.dm
theorem Case29.mono : Mono Case29.cod := fun _ _ _ _ he ⟨A_l, c_l, A_lt, c_lt, A_dm, c_dm, h, hk, l_l, m_l, r_l, l_lt, m_lt, r_lt, l_dm, m_dm, r_dm⟩ => ⟨A_l, c_l, A_lt, c_lt, A_dm, c_dm, h, hk, l_l, m_l, r_l.ext Task.mono he, l_lt, m_lt, r_lt.ext Due.mono he, l_dm, m_dm, r_dm.ext (Mono.slice (Mono.int _) 1) he⟩
theorem Case29.size {w : World} {cs : List Value} {x : Case29} (h : Case29.cod w cs x) : cs.length = 4 := by obtain ⟨A_l, c_l, A_lt, c_lt, A_dm, c_dm, h, _⟩ := h; rw [h]; rfl
theorem Case29.at {w : World} {b off : Nat} {xs : List Case29} (h : Row' Case29.cod 4 w b off xs) (i : Nat) (hi : i < xs.length) :
  ∃ (A_l : Option Addr) (c_l : Nat) (A_lt : Option Addr) (c_lt : Nat) (A_dm : Option Addr) (c_dm : Nat), w.cell? ⟨b, off + i * 4, none⟩ = some (.slice A_l xs[i].l.length c_l) ∧ w.cell? ⟨b, off + i * 4 + 1, none⟩ = some (.slice A_lt xs[i].lt.length c_lt) ∧ w.cell? ⟨b, off + i * 4 + 2, none⟩ = some (.slice A_dm xs[i].dm.length c_dm) ∧ w.cell? ⟨b, off + i * 4 + 3, none⟩ = some (.int .i64 xs[i].ticks) ∧ xs[i].ok ∧ xs[i].l.length <= c_l ∧ c_l <= maxLen ∧ Row Task.cod 7 w A_l xs[i].l ∧ xs[i].lt.length <= c_lt ∧ c_lt <= maxLen ∧ Row Due.cod 2 w A_lt xs[i].lt ∧ xs[i].dm.length <= c_dm ∧ c_dm <= maxLen ∧ Row (V4 (ZN .i64) 1) 1 w A_dm xs[i].dm := by
 obtain ⟨cs, hx, _, hc⟩ := h i xs[i] (List.getElem?_eq_getElem hi)
 obtain ⟨A_l, c_l, A_lt, c_lt, A_dm, c_dm, rfl, hk, l_l, m_l, r_l, l_lt, m_lt, r_lt, l_dm, m_dm, r_dm⟩ := hx
 exact ⟨A_l, c_l, A_lt, c_lt, A_dm, c_dm, hc 0 _ rfl, hc 1 _ rfl, hc 2 _ rfl, hc 3 _ rfl, hk, l_l, m_l, r_l, l_lt, m_lt, r_lt, l_dm, m_dm, r_dm⟩
end Go.Proofs.YtfjoaeghnfkdlaaGreatDoor
namespace Go.Proofs.YtfjoaeghnfkdlaaGreatDoor
open Go.RowKit
theorem j6f : Br (V4 (ZN .i64) 1) eLI := fun w cs x ⟨A, c, h1, h2, h3, h4⟩ => by
 subst h1
 exact (L2.nil _).cons (Qd j6G (fun _ => rfl) h4 h2 h3)
def j42 (x : Case29) : List AV := [.lst 7 (x.l.map jJ), .lst 2 (x.lt.map jD), .lst 1 (x.dm.map eLI), .int .i64 x.ticks]
theorem br_Case29 : Br Case29.cod j42 := fun w cs x ⟨A_l, c_l, A_lt, c_lt, A_dm, c_dm, h1, hk, l_l, m_l, r_l, l_lt, m_lt, r_lt, l_dm, m_dm, r_dm⟩ => by
 subst h1
 have h_ticks := hk
 exact ((((L2.nil _).cons (.int _ _ (qc.2 h_ticks))).cons (Qd j6f (fun _ => rfl) r_dm l_dm m_dm)).cons (Qd j5w (fun _ => rfl) r_lt l_lt m_lt)).cons (Qd j46 (fun _ => rfl) r_l l_l m_l)
end Go.Proofs.YtfjoaeghnfkdlaaGreatDoor
