/- The struct Due: its cells, and how they are read; no condition. -/
import Derived.Test.YtfjoaeghnfkdlaaA7
import Derived.WalkKit
set_option linter.unusedSimpArgs false
set_option linter.unusedVariables false
set_option maxHeartbeats 1000000
namespace Go.Proofs.Ytfjoaeghnfkdlaa
set_option maxRecDepth 100000
open Go.RowKit Go.ChangeShapes Go.WideShapes

structure Due where
  at_ : Int
  task : Int
instance : Inhabited Due := ⟨⟨0, 0⟩⟩
theorem Due.ext_ {x y : Due} (h : x.at_ = y.at_ ∧ x.task = y.task) : x = y := by cases x; cases y; simp_all
instance : DecidableEq Due := fun x y => decidable_of_iff (x.at_ = y.at_ ∧ x.task = y.task) ⟨Due.ext_, fun h => by subst h; simp⟩
def Due.cells (x : Due) : List Value := [.int .i64 x.at_, .int .i64 x.task]
def Due.ok (x : Due) : Prop := (Lit.int .i64 x.at_).wf = true ∧ (Lit.int .i64 x.task).wf = true
def Due.cod : Cod Due := fun _ cs x => cs = x.cells ∧ x.ok
theorem Due.mono : Mono Due.cod := fun _ _ _ _ _ h => h
theorem Due.size {w : World} {cs : List Value} {x : Due} (h : Due.cod w cs x) : cs.length = 2 := by rw [h.1]; rfl
theorem Due.at {w : World} {b off : Nat} {xs : List Due} (h : Row' Due.cod 2 w b off xs) (i : Nat) (hi : i < xs.length) :
    w.cell? ⟨b, off + i * 2, none⟩ = some (.int .i64 xs[i].at_) ∧ w.cell? ⟨b, off + i * 2 + 1, none⟩ = some (.int .i64 xs[i].task) ∧ xs[i].ok := by
  obtain ⟨cs, hx, _, hc⟩ := h i xs[i] (List.getElem?_eq_getElem hi)
  obtain ⟨rfl, hk⟩ := hx
  exact ⟨hc 0 _ rfl, hc 1 _ rfl, hk⟩
theorem Due.run_eqIn (x y : Due) (w : World) : (Op.equalIn 10000 41 (.agg #[.int .i64 x.at_, .int .i64 x.task]) (.agg #[.int .i64 y.at_, .int .i64 y.task])).run Try.prog w = .ok (decide (x = y)) w := by
  have hs : Try.prog.stoodInHeld 41 = false := by kernel_rfl
  rw [run_equalIn_agg w 9999 41 _ _ (by simp only [Program.fieldsOf, Try.underlying41]) hs]
  simp only [Program.fieldsOf, Try.underlying41]
  simp [go_sem]
  by_cases h : x = y
  · subst h; simp
  · rw [show decide (x = y) = false from by simp [h]]
    repeat' split
    all_goals first | rfl | exact absurd (Due.ext_ ⟨by assumption, by assumption⟩) h
theorem Due.run_guard (op : BinOp) (xo yo : Operand) (xs ys : Array Value) (w : World) : (eqGuard op 41 xo yo (.agg xs) (.agg ys)).run Try.prog w = .ok () w := run_eqGuard_agg w op 41 xo yo xs ys (by kernel_rfl)
end Go.Proofs.Ytfjoaeghnfkdlaa
namespace Go.Proofs.Ytfjoaeghnfkdlaa
set_option maxRecDepth 100000
open Go.RowKit
def eDue (x : Due) : List AV := [.int .i64 x.at_, .int .i64 x.task]
theorem br_Due : Br Due.cod eDue := fun w cs x ⟨h1, h2⟩ => by
  subst h1
  obtain ⟨h_at_, h_task⟩ := h2
  exact ((L2.nil _).cons (.int _ _ (rangeP_wf.2 h_task))).cons (.int _ _ (rangeP_wf.2 h_at_))
theorem ex_Due : ∀ σ ι x vs, L2 (VR σ ι) (eDue x) vs → vs = Due.cells x := fun σ ι x vs h => by
  obtain ⟨u0, r0, rfl, h0, h⟩ := L2.cons_inv h
  obtain ⟨u1, r1, rfl, h1, h⟩ := L2.cons_inv h
  rw [L2.nil_iff] at h
  subst h
  rw [h0.int_inv.1, h1.int_inv.1]
  rfl
theorem eq_Due {s : Slots} {h : Heap} {o : Oper} {yt : TypeId} {X Y : Operand} {op : BinOp} {x y : Due} (ho : o.op = .binOp op 41 X Y yt) (hop : op = .eql ∨ op = .neq) (hx : evA s X = .agg (eDue x)) (hy : evA s Y = .agg (eDue y)) : OkO Try.prog o s h (.bool (if op = .eql then decide (x = y) else !decide (x = y))) :=
  ok_eqS Due.cells eDue hop ex_Due (fun w => Due.run_eqIn x y w) (fun xs ys w => Due.run_guard op X Y xs ys w) ho hx hy
theorem neq_Due {s : Slots} {h : Heap} {o : Oper} {yt : TypeId} {X Y : Operand} {x y : Due} (ho : o.op = .binOp .neq 41 X Y yt) (hx : evA s X = .agg (eDue x)) (hy : evA s Y = .agg (eDue y)) : OkO Try.prog o s h (.bool (!decide (x = y))) := eq_Due ho (.inr rfl) hx hy
end Go.Proofs.Ytfjoaeghnfkdlaa
namespace Go.Proofs.Ytfjoaeghnfkdlaa
set_option maxRecDepth 100000
open Go.RowKit Go.ChangeShapes Go.WideShapes

structure Job where
  task : Int
  no : Int
  release : Int
  deadline : Int
  start : Int
  fin : Int
  steps : Int
  missed : Bool
instance : Inhabited Job := ⟨⟨0, 0, 0, 0, 0, 0, 0, false⟩⟩
theorem Job.ext_ {x y : Job} (h : x.task = y.task ∧ x.no = y.no ∧ x.release = y.release ∧ x.deadline = y.deadline ∧ x.start = y.start ∧ x.fin = y.fin ∧ x.steps = y.steps ∧ x.missed = y.missed) : x = y := by cases x; cases y; simp_all
instance : DecidableEq Job := fun x y => decidable_of_iff (x.task = y.task ∧ x.no = y.no ∧ x.release = y.release ∧ x.deadline = y.deadline ∧ x.start = y.start ∧ x.fin = y.fin ∧ x.steps = y.steps ∧ x.missed = y.missed) ⟨Job.ext_, fun h => by subst h; simp⟩
def Job.cells (x : Job) : List Value := [.int .i64 x.task, .int .i64 x.no, .int .i64 x.release, .int .i64 x.deadline, .int .i64 x.start, .int .i64 x.fin, .int .i64 x.steps, .bool x.missed]
def Job.ok (x : Job) : Prop := (Lit.int .i64 x.task).wf = true ∧ (Lit.int .i64 x.no).wf = true ∧ (Lit.int .i64 x.release).wf = true ∧ (Lit.int .i64 x.deadline).wf = true ∧ (Lit.int .i64 x.start).wf = true ∧ (Lit.int .i64 x.fin).wf = true ∧ (Lit.int .i64 x.steps).wf = true
def Job.cod : Cod Job := fun _ cs x => cs = x.cells ∧ x.ok
theorem Job.mono : Mono Job.cod := fun _ _ _ _ _ h => h
theorem Job.size {w : World} {cs : List Value} {x : Job} (h : Job.cod w cs x) : cs.length = 8 := by rw [h.1]; rfl
theorem Job.at {w : World} {b off : Nat} {xs : List Job} (h : Row' Job.cod 8 w b off xs) (i : Nat) (hi : i < xs.length) :
    w.cell? ⟨b, off + i * 8, none⟩ = some (.int .i64 xs[i].task) ∧ w.cell? ⟨b, off + i * 8 + 1, none⟩ = some (.int .i64 xs[i].no) ∧ w.cell? ⟨b, off + i * 8 + 2, none⟩ = some (.int .i64 xs[i].release) ∧ w.cell? ⟨b, off + i * 8 + 3, none⟩ = some (.int .i64 xs[i].deadline) ∧ w.cell? ⟨b, off + i * 8 + 4, none⟩ = some (.int .i64 xs[i].start) ∧ w.cell? ⟨b, off + i * 8 + 5, none⟩ = some (.int .i64 xs[i].fin) ∧ w.cell? ⟨b, off + i * 8 + 6, none⟩ = some (.int .i64 xs[i].steps) ∧ w.cell? ⟨b, off + i * 8 + 7, none⟩ = some (.bool xs[i].missed) ∧ xs[i].ok := by
  obtain ⟨cs, hx, _, hc⟩ := h i xs[i] (List.getElem?_eq_getElem hi)
  obtain ⟨rfl, hk⟩ := hx
  exact ⟨hc 0 _ rfl, hc 1 _ rfl, hc 2 _ rfl, hc 3 _ rfl, hc 4 _ rfl, hc 5 _ rfl, hc 6 _ rfl, hc 7 _ rfl, hk⟩
theorem Job.run_eqIn (x y : Job) (w : World) : (Op.equalIn 10000 74 (.agg #[.int .i64 x.task, .int .i64 x.no, .int .i64 x.release, .int .i64 x.deadline, .int .i64 x.start, .int .i64 x.fin, .int .i64 x.steps, .bool x.missed]) (.agg #[.int .i64 y.task, .int .i64 y.no, .int .i64 y.release, .int .i64 y.deadline, .int .i64 y.start, .int .i64 y.fin, .int .i64 y.steps, .bool y.missed])).run Try.prog w = .ok (decide (x = y)) w := by
  have hs : Try.prog.stoodInHeld 74 = false := by kernel_rfl
  rw [run_equalIn_agg w 9999 74 _ _ (by simp only [Program.fieldsOf, Try.underlying74]) hs]
  simp only [Program.fieldsOf, Try.underlying74]
  simp [go_sem]
  by_cases h : x = y
  · subst h; simp
  · rw [show decide (x = y) = false from by simp [h]]
    repeat' split
    all_goals first | rfl | exact absurd (Job.ext_ ⟨by assumption, by assumption, by assumption, by assumption, by assumption, by assumption, by assumption, by assumption⟩) h
theorem Job.run_guard (op : BinOp) (xo yo : Operand) (xs ys : Array Value) (w : World) : (eqGuard op 74 xo yo (.agg xs) (.agg ys)).run Try.prog w = .ok () w := run_eqGuard_agg w op 74 xo yo xs ys (by kernel_rfl)
end Go.Proofs.Ytfjoaeghnfkdlaa
namespace Go.Proofs.Ytfjoaeghnfkdlaa
set_option maxRecDepth 100000
open Go.RowKit
def eJob (x : Job) : List AV := [.int .i64 x.task, .int .i64 x.no, .int .i64 x.release, .int .i64 x.deadline, .int .i64 x.start, .int .i64 x.fin, .int .i64 x.steps, .bool x.missed]
theorem ex_Job : ∀ σ ι x vs, L2 (VR σ ι) (eJob x) vs → vs = Job.cells x := fun σ ι x vs h => by
  obtain ⟨u0, r0, rfl, h0, h⟩ := L2.cons_inv h
  obtain ⟨u1, r1, rfl, h1, h⟩ := L2.cons_inv h
  obtain ⟨u2, r2, rfl, h2, h⟩ := L2.cons_inv h
  obtain ⟨u3, r3, rfl, h3, h⟩ := L2.cons_inv h
  obtain ⟨u4, r4, rfl, h4, h⟩ := L2.cons_inv h
  obtain ⟨u5, r5, rfl, h5, h⟩ := L2.cons_inv h
  obtain ⟨u6, r6, rfl, h6, h⟩ := L2.cons_inv h
  obtain ⟨u7, r7, rfl, h7, h⟩ := L2.cons_inv h
  rw [L2.nil_iff] at h
  subst h
  rw [h0.int_inv.1, h1.int_inv.1, h2.int_inv.1, h3.int_inv.1, h4.int_inv.1, h5.int_inv.1, h6.int_inv.1, h7.bool_inv]
  rfl
theorem eq_Job {s : Slots} {h : Heap} {o : Oper} {yt : TypeId} {X Y : Operand} {op : BinOp} {x y : Job} (ho : o.op = .binOp op 74 X Y yt) (hop : op = .eql ∨ op = .neq) (hx : evA s X = .agg (eJob x)) (hy : evA s Y = .agg (eJob y)) : OkO Try.prog o s h (.bool (if op = .eql then decide (x = y) else !decide (x = y))) :=
  ok_eqS Job.cells eJob hop ex_Job (fun w => Job.run_eqIn x y w) (fun xs ys w => Job.run_guard op X Y xs ys w) ho hx hy
theorem neq_Job {s : Slots} {h : Heap} {o : Oper} {yt : TypeId} {X Y : Operand} {x y : Job} (ho : o.op = .binOp .neq 74 X Y yt) (hx : evA s X = .agg (eJob x)) (hy : evA s Y = .agg (eJob y)) : OkO Try.prog o s h (.bool (!decide (x = y))) := eq_Job ho (.inr rfl) hx hy
end Go.Proofs.Ytfjoaeghnfkdlaa
namespace Go.Proofs.Ytfjoaeghnfkdlaa
set_option maxRecDepth 100000
open Go.RowKit
theorem parts_eq {α : Type} {xs ys : List α} (hl : xs.length = ys.length) : (∀ k, k < xs.length → xs[k]? = ys[k]?) → xs = ys := by
  intro h
  apply List.ext_getElem?
  intro i
  by_cases hi : i < xs.length
  · exact h i hi
  · rw [List.getElem?_eq_none (by omega), List.getElem?_eq_none (by omega)]
theorem get_next {α : Type} [Inhabited α] {xs ys : List α} {k : Nat} (h : xs.getD k default = ys.getD k default) (h1 : k < xs.length) (h2 : k < ys.length) (he : ∀ j, j < k → xs[j]? = ys[j]?) : ∀ j, j < k + 1 → xs[j]? = ys[j]? := fun j hj => by
  rcases Nat.lt_succ_iff_lt_or_eq.1 hj with h' | rfl
  · exact he j h'
  · rw [List.getElem?_eq_getElem h1, List.getElem?_eq_getElem h2]
    simpa [h1, h2] using h
theorem pl_Ints (xs ys : List Int) : Fn Try.prog 15 [.lst 1 (xs.map eI), .lst 1 (ys.map eI)] (.bool (decide (xs = ys))) := by
  refine fnb Try.func15 (entered_of (by kernel_rfl)) rfl rfl rfl ?_
  repeat' (first | refine sA ?_ | ((first | apply kM | apply kN); (iterate 3 (· exact rfl)); (· first | exact ya)) | refine sG ?_ | (refine sK ?_ ?_ <;> intro hc <;> (try simp only [KL, sL, reduceCtorEq] at hc) <;> (try (have hT : True := hc; clear hT hc)) <;> (try (exfalso; omega))))
  · exact retq rfl (congrArg AV.bool (decide_eq_false fun e => hc (by rw [e])).symm)
  · refine wloop (fun k : Nat => ([(0, .lst 1 (xs.map eI)), (1, .lst 1 (ys.map eI)), (12, .int .i64 xs.length), (13, .int .i64 k)], [])) (fun k => k ≤ xs.length ∧ ∀ j, j < k → xs[j]? = ys[j]?) (fun k => xs.length - k) 0 ⟨by omega, fun j hj => by omega⟩ les leh (fun k hk => ?_)
    obtain ⟨hk, he⟩ := hk
    refine wrange 12 rfl (fun hr => ?_)
    simp only [rangeP] at hr
    have hl : xs.length = ys.length := by omega
    repeat' (first | refine sA ?_ | ((first | apply kM | apply kN); (iterate 3 (· exact rfl)); (· first | exact ya)) | refine sG ?_ | (refine sK ?_ ?_ <;> intro hc <;> (try simp only [KL, sL, reduceCtorEq] at hc) <;> (try (have hT : True := hc; clear hT hc)) <;> (try (exfalso; omega))))
    · exact retq rfl (congrArg AV.bool (decide_eq_false fun e => hc (by rw [e])).symm)
    · exact ⟨k + 1, ⟨by omega, get_next hc (by omega) (by omega) he⟩, by omega, les, leh⟩
    · exact retq rfl (congrArg AV.bool (decide_eq_true (parts_eq hl fun j hj => he j (by omega))).symm)
theorem pl_Dues (xs ys : List Due) : Fn Try.prog 19 [.lst 2 (xs.map eDue), .lst 2 (ys.map eDue)] (.bool (decide (xs = ys))) := by
  refine fnb Try.func19 (entered_of (by kernel_rfl)) rfl rfl rfl ?_
  repeat' (first | refine sA ?_ | ((first | apply kM | apply kN); (iterate 3 (· exact rfl)); (· first | exact ya | exact Y.mk (neq_Due rfl rfl rfl))) | refine sG ?_ | (refine sK ?_ ?_ <;> intro hc <;> (try simp only [KL, sL, reduceCtorEq] at hc) <;> (try (have hT : True := hc; clear hT hc)) <;> (try (exfalso; omega))))
  · exact retq rfl (congrArg AV.bool (decide_eq_false fun e => hc (by rw [e])).symm)
  · refine wloop (fun k : Nat => ([(0, .lst 2 (xs.map eDue)), (1, .lst 2 (ys.map eDue)), (12, .int .i64 xs.length), (13, .int .i64 k)], [])) (fun k => k ≤ xs.length ∧ ∀ j, j < k → xs[j]? = ys[j]?) (fun k => xs.length - k) 0 ⟨by omega, fun j hj => by omega⟩ les leh (fun k hk => ?_)
    obtain ⟨hk, he⟩ := hk
    refine wrange 12 rfl (fun hr => ?_)
    simp only [rangeP] at hr
    have hl : xs.length = ys.length := by omega
    repeat' (first | refine sA ?_ | ((first | apply kM | apply kN); (iterate 3 (· exact rfl)); (· first | exact ya | exact Y.mk (neq_Due rfl rfl rfl))) | refine sG ?_ | (refine sK ?_ ?_ <;> intro hc <;> (try simp only [KL, sL, reduceCtorEq] at hc) <;> (try (have hT : True := hc; clear hT hc)) <;> (try (exfalso; omega))))
    · exact retq rfl (congrArg AV.bool (decide_eq_false fun e => hc (by rw [e])).symm)
    · exact ⟨k + 1, ⟨by omega, get_next hc (by omega) (by omega) he⟩, by omega, les, leh⟩
    · exact retq rfl (congrArg AV.bool (decide_eq_true (parts_eq hl fun j hj => he j (by omega))).symm)
theorem pl_Jobs (xs ys : List Job) : Fn Try.prog 39 [.lst 8 (xs.map eJob), .lst 8 (ys.map eJob)] (.bool (decide (xs = ys))) := by
  refine fnb Try.func39 (entered_of (by kernel_rfl)) rfl rfl rfl ?_
  repeat' (first | refine sA ?_ | ((first | apply kM | apply kN); (iterate 3 (· exact rfl)); (· first | exact ya | exact Y.mk (neq_Job rfl rfl rfl))) | refine sG ?_ | (refine sK ?_ ?_ <;> intro hc <;> (try simp only [KL, sL, reduceCtorEq] at hc) <;> (try (have hT : True := hc; clear hT hc)) <;> (try (exfalso; omega))))
  · exact retq rfl (congrArg AV.bool (decide_eq_false fun e => hc (by rw [e])).symm)
  · refine wloop (fun k : Nat => ([(0, .lst 8 (xs.map eJob)), (1, .lst 8 (ys.map eJob)), (12, .int .i64 xs.length), (13, .int .i64 k)], [])) (fun k => k ≤ xs.length ∧ ∀ j, j < k → xs[j]? = ys[j]?) (fun k => xs.length - k) 0 ⟨by omega, fun j hj => by omega⟩ les leh (fun k hk => ?_)
    obtain ⟨hk, he⟩ := hk
    refine wrange 12 rfl (fun hr => ?_)
    simp only [rangeP] at hr
    have hl : xs.length = ys.length := by omega
    repeat' (first | refine sA ?_ | ((first | apply kM | apply kN); (iterate 3 (· exact rfl)); (· first | exact ya | exact Y.mk (neq_Job rfl rfl rfl))) | refine sG ?_ | (refine sK ?_ ?_ <;> intro hc <;> (try simp only [KL, sL, reduceCtorEq] at hc) <;> (try (have hT : True := hc; clear hT hc)) <;> (try (exfalso; omega))))
    · exact retq rfl (congrArg AV.bool (decide_eq_false fun e => hc (by rw [e])).symm)
    · exact ⟨k + 1, ⟨by omega, get_next hc (by omega) (by omega) he⟩, by omega, les, leh⟩
    · exact retq rfl (congrArg AV.bool (decide_eq_true (parts_eq hl fun j hj => he j (by omega))).symm)
end Go.Proofs.Ytfjoaeghnfkdlaa
namespace Go.Proofs.Ytfjoaeghnfkdlaa
set_option maxRecDepth 100000
section
variable {α : Type} {lt : α → α → Bool}
structure SWO (lt : α → α → Bool) : Prop where
  irr : ∀ x, lt x x = false
  tr : ∀ x y z, lt x y = true → lt y z = true → lt x z = true
  nt : ∀ x y z, lt x y = false → lt y z = false → lt x z = false
theorem SWO.asym (h : SWO lt) {x y : α} (hxy : lt x y = true) : lt y x = false := by
  cases hyx : lt y x with
  | false => rfl
  | true => have := h.tr x y x hxy hyx; rw [h.irr] at this; cases this
theorem SWO.tr1 (h : SWO lt) {x y z : α} (hxy : lt x y = true) (hzy : lt z y = false) : lt x z = true := by
  cases hxz : lt x z with
  | true => rfl
  | false => have := h.nt x z y hxz hzy; rw [this] at hxy; cases hxy
theorem SWO.tr2 (h : SWO lt) {x y z : α} (hxy : lt x y = true) (hzx : lt x z = false) : lt z y = true := by
  cases hzy : lt z y with
  | true => rfl
  | false => have := h.nt x z y hzx hzy; rw [this] at hxy; cases hxy
inductive Rch (lt : α → α → Bool) (l : List α) : List α → Prop
  | refl : Rch lt l l
  | step (p q : List α) (u v : α) (h : Rch lt l (p ++ v :: u :: q)) (hl : lt u v = true) : Rch lt l (p ++ u :: v :: q)
theorem Rch.trans {l r t : List α} (h1 : Rch lt l r) (h2 : Rch lt r t) : Rch lt l t := by
  induction h2 with
  | refl => exact h1
  | step p q u v _ hl ih => exact .step p q u v ih hl
theorem Rch.ctx {l r : List α} (h : Rch lt l r) (p q : List α) : Rch lt (p ++ l ++ q) (p ++ r ++ q) := by
  induction h with
  | refl => exact .refl
  | step p' q' u v _ hl ih =>
    have := Rch.step (lt := lt) (p ++ p') (q' ++ q) u v (by simpa using ih) hl
    simpa using this
theorem Rch.perm {l r : List α} (h : Rch lt l r) : r.Perm l := by
  induction h with
  | refl => exact List.Perm.refl _
  | step p q u v _ hl ih => exact (List.Perm.append_left p (List.Perm.swap v u q)).trans ih
theorem Rch.len {l r : List α} (h : Rch lt l r) : r.length = l.length := h.perm.length_eq
theorem Rch.mem {l r : List α} (h : Rch lt l r) {x : α} : x ∈ r ↔ x ∈ l := h.perm.mem_iff
theorem Rch.app {l r l' r' : List α} (h1 : Rch lt l r) (h2 : Rch lt l' r') : Rch lt (l ++ l') (r ++ r') :=
  (by simpa using h1.ctx [] l' : Rch lt (l ++ l') (r ++ l')).trans (by simpa using h2.ctx r [])
theorem Rch.left (x : α) : ∀ (ys : List α), (∀ y ∈ ys, lt x y = true) → Rch lt (ys ++ [x]) (x :: ys)
  | [], _ => .refl
  | y :: ys, h => by
    have h1 := Rch.left x ys fun z hz => h z (List.mem_cons_of_mem _ hz)
    have h2 : Rch lt (y :: ys ++ [x]) (y :: x :: ys) := by simpa using h1.ctx [y] []
    exact Rch.step [] ys x y h2 (h y List.mem_cons_self)
theorem Rch.right (x : α) : ∀ (ys : List α), (∀ y ∈ ys, lt y x = true) → Rch lt (x :: ys) (ys ++ [x])
  | [], _ => .refl
  | y :: ys, h => by
    have h1 : Rch lt (x :: y :: ys) (y :: x :: ys) := Rch.step [] ys y x .refl (h y List.mem_cons_self)
    have h2 := (Rch.right x ys fun z hz => h z (List.mem_cons_of_mem _ hz)).ctx [y] []
    exact h1.trans (by simpa using h2)
theorem Rch.block : ∀ (xs ys : List α), (∀ v ∈ xs, ∀ u ∈ ys, lt u v = true) → Rch lt (xs ++ ys) (ys ++ xs)
  | xs, [], _ => by simpa using Rch.refl
  | xs, y :: ys, h => by
    have h1 : Rch lt (xs ++ [y] ++ ys) (y :: xs ++ ys) := by simpa using (Rch.left y xs fun v hv => h v hv y List.mem_cons_self).ctx [] ys
    have h2 := (Rch.block xs ys fun v hv u hu => h v hv u (List.mem_cons_of_mem _ hu)).ctx [y] []
    have h3 : Rch lt (xs ++ y :: ys) (y :: (xs ++ ys)) := by simpa using h1
    exact h3.trans (by simpa using h2)
def Srt (lt : α → α → Bool) (l : List α) : Prop := l.Pairwise fun a b => lt b a = false
theorem Srt.nil : Srt lt [] := List.Pairwise.nil
theorem Srt.one (x : α) : Srt lt [x] := List.pairwise_singleton _ _
theorem Srt.app {l r : List α} : Srt lt (l ++ r) ↔ Srt lt l ∧ Srt lt r ∧ ∀ a ∈ l, ∀ b ∈ r, lt b a = false := List.pairwise_append
theorem Srt.of_len {l : List α} (h : l.length ≤ 1) : Srt lt l := by
  match l, h with
  | [], _ => exact .nil
  | [x], _ => exact .one x
def StS (lt : α → α → Bool) (l r : List α) : Prop := Rch lt l r ∧ Srt lt r
theorem StS.self {l : List α} (h : Srt lt l) : StS lt l l := ⟨.refl, h⟩
theorem StS.parts (xs1 xs2 ys1 ys2 L R : List α) (h1 : StS lt (xs1 ++ ys1) L) (h2 : StS lt (xs2 ++ ys2) R) (hb : ∀ v ∈ xs2, ∀ u ∈ ys1, lt u v = true) (ha : ∀ u ∈ xs1 ++ ys1, ∀ v ∈ xs2 ++ ys2, lt v u = false) :
    StS lt ((xs1 ++ xs2) ++ (ys1 ++ ys2)) (L ++ R) := by
  refine ⟨?_, Srt.app.2 ⟨h1.2, h2.2, fun a hA b hB => ha a (h1.1.mem.1 hA) b (h2.1.mem.1 hB)⟩⟩
  have h3 : Rch lt ((xs1 ++ xs2) ++ (ys1 ++ ys2)) ((xs1 ++ ys1) ++ (xs2 ++ ys2)) := by
    have := (Rch.block xs2 ys1 hb).ctx xs1 ys2
    simpa using this
  exact h3.trans (h1.1.app h2.1)
theorem Rch.pairs {l r : List α} (h : Rch lt l r) {R : α → α → Prop} (hR : l.Pairwise R) : r.Pairwise fun a b => R a b ∨ lt a b = true := by
  induction h with
  | refl => exact hR.imp fun h => .inl h
  | step p q u v _ hl ih =>
    rw [List.pairwise_append] at ih ⊢
    obtain ⟨h1, h2, h3⟩ := ih
    rw [List.pairwise_cons, List.pairwise_cons] at h2
    refine ⟨h1, ?_, fun a ha b hb => h3 a ha b (by simp only [List.mem_cons] at hb ⊢; rcases hb with h | h | h; exact .inr (.inl h); exact .inl h; exact .inr (.inr h))⟩
    rw [List.pairwise_cons, List.pairwise_cons]
    refine ⟨fun b hb => ?_, fun b hb => h2.1 b (List.mem_cons_of_mem _ hb), h2.2.2⟩
    rcases List.mem_cons.1 hb with rfl | hb
    · exact .inr hl
    · exact h2.2.1 b hb
/-! ## Chunks -/
structure BS (lt : α → α → Bool) (k : Nat) (D : List α) (cs : List (List α)) (c : List α) : Prop where
  eq : D = cs.flatten ++ c
  full : ∀ x ∈ cs, x.length = k ∧ Srt lt x
  len : c.length ≤ k
  srt : Srt lt c
theorem BS.snoc {k : Nat} {A c : List α} {cs : List (List α)} (h : A = cs.flatten) (hf : ∀ x ∈ cs, x.length = k ∧ Srt lt x) (hc : c.length = k) (hs : Srt lt c) : A ++ c = (cs ++ [c]).flatten ∧ ∀ x ∈ cs ++ [c], x.length = k ∧ Srt lt x := by
  refine ⟨by simp [h], fun x hx => ?_⟩
  rcases List.mem_append.1 hx with hx | hx
  · exact hf x hx
  · rw [List.mem_singleton.1 hx]; exact ⟨hc, hs⟩
theorem BS.two {k : Nat} {B c : List α} {cs : List (List α)} (hk : 0 < k) (h : BS lt k B cs c) (hl : 2 * k ≤ B.length) :
    ∃ c1 c2 B' cs' c', B = c1 ++ c2 ++ B' ∧ c1.length = k ∧ c2.length = k ∧ Srt lt c1 ∧ Srt lt c2 ∧ BS lt k B' cs' c' := by
  obtain ⟨h1, h2, h3, h4⟩ := h
  match cs, h1, h2 with
  | [], h1, h2 => simp only [List.flatten_nil, List.nil_append] at h1; subst h1; omega
  | [c1], h1, h2 =>
    have e1 := h2 c1 (by simp)
    have : B.length = k + c.length := by rw [h1]; simp [e1.1]
    exact ⟨c1, c, [], [], [], by rw [h1]; simp, e1.1, by omega, e1.2, h4, ⟨by simp, by simp, by simp, .nil⟩⟩
  | c1 :: c2 :: cs, h1, h2 =>
    have e1 := h2 c1 (by simp)
    have e2 := h2 c2 (by simp)
    exact ⟨c1, c2, cs.flatten ++ c, cs, c, by rw [h1]; simp, e1.1, e2.1, e1.2, e2.2, ⟨rfl, fun x hx => h2 x (by simp [hx]), h3, h4⟩⟩
theorem BS.last {k : Nat} {B c : List α} {cs : List (List α)} (hk : 0 < k) (h : BS lt k B cs c) (hl : B.length < 2 * k) : (B.length ≤ k ∧ Srt lt B) ∨ (k < B.length ∧ ∃ c1 c2, B = c1 ++ c2 ∧ c1.length = k ∧ Srt lt c1 ∧ Srt lt c2) := by
  obtain ⟨h1, h2, h3, h4⟩ := h
  match cs, h1, h2 with
  | [], h1, h2 => simp only [List.flatten_nil, List.nil_append] at h1; subst h1; exact .inl ⟨h3, h4⟩
  | [c1], h1, h2 =>
    have e1 := h2 c1 (by simp)
    have : B.length = k + c.length := by rw [h1]; simp [e1.1]
    by_cases hc : c.length = 0
    · rw [List.eq_nil_of_length_eq_zero hc] at h1
      refine .inl ⟨by omega, ?_⟩
      rw [h1]; simpa using e1.2
    · exact .inr ⟨by omega, c1, c, by rw [h1]; simp, e1.1, e1.2, h4⟩
  | c1 :: c2 :: cs, h1, h2 =>
    have e1 := h2 c1 (by simp)
    have e2 := h2 c2 (by simp)
    have : k + k ≤ B.length := by rw [h1]; simp [e1.1, e2.1]
    omega
theorem BS.whole {k : Nat} {B c : List α} {cs : List (List α)} (hk : 0 < k) (h : BS lt k B cs c) (hl : B.length ≤ k) : Srt lt B := by
  rcases h.last hk (by omega) with h | h
  · exact h.2
  · omega
/-! ## Places in lists that are put together -/
theorem app_get [Inhabited α] (p q : List α) (x : α) : (p ++ x :: q).getD p.length default = x := by simp
theorem app_set (p q : List α) (x y : α) : (p ++ x :: q).set p.length y = p ++ y :: q := by simp
theorem two_get [Inhabited α] (p q r : List α) (x y : α) : (p ++ x :: q ++ y :: r).getD (p.length + 1 + q.length) default = y := by
  have := app_get (p ++ x :: q) r y
  simp [Nat.add_assoc, Nat.add_comm 1]
theorem two_set (p q r : List α) (x y z : α) : (p ++ x :: q ++ y :: r).set (p.length + 1 + q.length) z = p ++ x :: q ++ z :: r := by
  have := app_set (p ++ x :: q) r y z
  simp [Nat.add_assoc, Nat.add_comm 1]
theorem swap_ji [Inhabited α] (p q r : List α) (x y : α) : ((p ++ x :: q ++ y :: r).set (p.length + 1 + q.length) x).set p.length y = p ++ y :: q ++ x :: r := by
  rw [two_set, List.append_assoc, List.cons_append, app_set]; simp
theorem swap_ij [Inhabited α] (p q r : List α) (x y : α) : ((p ++ x :: q ++ y :: r).set p.length y).set (p.length + 1 + q.length) x = p ++ y :: q ++ x :: r := by
  rw [show p ++ x :: q ++ y :: r = p ++ x :: (q ++ y :: r) by simp, app_set, show p ++ y :: (q ++ y :: r) = p ++ y :: q ++ y :: r by simp, two_set]
theorem get_at [Inhabited α] {l p q : List α} {x : α} {i : Nat} (h : l = p ++ x :: q) (hi : i = p.length) : l.getD i default = x := by rw [h, hi]; exact app_get p q x
def swM (P X Z Y S : List α) (k : Nat) : List α := P ++ (Y.take k ++ X.drop k) ++ Z ++ (X.take k ++ Y.drop k) ++ S
theorem parted {l : List α} {k : Nat} (hk : k < l.length) : ∃ a x b, l = a ++ x :: b ∧ a.length = k := ⟨l.take k, l[k], l.drop (k + 1), by simp, by simp; omega⟩
theorem swM_step [Inhabited α] {P X Z Y S : List α} {k i j : Nat} (h : Y.length = X.length) (hk : k < X.length) (hi : i = P.length + k) (hj : j = P.length + X.length + Z.length + k) :
    ((swM P X Z Y S k).set i ((swM P X Z Y S k).getD j default)).set j ((swM P X Z Y S k).getD i default) = swM P X Z Y S (k + 1) := by
  obtain ⟨X1, x, X2, rfl, h1⟩ := parted hk
  obtain ⟨Y1, y, Y2, rfl, h2⟩ := parted (l := Y) (k := k) (by omega)
  have e1 : swM P (X1 ++ x :: X2) Z (Y1 ++ y :: Y2) S k = (P ++ Y1) ++ x :: (X2 ++ Z ++ X1) ++ y :: (Y2 ++ S) := by
    unfold swM
    rw [List.take_append_of_le_length (by omega), List.take_append_of_le_length (by omega), List.take_of_length_le (by omega), List.take_of_length_le (by omega), ← h1, List.drop_left, h1, ← h2, List.drop_left]
    simp
  have e2 : swM P (X1 ++ x :: X2) Z (Y1 ++ y :: Y2) S (k + 1) = (P ++ Y1) ++ y :: (X2 ++ Z ++ X1) ++ x :: (Y2 ++ S) := by
    have t : ∀ (a b : List α) (z : α), a.length = k → (a ++ z :: b).take (k + 1) = a ++ [z] ∧ (a ++ z :: b).drop (k + 1) = b := fun a b z ha => by
      rw [show a ++ z :: b = (a ++ [z]) ++ b by simp, show k + 1 = (a ++ [z]).length by simp [ha], List.take_left, List.drop_left]; exact ⟨rfl, rfl⟩
    unfold swM
    rw [(t _ _ _ h1).1, (t _ _ _ h1).2, (t _ _ _ h2).1, (t _ _ _ h2).2]
    simp
  have hi' : i = (P ++ Y1).length := by simp; omega
  have hj' : j = (P ++ Y1).length + 1 + (X2 ++ Z ++ X1).length := by simp at hj ⊢; omega
  rw [e1, e2, hi', hj', two_get, List.append_assoc (P ++ Y1), List.cons_append, app_get, ← List.cons_append, ← List.append_assoc, swap_ij]
theorem swM_len {P X Z Y S : List α} {k : Nat} (h : Y.length = X.length) : (swM P X Z Y S k).length = P.length + X.length + Z.length + Y.length + S.length := by
  simp only [swM, List.length_append, List.length_take, List.length_drop]; omega
theorem swM_0 (P X Z Y S : List α) : swM P X Z Y S 0 = P ++ X ++ Z ++ Y ++ S := by simp [swM]
theorem swM_n {P X Z Y S : List α} {n : Nat} (h1 : X.length = n) (h2 : Y.length = n) : swM P X Z Y S n = P ++ Y ++ Z ++ X ++ S := by
  unfold swM
  rw [List.take_of_length_le (by omega), List.take_of_length_le (by omega), List.drop_of_length_le (by omega), List.drop_of_length_le (by omega)]
  simp
end
end Go.Proofs.Ytfjoaeghnfkdlaa
namespace Go.Proofs.Ytfjoaeghnfkdlaa
set_option maxRecDepth 100000
set_option linter.unusedSectionVars false
set_option linter.unnecessarySimpa false
section
variable {α : Type} [Inhabited α] {lt : α → α → Bool}
theorem adj {M p r : List α} {u v : α} {k k' : Nat} (h : M = p ++ u :: v :: r) (hk : k = p.length) (hk' : k' = k + 1) : M.getD k default = u ∧ M.getD k' default = v ∧ (M.set k' u).set k v = p ++ v :: u :: r ∧ (M.set k v).set k' u = p ++ v :: u :: r := by
  subst hk'; subst h; subst hk
  have e : p ++ u :: v :: r = p ++ u :: [] ++ v :: r := by simp
  refine ⟨app_get _ _ _, ?_, ?_, ?_⟩
  · rw [e]; exact two_get p [] r u v
  · rw [e]; have := swap_ji p [] r u v; simpa using this
  · rw [e]; have := swap_ij p [] r u v; simpa using this
theorem seg1 {pp xx yy ss : List α} {k i : Nat} (hk : k < xx.length) (hi : i = pp.length + k) : (pp ++ xx ++ yy ++ ss).getD i default = xx.getD k default := by
  subst hi
  simp only [List.getD_eq_getElem?_getD, List.append_assoc]
  rw [List.getElem?_append_right (by omega), Nat.add_sub_cancel_left, List.getElem?_append_left hk]
theorem seg2 {pp xx yy ss : List α} {k i : Nat} (hk : k < yy.length) (hi : i = pp.length + xx.length + k) : (pp ++ xx ++ yy ++ ss).getD i default = yy.getD k default := by
  subst hi
  have e : pp ++ xx ++ yy ++ ss = (pp ++ xx) ++ yy ++ ss ++ [] := by simp
  rw [e]
  exact seg1 hk (by simp)
theorem getD_mem {l : List α} {k : Nat} (h : k < l.length) : l.getD k default ∈ l := by simp [h]
theorem of_take {l : List α} {q : Nat} {v : α} (h : v ∈ l.take q) : ∃ c, c < q ∧ c < l.length ∧ v = l.getD c default := by
  obtain ⟨c, hc, rfl⟩ := List.getElem_of_mem h
  rw [List.length_take] at hc
  exact ⟨c, by omega, by omega, by simp [show c < l.length by omega]⟩
theorem of_drop {l : List α} {q : Nat} {v : α} (h : v ∈ l.drop q) : ∃ c, q ≤ c ∧ c < l.length ∧ v = l.getD c default := by
  obtain ⟨c, hc, rfl⟩ := List.getElem_of_mem h
  rw [List.length_drop] at hc
  exact ⟨q + c, by omega, by omega, by simp [show q + c < l.length by omega]⟩
theorem Srt.at {l : List α} (h : Srt lt l) {i j : Nat} (hij : i < j) (hj : j < l.length) : lt (l.getD j default) (l.getD i default) = false := by
  have := List.pairwise_iff_getElem.1 h i j (by omega) hj hij
  simpa [hj, show i < l.length by omega] using this
theorem Srt.at' (hs : SWO lt) {l : List α} (h : Srt lt l) {i j : Nat} (hij : i ≤ j) (hj : j < l.length) : lt (l.getD j default) (l.getD i default) = false := by
  rcases Nat.lt_or_eq_of_le hij with h1 | rfl
  · exact h.at h1 hj
  · exact hs.irr _
theorem Srt.take {l : List α} (h : Srt lt l) (q : Nat) : Srt lt (l.take q) := List.Pairwise.sublist (List.take_sublist q l) h
theorem Srt.drop {l : List α} (h : Srt lt l) (q : Nat) : Srt lt (l.drop q) := List.Pairwise.sublist (List.drop_sublist q l) h
theorem sm_one1 (hs : SWO lt) {x : α} {yy : List α} {q : Nat} (hy : Srt lt yy) (h1 : ∀ k, k < q → k < yy.length → lt (yy.getD k default) x = true) (h2 : ∀ k, q ≤ k → k < yy.length → lt (yy.getD k default) x = false) : StS lt ([x] ++ yy) (yy.take q ++ x :: yy.drop q) := by
  have m1 : ∀ v ∈ yy.take q, lt v x = true := fun v hv => by obtain ⟨c, a, b, rfl⟩ := of_take hv; exact h1 c a b
  have m2 : ∀ v ∈ yy.drop q, lt v x = false := fun v hv => by obtain ⟨c, a, b, rfl⟩ := of_drop hv; exact h2 c a b
  refine ⟨?_, ?_⟩
  · have h3 := (Rch.right x (yy.take q) m1).ctx [] (yy.drop q)
    have e : [x] ++ yy = [] ++ (x :: yy.take q) ++ yy.drop q := by simp
    rw [e]
    simpa using h3
  · rw [Srt.app]
    have h4 : Srt lt (yy.take q ++ yy.drop q) := by rw [List.take_append_drop]; exact hy
    rw [Srt.app] at h4
    refine ⟨h4.1, List.pairwise_cons.2 ⟨m2, h4.2.1⟩, fun a ha b hb => ?_⟩
    rcases List.mem_cons.1 hb with rfl | hb
    · exact hs.asym (m1 a ha)
    · exact h4.2.2 a ha b hb
theorem sm_one2 (hs : SWO lt) {y : α} {xx : List α} {q : Nat} (hx : Srt lt xx) (h1 : ∀ k, k < q → k < xx.length → lt y (xx.getD k default) = false) (h2 : ∀ k, q ≤ k → k < xx.length → lt y (xx.getD k default) = true) : StS lt (xx ++ [y]) (xx.take q ++ y :: xx.drop q) := by
  have m1 : ∀ v ∈ xx.take q, lt y v = false := fun v hv => by obtain ⟨c, a, b, rfl⟩ := of_take hv; exact h1 c a b
  have m2 : ∀ v ∈ xx.drop q, lt y v = true := fun v hv => by obtain ⟨c, a, b, rfl⟩ := of_drop hv; exact h2 c a b
  refine ⟨?_, ?_⟩
  · have h3 := (Rch.left y (xx.drop q) m2).ctx (xx.take q) []
    have e : xx ++ [y] = xx.take q ++ (xx.drop q ++ [y]) ++ [] := by rw [← List.append_assoc, List.take_append_drop, List.append_nil]
    rw [e]
    simpa using h3
  · rw [Srt.app]
    have h4 : Srt lt (xx.take q ++ xx.drop q) := by rw [List.take_append_drop]; exact hx
    rw [Srt.app] at h4
    refine ⟨h4.1, List.pairwise_cons.2 ⟨fun a ha => hs.asym (m2 a ha), h4.2.1⟩, fun a ha b hb => ?_⟩
    rcases List.mem_cons.1 hb with rfl | hb
    · exact m1 a ha
    · exact h4.2.2 a ha b hb
theorem sm_parts (hs : SWO lt) {xx yy L R : List α} {h s : Nat} (hx : Srt lt xx) (hy : Srt lt yy) (hh : h = (xx.length + yy.length) / 2) (hlo : h - yy.length ≤ s) (hhi : s ≤ h) (hhi2 : s ≤ xx.length)
    (h1 : ∀ c, c < s → h - yy.length ≤ c → lt (yy.getD (h - 1 - c) default) (xx.getD c default) = false) (h2 : ∀ c, s ≤ c → c < h → c < xx.length → lt (yy.getD (h - 1 - c) default) (xx.getD c default) = true)
    (hL : StS lt (xx.take s ++ yy.take (h - s)) L) (hR : StS lt (xx.drop s ++ yy.drop (h - s)) R) : StS lt (xx ++ yy) (L ++ R) := by
  have hb : ∀ v ∈ xx.drop s, ∀ u ∈ yy.take (h - s), lt u v = true := fun v hv u hu => by
    obtain ⟨c, c1, c2, rfl⟩ := of_drop hv
    obtain ⟨d, d1, d2, rfl⟩ := of_take hu
    have k1 := h2 s (Nat.le_refl _) (by omega) (by omega)
    have k2 := hy.at' hs (i := d) (j := h - 1 - s) (by omega) (by omega)
    have k3 := hx.at' hs (i := s) (j := c) c1 c2
    exact hs.tr1 (hs.tr2 k1 k2) k3
  have hx' : Srt lt (xx.take s ++ xx.drop s) := by rw [List.take_append_drop]; exact hx
  have hy' : Srt lt (yy.take (h - s) ++ yy.drop (h - s)) := by rw [List.take_append_drop]; exact hy
  rw [Srt.app] at hx' hy'
  have := StS.parts (xx.take s) (xx.drop s) (yy.take (h - s)) (yy.drop (h - s)) L R hL hR hb (fun u hu v hv => ?_)
  · rwa [List.take_append_drop, List.take_append_drop] at this
  rcases List.mem_append.1 hu with hu | hu <;> rcases List.mem_append.1 hv with hv | hv
  · exact hx'.2.2 u hu v hv
  · obtain ⟨c, c1, c2, rfl⟩ := of_take hu
    obtain ⟨d, d1, d2, rfl⟩ := of_drop hv
    by_cases hz : h - yy.length < s
    · have k1 := h1 (s - 1) (by omega) (by omega)
      rw [show h - 1 - (s - 1) = h - s by omega] at k1
      have k2 := hy.at' hs (i := h - s) (j := d) d1 d2
      have k3 := hx.at' hs (i := c) (j := s - 1) (by omega) (by omega)
      exact hs.nt _ _ _ (hs.nt _ _ _ k2 k1) k3
    · omega
  · exact hs.asym (hb v hv u hu)
  · exact hy'.2.2 u hu v hv
theorem tdl (xx : List α) (s : Nat) : xx.take s ++ xx.drop s = xx := List.take_append_drop s xx
theorem mono1 (hs : SWO lt) {yy : List α} {x : α} (hy : Srt lt yy) {i j : Nat} (hij : i ≤ j) (hj : j < yy.length) (h : lt (yy.getD j default) x = true) : lt (yy.getD i default) x = true := hs.tr2 h (hy.at' hs hij hj)
theorem mono1' (hs : SWO lt) {yy : List α} {x : α} (hy : Srt lt yy) {i j : Nat} (hij : i ≤ j) (hj : j < yy.length) (h : lt (yy.getD i default) x = false) : lt (yy.getD j default) x = false := hs.nt _ _ _ (hy.at' hs hij hj) h
theorem mono2 (hs : SWO lt) {xx : List α} {y : α} (hx : Srt lt xx) {i j : Nat} (hij : i ≤ j) (hj : j < xx.length) (h : lt y (xx.getD j default) = false) : lt y (xx.getD i default) = false := hs.nt _ _ _ h (hx.at' hs hij hj)
theorem mono2' (hs : SWO lt) {xx : List α} {y : α} (hx : Srt lt xx) {i j : Nat} (hij : i ≤ j) (hj : j < xx.length) (h : lt y (xx.getD i default) = true) : lt y (xx.getD j default) = true := hs.tr1 h (hx.at' hs hij hj)
end
end Go.Proofs.Ytfjoaeghnfkdlaa
