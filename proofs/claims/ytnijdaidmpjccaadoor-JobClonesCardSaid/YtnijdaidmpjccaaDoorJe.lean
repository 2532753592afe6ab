/- maps.Clone at maps from integers. No condition. -/
import Derived.Test.YtnijdaidmpjccaaDoorAvMap
import Derived.Laws.Externs
import Derived.Test.YtnijdaidmpjccaaDoorJb4
import Derived.Test.YtnijdaidmpjccaaDoorAvNb
namespace Go.Proofs.YtnijdaidmpjccaaDoor
set_option linter.unusedSimpArgs false
set_option linter.unusedVariables false
set_option maxRecDepth 100000
set_option linter.unusedVariables false
set_option linter.unusedSimpArgs false
open Go.RowKit Go.MapKept
section
variable {P : Program} {n : Md} {Q : Exit → Slots → Heap → Prop} {s : Slots} {h : Heap} {ops : Array Oper} {rest : List Oper} {o : Oper}
/-- A map of the call's own is not nil. -/
theorem ok_mnil {α : Type} {f : α → AV} {m : List (Int × α)} {t k e yt : TypeId} {x : Operand} {id : Nat} (ho : o.op = .binOp .eql t x (.const (.map none)) yt) (hu : P.underlying t = some (.map k e)) (hx : evA s x = .own id) (hg : hget h id = some (.sem (mapC f m))) : OkO P o s h (.bool false) := by
  refine ok_of_run fun E σ ι a w hr hop => ?_
  have hX : VR σ ι (evA s x) (a.eval x) := hop x (by rw [ho]; simp [Op.operands])
  rw [hx] at hX
  obtain ⟨r, es, clock, h1, h2, h3⟩ := hr.ch id _ hg
  have ex := hX.own_inv.trans h1
  refine ⟨_, ?_, .base _ _ (.bool false)⟩
  have h5 : (Op.equal t (.map (some r)) (.map none)).run P w = .ok false w := by
    have : ∀ d, (Op.equalIn (d + 1) t (.map (some r)) (.map none)).run P w = .ok false w := fun d => by simp [Op.equalIn, run_underlying hu]
    exact this 9999
  have hgd : (eqGuard .eql t x (.const (.map none)) (.map (some r)) (.map none)).run P w = .ok () w := by simp [eqGuard]
  unfold execOp
  have ey : a.eval (.const (.map none)) = .map none := rfl
  simp only [ho, ex, ey, Sem.run_bind, hgd, Result.andThen_ok, binOp, h5, Sem.run_pure]
/-- maps.Clone's three steps: into an interface, the clone, out of it. -/
theorem ao_mclone {α : Type} {f : α → AV} {m : List (Int × α)} {o1 o2 o3 : Oper} {t xT k e : TypeId} {x : Operand} {d1 d2 : Nat} {fid : FuncId} {tys : Array TypeId} (id id2 : Nat) (ho1 : o1.op = .makeInterface t x) (hd1 : o1.dst = some d1)
    (ho2 : o2.op = .call { callee := .value (.func fid), args := #[.tmp d1], argTypes := tys }) (hd2 : o2.dst = some d2) (ho3 : o3.op = .typeAssert (.tmp d2) xT t false) (hu : P.underlying t = some (.map k e))
    (hext : ∀ (args : Array Value) (w : World), (callFunc fid args).run P w = ((Extern.MapsClone.clone args).run P w).andThen fun v w' => .ok (.value v) w')
    (hx : evA s x = .own id) (hg : hget h id = some (.sem (mapC f m))) (hf : freshAll id2 s h = true) (hgd1 : o1.guard = none) (hco1 : constsOk o1 = true) (hdo1 : dstOk n o1.dst = true) (hgd2 : o2.guard = none) (hdo2 : dstOk n o2.dst = true) (hgd3 : o3.guard = none) (hdo3 : dstOk n o3.dst = true)
    (hk : O P n ops Q rest (putS ((d2, .undef) :: (d1, .undef) :: s) o3.dst (.own id2)) ((id2, .sem (mapC f m)) :: h)) : O P n ops Q (o1 :: o2 :: o3 :: rest) s h := ⟨aops_one hgd1 fun E σ ι a w hr ht => by
  simp only [freshAll, Bool.and_eq_true, Nat.ble_eq] at hf
  have hX : VR σ ι (evA s x) (a.eval x) := evA_sound (List.all_eq_true.1 hco1 x (by rw [ho1]; simp [Op.operands])) fun t _ => ht.at_ t
  rw [hx] at hX
  obtain ⟨r, es, clock, h1, h2, h3⟩ := hr.ch id _ hg
  have ex := hX.own_inv.trans h1
  have run1 : (execOp a.eval o1).run P w = .ok (.value (.iface t (.map (some r)))) w := by
    simp [execOp, ho1, ex, Instr.makeInterface, run_underlying hu, Result.andThen]
  unfold Oper.wp
  rw [run1]
  have ht2 : TR n σ ι ((d1, .undef) :: s) (a.put o1.dst (.iface t (.map (some r)))) := by
    have := ht.putS hdo1 (x := .undef) (v := .iface t (.map (some r))) (.base _ _ (.undef _))
    rw [hd1] at this ⊢; exact this
  have hd1' : d1 < n.n := by rw [hd1] at hdo1; simpa [dstOk] using hdo1
  have hd2' : d2 < n.n := by rw [hd2] at hdo2; simpa [dstOk] using hdo2
  have hev : (a.put o1.dst (.iface t (.map (some r)))).eval (.tmp d1) = .iface t (.map (some r)) := by
    rw [hd1]
    show (a.put (some d1) _).tmps.getD d1 undef = _
    simp [Act.put, Array.getD, ht.size, hd1']
  refine wpL_one hgd2 ?_
  unfold Oper.wp
  generalize a.put o1.dst (.iface t (.map (some r))) = a2 at *
  have hcl : (Extern.MapsClone.clone #[.iface t (.map (some r))]).run P w = .ok (.iface t (.map (some w.heap.size))) (w.alloc (.map es clock)) := by
    have e : Extern.MapsClone.clone #[.iface t (.map (some r))] = (getObj r >>= fun o => match o with
        | .map entries clock => (newObj (.map entries clock) >>= fun n => pure (.iface t (.map (some n))))
        | _ => stuck "maps.clone: a map expected") := rfl
    rw [e]
    simp [MapKept.run_getObj_map h2, Result.andThen, go_sem]
  have run2 : (execOp a2.eval o2).run P w = .ok (.value (.iface t (.map (some w.heap.size)))) (w.alloc (.map es clock)) := by
    have e1 : a2.eval (.func fid) = .func (.func fid) #[] #[] := rfl
    have e2 : (#[] ++ (#[Operand.tmp d1].map a2.eval) ++ #[] : Array Value) = #[.iface t (.map (some r))] := by simp [hev]
    simp only [execOp, ho2, resolve, e1, Deferred.ofValue, Sem.run_bind, Sem.run_pure, Result.andThen_ok, invoke, e2]
    rw [hext, hcl]; rfl
  rw [run2]
  have hkeep : ∀ g, g < w.heap.size → (w.alloc (.map es clock)).heap[g]? = w.heap[g]? := fun g hg => Below.heap_alloc _ _ _ hg
  have hnew := hr.turn (id := id2) (u := .map (some w.heap.size)) (h' := (id2, .sem (mapC f m)) :: h) (c' := .sem (mapC f m)) (w' := w.alloc (.map es clock))
    (fun i c hi hc => by
      rw [hget_cons, if_neg (fun e => hi e.symm)] at hc
      exact ⟨hc, .inr (freshH_get hf.2 i c hc).2⟩)
    (by rw [hget_cons, if_pos rfl])
    (by show mapR f m _ _ _; rw [upd_eq]; exact ⟨w.heap.size, es, clock, rfl, heap_alloc_new w _, h3⟩)
    rfl rfl rfl (by simp) (fun k hk _ => hkeep k hk) (fun g hv => by cases hv; exact .inr (Nat.le_refl _)) (.inl hf.1.1)
  have hf2 : freshS id2 ((d1, .undef) :: s) = true := by rw [freshS, hf.1.2]; rfl
  have ht3 : TR n σ (upd ι id2 (.map (some w.heap.size))) ((d2, .undef) :: (d1, .undef) :: s) (a2.put o2.dst (.iface t (.map (some w.heap.size)))) := by
    have := (ht2.upd hf.1.1 hf2 (.map (some w.heap.size))).putS hdo2 (x := .undef) (v := .iface t (.map (some w.heap.size))) (.base _ _ (.undef _))
    rw [hd2] at this ⊢; exact this
  have hev2 : (a2.put o2.dst (.iface t (.map (some w.heap.size)))).eval (.tmp d2) = .iface t (.map (some w.heap.size)) := by
    rw [hd2]
    show (a2.put (some d2) _).tmps.getD d2 undef = _
    simp [Act.put, Array.getD, ht2.size, hd2']
  refine wpL_one hgd3 ?_
  unfold Oper.wp
  generalize a2.put o2.dst (.iface t (.map (some w.heap.size))) = a3 at *
  have run3 : (execOp a3.eval o3).run P (w.alloc (.map es clock)) = .ok (.value (.map (some w.heap.size))) (w.alloc (.map es clock)) := by
    have : (Instr.typeAssert (.iface t (.map (some w.heap.size))) xT t false).run P (w.alloc (.map es clock)) = .ok (.map (some w.heap.size)) (w.alloc (.map es clock)) := by
      simp [Instr.typeAssert, run_underlying hu, go_sem, Result.andThen]
    simp only [execOp, ho3, hev2, Sem.run_bind, Sem.run_pure, this, Result.andThen_ok]
  rw [run3]
  refine hk.out E σ _ _ _ hnew (ht3.putS hdo3 ?_)
  have h5 := VR.own (σ := σ) (ι := upd ι id2 (.map (some w.heap.size))) id2 (by rw [upd_eq]; rfl)
  rwa [upd_eq] at h5⟩
end
theorem mclone_fn (m : List (Int × Int)) : FnH Tryd.prog 57 [.own 4] [(4, .sem (mapC (fun n : Int => AV.int .i64 n) m)), (5, .row 3 1 (([] : List Int).map eI))]
    (fun r h' => r = .own 5 ∧ h' = [(4, .sem (mapC (fun n : Int => AV.int .i64 n) m)), (5, .sem (mapC (fun n : Int => AV.int .i64 n) m))]) := by
  refine fnhb Tryd.func57 (entered_of (by kernel_rfl)) rfl rfl ?_
  refine wle (s' := [(0, .own 4)]) (h' := [(4, .sem (mapC (fun n : Int => AV.int .i64 n) m))]) les leh ?_
  repeat' (first | (show W _ _ _ _ _ _; first | apply kA | refine kB rfl ?_ | refine kC rfl rfl ?_ | refine kD rfl rfl ?_ | apply kE | apply kF | apply kG | apply kH | refine kI (by kernel_rfl) (by kernel_rfl) ?_) | (show O _ _ _ _ _ _ _; first | (show O _ _ _ _ (⟨_, .store _ _ _, _, _, _, _⟩ :: _) _ _; refine kJ rfl rfl rfl rfl rfl rfl rfl rfl rfl rfl rfl ?_) | apply kK) | apply kL | ((first | apply kM | apply kN); (iterate 3 (· exact rfl)); (· first | exact ya | exact Y.mk (ok_mnil rfl Tryd.underlying78 rfl rfl))) | refine kO rfl rfl rfl rfl rfl ?_ | refine kP rfl rfl rfl ?_ | ((first | refine kQ rfl rfl ?_ ?_ | refine kR rfl rfl rfl rfl rfl ?_ ?_ | refine kS rfl rfl rfl ?_ ?_) <;> intro hc <;> (try simp only [KL, cond_true, cond_false, beq_iff_eq, bne_iff_ne, ne_eq, reduceCtorEq] at hc) <;> (try (have hT : True := hc; clear hT hc)) <;> (try (exfalso; omega))) | apply kT | apply kU | apply kV | apply kW | refine kX rfl ?_ | apply kY | apply kZ)
  refine ao_mclone 4 5 rfl rfl rfl rfl rfl Tryd.underlying78 (run_callFunc_extern Tryd.func67 (by kernel_rfl) (by kernel_rfl) (by kernel_rfl) (by kernel_rfl)) rfl rfl rfl rfl rfl rfl rfl rfl rfl rfl ?_
  repeat' (first | (show W _ _ _ _ _ _; first | apply kA | refine kB rfl ?_ | refine kC rfl rfl ?_ | refine kD rfl rfl ?_ | apply kE | apply kF | apply kG | apply kH | refine kI (by kernel_rfl) (by kernel_rfl) ?_) | (show O _ _ _ _ _ _ _; first | (show O _ _ _ _ (⟨_, .store _ _ _, _, _, _, _⟩ :: _) _ _; refine kJ rfl rfl rfl rfl rfl rfl rfl rfl rfl rfl rfl ?_) | apply kK) | apply kL | ((first | apply kM | apply kN); (iterate 3 (· exact rfl)); (· first | exact ya)) | refine kO rfl rfl rfl rfl rfl ?_ | refine kP rfl rfl rfl ?_ | ((first | refine kQ rfl rfl ?_ ?_ | refine kR rfl rfl rfl rfl rfl ?_ ?_ | refine kS rfl rfl rfl ?_ ?_) <;> intro hc <;> (try simp only [KL, cond_true, cond_false, beq_iff_eq, bne_iff_ne, ne_eq, reduceCtorEq] at hc) <;> (try (have hT : True := hc; clear hT hc)) <;> (try (exfalso; omega))) | apply kT | apply kU | apply kV | apply kW | refine kX rfl ?_ | apply kY | apply kZ)
  exact reth rfl leh ⟨rfl, rfl⟩
end Go.Proofs.YtnijdaidmpjccaaDoor
namespace Go.Proofs.YtnijdaidmpjccaaDoor
set_option linter.unusedSimpArgs false
set_option linter.unusedVariables false
set_option maxRecDepth 100000
set_option linter.unusedSimpArgs false
set_option linter.unusedVariables false
set_option maxRecDepth 100000
open Go.RowKit
def actP (i : Int) (j : Job) : Bool := decide (j.task = i ∧ j.fin < 0)
/-- The place of a task's active job. -/
def actI (js : List Job) (i : Int) : Int := match js.findIdx? (actP i) with
  | some k => (k : Int)
  | none => -1
theorem getD_lt {js : List Job} {k : Nat} (hk : k < js.length) : js.getD k default = js[k] := by
  rw [List.getD_eq_getElem?_getD, List.getElem?_eq_getElem hk, Option.getD_some]
theorem actI_at {js : List Job} {i : Int} {k : Nat} (hk : k < js.length) (h : ∀ j, j < k → actP i (js.getD j default) = false) (hp : actP i (js.getD k default) = true) : actI js i = (k : Int) := by
  have : js.findIdx? (actP i) = some k := by
    rw [List.findIdx?_eq_some_iff_getElem]
    refine ⟨hk, by rw [← getD_lt hk]; exact hp, fun j hj => ?_⟩
    have h2 := h j hj
    rw [getD_lt (by omega)] at h2
    rw [h2]; decide
  rw [actI, this]
theorem actI_no {js : List Job} {i : Int} (h : ∀ j, j < js.length → actP i (js.getD j default) = false) : actI js i = -1 := by
  have : js.findIdx? (actP i) = none := by
    rw [List.findIdx?_eq_none_iff]
    intro x hx
    obtain ⟨j, hj, rfl⟩ := List.mem_iff_getElem.1 hx
    have := h j hj
    rwa [getD_lt hj] at this
  rw [actI, this]
theorem actI_good {l : List Task} {n : Nat} {B : Bk} (h : GoodB l n B) (i : Int) : actI B.all i = if hasN B.act i = true then (posB B i : Int) else -1 := by
  split
  · rename_i hh
    obtain ⟨p1, p2, p3, p4⟩ := h.pos hh
    rw [jobAt] at p3 p4
    refine actI_at p2 (fun j hj => ?_) (decide_eq_true ⟨p3, p4⟩)
    refine decide_eq_false fun e => ?_
    have := (h.opn j (by omega) e.2).2
    rw [e.1, p1] at this
    have := Int.ofNat.inj (Option.some.inj this)
    omega
  · rename_i hh
    refine actI_no fun j hj => decide_eq_false fun e => ?_
    have := (h.opn j hj e.2).1
    rw [e.1] at this
    exact hh this
abbrev rbP (l : List Task) (js : List Job) (os : List Due) : Heap :=
  [(0, .blk 59 [.lst 7 (l.map eTask), .own 1, .own 2]), (1, .row 49 8 (js.map eJob)), (2, .row 84 2 (os.map eDue))]
abbrev rbH (l : List Task) (js : List Job) (os : List Due) : Heap :=
  [(0, .blk 59 [.lst 7 (l.map eTask), .own 5, .own 6]), (5, .row 49 8 (js.map eJob)), (6, .row 84 2 (os.map eDue))]
set_option maxHeartbeats 2000000 in
theorem ractive_fn (l : List Task) (js : List Job) (os : List Due) (hl : js.length ≤ 1000000) (i : Int) : FnH Tryd.prog 54 [.ptr 0 0, .int .i64 i] (rbP l js os) (fun r h' => r = .int .i64 (actI js i) ∧ h' = rbP l js os) := by
  refine FnH.drop' (fnhb Tryd.func54 (entered_of (by kernel_rfl)) rfl rfl ?_)
  repeat' (first | (show W _ _ _ _ _ _; first | apply kA | refine kB rfl ?_ | refine kC rfl rfl ?_ | refine kD rfl rfl ?_ | apply kE | apply kF | apply kG | apply kH | refine kI (by kernel_rfl) (by kernel_rfl) ?_) | (show O _ _ _ _ _ _ _; first | (show O _ _ _ _ (⟨_, .store _ _ _, _, _, _, _⟩ :: _) _ _; refine kJ rfl rfl rfl rfl rfl rfl rfl rfl rfl rfl rfl ?_) | apply kK) | apply kL | ((first | apply kM | apply kN); (iterate 3 (· exact rfl)); (· first | exact ya)) | refine kO rfl rfl rfl rfl rfl ?_ | refine kP rfl rfl rfl ?_ | ((first | refine kQ rfl rfl ?_ ?_ | refine kR rfl rfl rfl rfl rfl ?_ ?_ | refine kS rfl rfl rfl ?_ ?_) <;> intro hc <;> (try simp only [KL, cond_true, cond_false, beq_iff_eq, bne_iff_ne, ne_eq, reduceCtorEq] at hc) <;> (try (have hT : True := hc; clear hT hc)) <;> (try (exfalso; omega))) | apply kT | apply kU | apply kV | apply kW | refine kX rfl ?_ | apply kY | apply kZ)
  refine wloop (fun k : Nat => ([(0, .ptr 0 0), (1, .int .i64 i), (10, .own 1), (11, .int .i64 js.length), (12, .int .i64 k)], rbP l js os)) (fun k => k ≤ js.length ∧ ∀ j, j < k → actP i (js.getD j default) = false) (fun k => js.length - k) 0 ⟨Nat.zero_le _, fun j hj => by omega⟩ les leh (fun k hk => ?_)
  obtain ⟨hk1, hk2⟩ := hk
  rcases Nat.lt_or_eq_of_le hk1 with hlt | rfl
  · by_cases hp : (js.getD k default).task = i ∧ (js.getD k default).fin < 0
    · rw [actI_at hlt hk2 (decide_eq_true hp)]
      obtain ⟨h1, h2⟩ := hp
      repeat' (first | (show W _ _ _ _ _ _; first | apply kA | refine kB rfl ?_ | refine kC rfl rfl ?_ | refine kD rfl rfl ?_ | apply kE | apply kF | apply kG | apply kH | refine kI (by kernel_rfl) (by kernel_rfl) ?_) | (show O _ _ _ _ _ _ _; first | (show O _ _ _ _ (⟨_, .alloc _, _, _, _, _⟩ :: _) _ _; first | refine ao_alloc (id := 20) rfl rfl rfl rfl rfl rfl rfl ?_) | (show O _ _ _ _ (⟨_, .store _ _ _, _, _, _, _⟩ :: _) _ _; refine kJ rfl rfl rfl rfl rfl rfl rfl rfl rfl rfl rfl ?_) | apply kK) | apply kL | ((first | apply kM | apply kN); (iterate 3 (· exact rfl)); (· first | exact ya)) | refine kO rfl rfl rfl rfl rfl ?_ | refine kP rfl rfl rfl ?_ | ((first | refine kQ rfl rfl ?_ ?_ | refine kR rfl rfl rfl rfl rfl ?_ ?_ | refine kS rfl rfl rfl ?_ ?_) <;> intro hc <;> (try simp only [KL, cond_true, cond_false, beq_iff_eq, bne_iff_ne, ne_eq, reduceCtorEq] at hc) <;> (try (have hT : True := hc; clear hT hc)) <;> (try (exfalso; omega))) | apply kT | apply kU | apply kV | apply kW | refine kX rfl ?_ | apply kY | apply kZ)
      all_goals first | (exfalso; omega) | exact retq rfl ⟨rbP l js os, leh, rfl, rfl⟩
    · have hnx : ∀ j, j < k + 1 → actP i (js.getD j default) = false := fun j hj => by
        rcases Nat.lt_or_eq_of_le (Nat.le_of_lt_succ hj) with q | q
        · exact hk2 j q
        · subst q; exact decide_eq_false hp
      repeat' (first | (show W _ _ _ _ _ _; first | apply kA | refine kB rfl ?_ | refine kC rfl rfl ?_ | refine kD rfl rfl ?_ | apply kE | apply kF | apply kG | apply kH | refine kI (by kernel_rfl) (by kernel_rfl) ?_) | (show O _ _ _ _ _ _ _; first | (show O _ _ _ _ (⟨_, .alloc _, _, _, _, _⟩ :: _) _ _; first | refine ao_alloc (id := 20) rfl rfl rfl rfl rfl rfl rfl ?_) | (show O _ _ _ _ (⟨_, .store _ _ _, _, _, _, _⟩ :: _) _ _; refine kJ rfl rfl rfl rfl rfl rfl rfl rfl rfl rfl rfl ?_) | apply kK) | apply kL | ((first | apply kM | apply kN); (iterate 3 (· exact rfl)); (· first | exact ya)) | refine kO rfl rfl rfl rfl rfl ?_ | refine kP rfl rfl rfl ?_ | ((first | refine kQ rfl rfl ?_ ?_ | refine kR rfl rfl rfl rfl rfl ?_ ?_ | refine kS rfl rfl rfl ?_ ?_) <;> intro hc <;> (try simp only [KL, cond_true, cond_false, beq_iff_eq, bne_iff_ne, ne_eq, reduceCtorEq] at hc) <;> (try (have hT : True := hc; clear hT hc)) <;> (try (exfalso; omega))) | apply kT | apply kU | apply kV | apply kW | refine kX rfl ?_ | apply kY | apply kZ)
      all_goals first | (exfalso; omega) | exact ⟨k + 1, ⟨by omega, hnx⟩, by omega, les, leh⟩
  · rw [actI_no hk2]
    repeat' (first | (show W _ _ _ _ _ _; first | apply kA | refine kB rfl ?_ | refine kC rfl rfl ?_ | refine kD rfl rfl ?_ | apply kE | apply kF | apply kG | apply kH | refine kI (by kernel_rfl) (by kernel_rfl) ?_) | (show O _ _ _ _ _ _ _; first | (show O _ _ _ _ (⟨_, .store _ _ _, _, _, _, _⟩ :: _) _ _; refine kJ rfl rfl rfl rfl rfl rfl rfl rfl rfl rfl rfl ?_) | apply kK) | apply kL | ((first | apply kM | apply kN); (iterate 3 (· exact rfl)); (· first | exact ya)) | refine kO rfl rfl rfl rfl rfl ?_ | refine kP rfl rfl rfl ?_ | ((first | refine kQ rfl rfl ?_ ?_ | refine kR rfl rfl rfl rfl rfl ?_ ?_ | refine kS rfl rfl rfl ?_ ?_) <;> intro hc <;> (try simp only [KL, cond_true, cond_false, beq_iff_eq, bne_iff_ne, ne_eq, reduceCtorEq] at hc) <;> (try (have hT : True := hc; clear hT hc)) <;> (try (exfalso; omega))) | apply kT | apply kU | apply kV | apply kW | refine kX rfl ?_ | apply kY | apply kZ)
    all_goals first | (exfalso; omega) | exact retq rfl ⟨rbP l js os, leh, rfl, rfl⟩
def ρr (i : Nat) : Nat := [0, 5, 6].getD i (i + 20)
theorem rinT_fn (n : Int) : Fn Tryd.prog 53 [.int .i64 n, .int .i64 0, .int .i64 1099511627776] (.int .i64 (inT n)) := by
  unfold inT
  refine fnb Tryd.func53 (entered_of (by kernel_rfl)) rfl rfl rfl ?_
  repeat' (first | (show W _ _ _ _ _ _; first | apply kA | refine kB rfl ?_ | refine kC rfl rfl ?_ | refine kD rfl rfl ?_ | apply kE | apply kF | apply kG | apply kH | refine kI (by kernel_rfl) (by kernel_rfl) ?_) | (show O _ _ _ _ _ _ _; first | (show O _ _ _ _ (⟨_, .store _ _ _, _, _, _, _⟩ :: _) _ _; refine kJ rfl rfl rfl rfl rfl rfl rfl rfl rfl rfl rfl ?_) | apply kK) | apply kL | ((first | apply kM | apply kN); (iterate 3 (· exact rfl)); (· first | exact ya)) | refine kO rfl rfl rfl rfl rfl ?_ | refine kP rfl rfl rfl ?_ | ((first | refine kQ rfl rfl ?_ ?_ | refine kR rfl rfl rfl rfl rfl ?_ ?_ | refine kS rfl rfl rfl ?_ ?_) <;> intro hc <;> (try simp only [KL, cond_true, cond_false, beq_iff_eq, bne_iff_ne, ne_eq, reduceCtorEq] at hc) <;> (try (have hT : True := hc; clear hT hc)) <;> (try (exfalso; omega))) | apply kT | apply kU | apply kV | apply kW | refine kX rfl ?_ | apply kY | apply kZ)
  all_goals first | (exfalso; omega) | exact retq rfl (congrArg (AV.int .i64) (by omega))
theorem raddT_fn (a b : Int) : Fn Tryd.prog 55 [.int .i64 a, .int .i64 b] (.int .i64 (addT a b)) := by
  have h1 := inT_le a
  have h2 := inT_le b
  refine fnb Tryd.func55 (entered_of (by kernel_rfl)) rfl rfl rfl ?_
  repeat' (first | (show W _ _ _ _ _ _; first | apply kA | refine kB rfl ?_ | refine kC rfl rfl ?_ | refine kD rfl rfl ?_ | apply kE | apply kF | apply kG | apply kH | refine kI (by kernel_rfl) (by kernel_rfl) ?_) | (show O _ _ _ _ _ _ _; first | (show O _ _ _ _ (⟨_, .store _ _ _, _, _, _, _⟩ :: _) _ _; refine kJ rfl rfl rfl rfl rfl rfl rfl rfl rfl rfl rfl ?_) | apply kK) | apply kL | ((first | apply kM | apply kN); (iterate 3 (· exact rfl)); (· first | (show Y _ ⟨_, .call ⟨.value _, _, _⟩, _, _, _, _⟩ _ _ _; first | exact q_c (rinT_fn _) rfl) | exact ya)) | refine kO rfl rfl rfl rfl rfl ?_ | refine kP rfl rfl rfl ?_ | ((first | refine kQ rfl rfl ?_ ?_ | refine kR rfl rfl rfl rfl rfl ?_ ?_ | refine kS rfl rfl rfl ?_ ?_) <;> intro hc <;> (try simp only [KL, cond_true, cond_false, beq_iff_eq, bne_iff_ne, ne_eq, reduceCtorEq] at hc) <;> (try (have hT : True := hc; clear hT hc)) <;> (try (exfalso; omega))) | apply kT | apply kU | apply kV | apply kW | refine kX rfl ?_ | apply kY | apply kZ)
  exact retq rfl rfl
set_option maxHeartbeats 4000000 in
theorem rrelJ_fn (l : List Task) (B : Bk) (n : Nat) (h : GoodB (hd64 l) n B) (hn : n ≤ 100000) (i t : Int) : FnH Tryd.prog 32 [.ptr 0 0, .int .i64 i, .int .i64 t] (rbH l B.all B.overs)
    (fun r h' => r = .tup [.int .i64 (if relOk (hd64 l) B i then noB B i else 0), .bool (relOk (hd64 l) B i)] ∧ h' = rbH l (relBk (hd64 l) B i t).all (relBk (hd64 l) B i t).overs) := by
  refine FnH.drop' (fnhb Tryd.func32 (entered_of (by kernel_rfl)) rfl rfl ?_)
  have hlen : (hd64 l).length = min l.length 64 := by rw [hd64, List.length_take]; omega
  have halen := h.alen
  have holen := h.olen
  have c1 := rinT_fn t
  have ht := inT_le t
  have c2 := ractive_fn l B.all B.overs (by omega) i
  rw [actI_good h i] at c2
  by_cases h0 : i < 0 ∨ ((hd64 l).length : Int) ≤ i
  · have e1 : relOk (hd64 l) B i = false := by rw [relOk, decide_eq_true h0]; rfl
    have e2 : relBk (hd64 l) B i t = B := by rw [relBk, if_pos h0]
    rw [e1, e2]
    repeat' (first | (show W _ _ _ _ _ _; first | apply kA | refine kB rfl ?_ | refine kC rfl rfl ?_ | refine kD rfl rfl ?_ | apply kE | apply kF | apply kG | apply kH | refine kI (by kernel_rfl) (by kernel_rfl) ?_) | (show O _ _ _ _ _ _ _; first | (show O _ _ _ _ (⟨_, .store _ _ _, _, _, _, _⟩ :: _) _ _; refine kJ rfl rfl rfl rfl rfl rfl rfl rfl rfl rfl rfl ?_) | apply kK) | apply kL | ((first | apply kM | apply kN); (iterate 3 (· exact rfl)); (· first | exact ya)) | refine kO rfl rfl rfl rfl rfl ?_ | refine kP rfl rfl rfl ?_ | ((first | refine kQ rfl rfl ?_ ?_ | refine kR rfl rfl rfl rfl rfl ?_ ?_ | refine kS rfl rfl rfl ?_ ?_) <;> intro hc <;> (try simp only [KL, cond_true, cond_false, beq_iff_eq, bne_iff_ne, ne_eq, reduceCtorEq] at hc) <;> (try (have hT : True := hc; clear hT hc)) <;> (try (exfalso; omega))) | apply kT | apply kU | apply kV | apply kW | refine kX rfl ?_ | apply kY | apply kZ)
    all_goals first | (exfalso; omega) | exact retq rfl ⟨rbH l B.all B.overs, leh, rfl, rfl⟩
  have hr : 0 ≤ i ∧ i < l.length ∧ i ≤ 63 := by omega
  cases hh : hasN B.act i
  case true =>
    have e1 : relOk (hd64 l) B i = false := by rw [relOk, hh, Bool.not_true, Bool.and_false]
    have e2 : relBk (hd64 l) B i t = { B with overs := B.overs ++ [⟨inT t, i⟩] } := by rw [relBk, if_neg h0, if_pos hh]
    rw [e1, e2]
    rw [hh, if_pos rfl] at c2
    repeat' (first | (show W _ _ _ _ _ _; first | apply kA | refine kB rfl ?_ | refine kC rfl rfl ?_ | refine kD rfl rfl ?_ | apply kE | apply kF | apply kG | apply kH | refine kI (by kernel_rfl) (by kernel_rfl) ?_) | (show O _ _ _ _ _ _ _; first | (show O _ _ _ _ (⟨_, .store _ _ _, _, _, _, _⟩ :: _) _ _; refine kJ rfl rfl rfl rfl rfl rfl rfl rfl rfl rfl rfl ?_) | apply kK) | apply kL | ((first | apply kM | apply kN); (iterate 3 (· exact rfl)); (· first | (show Y _ ⟨_, .call ⟨.value _, _, _⟩, _, _, _, _⟩ _ _ _; first | exact q_c (c1) rfl) | exact ya)) | refine kO rfl rfl rfl rfl rfl ?_ | refine kP rfl rfl rfl ?_ | ((first | refine kQ rfl rfl ?_ ?_ | refine kR rfl rfl rfl rfl rfl ?_ ?_ | refine kS rfl rfl rfl ?_ ?_) <;> intro hc <;> (try simp only [KL, cond_true, cond_false, beq_iff_eq, bne_iff_ne, ne_eq, reduceCtorEq] at hc) <;> (try (have hT : True := hc; clear hT hc)) <;> (try (exfalso; omega))) | apply kT | apply kU | apply kV | apply kW | refine kX rfl ?_ | apply kY | apply kZ)
    all_goals first | (exfalso; omega) | skip
    refine zcall (fun i => ρr i) (c2) rfl rfl leh rfl rfl rfl rfl rfl rfl (fun r h' hR => ?_)
    obtain ⟨rfl, rfl⟩ := hR
    refine ⟨rfl, rfl, ?_⟩
    repeat' (first | (show W _ _ _ _ _ _; first | apply kA | refine kB rfl ?_ | refine kC rfl rfl ?_ | refine kD rfl rfl ?_ | apply kE | apply kF | apply kG | apply kH | refine kI (by kernel_rfl) (by kernel_rfl) ?_) | (show O _ _ _ _ _ _ _; first | (show O _ _ _ _ (⟨_, .store _ _ _, _, _, _, _⟩ :: _) _ _; refine kJ rfl rfl rfl rfl rfl rfl rfl rfl rfl rfl rfl ?_) | apply kK) | apply kL | ((first | apply kM | apply kN); (iterate 3 (· exact rfl)); (· first | exact ya)) | refine kO rfl rfl rfl rfl rfl ?_ | refine kP rfl rfl rfl ?_ | ((first | refine kQ rfl rfl ?_ ?_ | refine kR rfl rfl rfl rfl rfl ?_ ?_ | refine kS rfl rfl rfl ?_ ?_) <;> intro hc <;> (try simp only [KL, cond_true, cond_false, beq_iff_eq, bne_iff_ne, ne_eq, reduceCtorEq] at hc) <;> (try (have hT : True := hc; clear hT hc)) <;> (try (exfalso; omega))) | apply kT | apply kU | apply kV | apply kW | refine kX rfl ?_ | apply kY | apply kZ)
    all_goals first | (exfalso; omega) | skip
    refine oturn (turn_mask [false, false, true] (id := 0) rfl) ?_
    refine ole (h' := [(6, .row 84 2 (B.overs.map eDue)), (0, .blk 59 [.lst 7 (l.map eTask), .own 5, .undef]), (5, .row 49 8 (B.all.map eJob))]) (LeS.refl _) leh ?_
    (refine ao_ap (id := 6) (ys := [(⟨inT t, i⟩ : Due)]) (by_ := 16) rfl rfl rfl rfl rfl rfl rfl rfl rfl rfl (fun _ _ => rfl) ?_ ?_ rfl rfl rfl rfl rfl ?_; (· (first | omega | ((try simp only [List.length_cons, List.length_nil, List.length_append, List.length_map]) <;> omega))); (· (first | omega | ((try simp only [List.length_cons, List.length_nil, List.length_append, List.length_map]) <;> omega))))
    repeat' (first | (show W _ _ _ _ _ _; first | apply kA | refine kB rfl ?_ | refine kC rfl rfl ?_ | refine kD rfl rfl ?_ | apply kE | apply kF | apply kG | apply kH | refine kI (by kernel_rfl) (by kernel_rfl) ?_) | (show O _ _ _ _ _ _ _; first | (show O _ _ _ _ (⟨_, .store _ _ _, _, _, _, _⟩ :: _) _ _; refine kJ rfl rfl rfl rfl rfl rfl rfl rfl rfl rfl rfl ?_) | apply kK) | apply kL | ((first | apply kM | apply kN); (iterate 3 (· exact rfl)); (· first | exact ya)) | refine kO rfl rfl rfl rfl rfl ?_ | refine kP rfl rfl rfl ?_ | ((first | refine kQ rfl rfl ?_ ?_ | refine kR rfl rfl rfl rfl rfl ?_ ?_ | refine kS rfl rfl rfl ?_ ?_) <;> intro hc <;> (try simp only [KL, cond_true, cond_false, beq_iff_eq, bne_iff_ne, ne_eq, reduceCtorEq] at hc) <;> (try (have hT : True := hc; clear hT hc)) <;> (try (exfalso; omega))) | apply kT | apply kU | apply kV | apply kW | refine kX rfl ?_ | apply kY | apply kZ)
    exact retq rfl ⟨rbH l B.all (B.overs ++ [⟨inT t, i⟩]), leh, rfl, rfl⟩
  case false =>
    have e1 : relOk (hd64 l) B i = true := by rw [relOk, decide_eq_false h0, hh]; rfl
    have e2 : relBk (hd64 l) B i t = ⟨B.all ++ [newJb (hd64 l) B i t], setM B.now i B.all.length, setM B.cnt i (noB B i + 1), putN B.act i, B.overs⟩ := by rw [relBk, if_neg h0, if_neg (by rw [hh]; exact Bool.false_ne_true)]
    rw [e1, e2, if_pos rfl]
    rw [hh, if_neg (by decide)] at c2
    have hcnt := h.cnt i
    have ej : newJb (hd64 l) B i t = ⟨i, noB B i, inT t, addT (inT t) (l.getD i.toNat default).deadline, -1, -1, 0, false⟩ := by
      rw [newJb, hd64, List.getD_eq_getElem?_getD, List.getElem?_take, if_pos (by omega), ← List.getD_eq_getElem?_getD]
    rw [ej, hcnt]
    repeat' (first | (show W _ _ _ _ _ _; first | apply kA | refine kB rfl ?_ | refine kC rfl rfl ?_ | refine kD rfl rfl ?_ | apply kE | apply kF | apply kG | apply kH | refine kI (by kernel_rfl) (by kernel_rfl) ?_) | (show O _ _ _ _ _ _ _; first | (show O _ _ _ _ (⟨_, .store _ _ _, _, _, _, _⟩ :: _) _ _; refine kJ rfl rfl rfl rfl rfl rfl rfl rfl rfl rfl rfl ?_) | apply kK) | apply kL | ((first | apply kM | apply kN); (iterate 3 (· exact rfl)); (· first | (show Y _ ⟨_, .call ⟨.value _, _, _⟩, _, _, _, _⟩ _ _ _; first | exact q_c (c1) rfl) | exact ya)) | refine kO rfl rfl rfl rfl rfl ?_ | refine kP rfl rfl rfl ?_ | ((first | refine kQ rfl rfl ?_ ?_ | refine kR rfl rfl rfl rfl rfl ?_ ?_ | refine kS rfl rfl rfl ?_ ?_) <;> intro hc <;> (try simp only [KL, cond_true, cond_false, beq_iff_eq, bne_iff_ne, ne_eq, reduceCtorEq] at hc) <;> (try (have hT : True := hc; clear hT hc)) <;> (try (exfalso; omega))) | apply kT | apply kU | apply kV | apply kW | refine kX rfl ?_ | apply kY | apply kZ)
    all_goals first | (exfalso; omega) | skip
    refine zcall (fun i => ρr i) (c2) rfl rfl leh rfl rfl rfl rfl rfl rfl (fun r h' hR => ?_)
    obtain ⟨rfl, rfl⟩ := hR
    refine ⟨rfl, rfl, ?_⟩
    repeat' (first | (show W _ _ _ _ _ _; first | apply kA | refine kB rfl ?_ | refine kC rfl rfl ?_ | refine kD rfl rfl ?_ | apply kE | apply kF | apply kG | apply kH | refine kI (by kernel_rfl) (by kernel_rfl) ?_) | (show O _ _ _ _ _ _ _; first | (show O _ _ _ _ (⟨_, .store _ _ _, _, _, _, _⟩ :: _) _ _; refine kJ rfl rfl rfl rfl rfl rfl rfl rfl rfl rfl rfl ?_) | apply kK) | apply kL | ((first | apply kM | apply kN); (iterate 3 (· exact rfl)); (· first | exact ya)) | refine kO rfl rfl rfl rfl rfl ?_ | refine kP rfl rfl rfl ?_ | ((first | refine kQ rfl rfl ?_ ?_ | refine kR rfl rfl rfl rfl rfl ?_ ?_ | refine kS rfl rfl rfl ?_ ?_) <;> intro hc <;> (try simp only [KL, cond_true, cond_false, beq_iff_eq, bne_iff_ne, ne_eq, reduceCtorEq] at hc) <;> (try (have hT : True := hc; clear hT hc)) <;> (try (exfalso; omega))) | apply kT | apply kU | apply kV | apply kW | refine kX rfl ?_ | apply kY | apply kZ)
    all_goals first | (exfalso; omega) | skip
    refine wloop (fun k : Nat => ([(0, .ptr 0 0), (1, .int .i64 i), (2, .int .i64 (inT t)), (8, .int .i64 (cntT (B.all.take k) i)), (47, .own 5), (48, .int .i64 B.all.length), (49, .int .i64 k)], rbH l B.all B.overs)) (fun k => k ≤ B.all.length) (fun k => B.all.length - k) 0 (Nat.zero_le _) les leh (fun k hk => ?_)
    have hcl := cntT_le (B.all.take k) i
    have htl : (B.all.take k).length = k := by rw [List.length_take]; omega
    rcases Nat.lt_or_eq_of_le hk with hlt | rfl
    · have hnx := cntJ_next B.all i k hlt
      by_cases htk : (B.all.getD k default).task = i
      · rw [if_pos htk] at hnx
        repeat' (first | (show W _ _ _ _ _ _; first | apply kA | refine kB rfl ?_ | refine kC rfl rfl ?_ | refine kD rfl rfl ?_ | apply kE | apply kF | apply kG | apply kH | refine kI (by kernel_rfl) (by kernel_rfl) ?_) | (show O _ _ _ _ _ _ _; first | (show O _ _ _ _ (⟨_, .alloc _, _, _, _, _⟩ :: _) _ _; first | refine ao_alloc (id := 20) rfl rfl rfl rfl rfl rfl rfl ?_) | (show O _ _ _ _ (⟨_, .store _ _ _, _, _, _, _⟩ :: _) _ _; refine kJ rfl rfl rfl rfl rfl rfl rfl rfl rfl rfl rfl ?_) | apply kK) | apply kL | ((first | apply kM | apply kN); (iterate 3 (· exact rfl)); (· first | exact ya)) | refine kO rfl rfl rfl rfl rfl ?_ | refine kP rfl rfl rfl ?_ | ((first | refine kQ rfl rfl ?_ ?_ | refine kR rfl rfl rfl rfl rfl ?_ ?_ | refine kS rfl rfl rfl ?_ ?_) <;> intro hc <;> (try simp only [KL, cond_true, cond_false, beq_iff_eq, bne_iff_ne, ne_eq, reduceCtorEq] at hc) <;> (try (have hT : True := hc; clear hT hc)) <;> (try (exfalso; omega))) | apply kT | apply kU | apply kV | apply kW | refine kX rfl ?_ | apply kY | apply kZ)
        all_goals first | (exfalso; omega) | exact ⟨k + 1, by omega, by omega, by simp only [hnx]; exact les, leh⟩
      · rw [if_neg htk, Int.add_zero] at hnx
        repeat' (first | (show W _ _ _ _ _ _; first | apply kA | refine kB rfl ?_ | refine kC rfl rfl ?_ | refine kD rfl rfl ?_ | apply kE | apply kF | apply kG | apply kH | refine kI (by kernel_rfl) (by kernel_rfl) ?_) | (show O _ _ _ _ _ _ _; first | (show O _ _ _ _ (⟨_, .alloc _, _, _, _, _⟩ :: _) _ _; first | refine ao_alloc (id := 20) rfl rfl rfl rfl rfl rfl rfl ?_) | (show O _ _ _ _ (⟨_, .store _ _ _, _, _, _, _⟩ :: _) _ _; refine kJ rfl rfl rfl rfl rfl rfl rfl rfl rfl rfl rfl ?_) | apply kK) | apply kL | ((first | apply kM | apply kN); (iterate 3 (· exact rfl)); (· first | exact ya)) | refine kO rfl rfl rfl rfl rfl ?_ | refine kP rfl rfl rfl ?_ | ((first | refine kQ rfl rfl ?_ ?_ | refine kR rfl rfl rfl rfl rfl ?_ ?_ | refine kS rfl rfl rfl ?_ ?_) <;> intro hc <;> (try simp only [KL, cond_true, cond_false, beq_iff_eq, bne_iff_ne, ne_eq, reduceCtorEq] at hc) <;> (try (have hT : True := hc; clear hT hc)) <;> (try (exfalso; omega))) | apply kT | apply kU | apply kV | apply kW | refine kX rfl ?_ | apply kY | apply kZ)
        all_goals first | (exfalso; omega) | exact ⟨k + 1, by omega, by omega, by simp only [hnx]; exact les, leh⟩
    · rw [List.take_length] at *
      generalize cntT B.all i = no at *
      repeat' (first | (show W _ _ _ _ _ _; first | apply kA | refine kB rfl ?_ | refine kC rfl rfl ?_ | refine kD rfl rfl ?_ | apply kE | apply kF | apply kG | apply kH) | (show O _ _ _ _ _ _ _; first | (show O _ _ _ _ (⟨_, .store _ _ _, _, _, _, _⟩ :: _) _ _; refine kJ rfl rfl rfl rfl rfl rfl rfl rfl rfl rfl rfl ?_) | apply kK) | apply kL | ((first | apply kM | apply kN); (iterate 3 (· exact rfl)); (· first | exact ya)) | refine kO rfl rfl rfl rfl rfl ?_ | refine kP rfl rfl rfl ?_ | ((first | refine kQ rfl rfl ?_ ?_ | refine kR rfl rfl rfl rfl rfl ?_ ?_ | refine kS rfl rfl rfl ?_ ?_) <;> intro hc <;> (try simp only [KL, cond_true, cond_false, beq_iff_eq, bne_iff_ne, ne_eq, reduceCtorEq] at hc) <;> (try (have hT : True := hc; clear hT hc)) <;> (try (exfalso; omega))) | apply kT | apply kU | apply kV | apply kW | refine kX rfl ?_ | apply kY | apply kZ)
      all_goals first | (exfalso; omega) | skip
      refine wle (s' := [(0, .ptr 0 0), (1, .int .i64 i), (2, .int .i64 (inT t)), (8, .int .i64 no)]) (h' := rbH l B.all B.overs) les leh ?_
      refine wdrawK (H := fun y : List Job × AV => [(5, .row 49 8 (y.1.map eJob)), (0, .blk 59 [.lst 7 (l.map eTask), y.2, .own 6]), (6, .row 84 2 (B.overs.map eDue))]) (ok := fun _ => True) (tn := [20, 23]) (ln := [4]) (c := 20) (R := 5) (B.all, .own 5) leh (by kernel_rfl) (by kernel_rfl) (by kernel_rfl) trivial ?_
      repeat' (first | (show W _ _ _ _ _ _; first | apply kA | refine kB rfl ?_ | refine kC rfl rfl ?_ | refine kD rfl rfl ?_ | apply kE | apply kF | apply kG | apply kH | refine kI (by kernel_rfl) (by kernel_rfl) ?_) | (show O _ _ _ _ _ _ _; first | (show O _ _ _ _ (⟨_, .store _ _ _, _, _, _, _⟩ :: _) _ _; refine kJ rfl rfl rfl rfl rfl rfl rfl rfl rfl rfl rfl ?_) | apply kK) | apply kL | ((first | apply kM | apply kN); (iterate 3 (· exact rfl)); (· first | (show Y _ ⟨_, .call ⟨.value _, _, _⟩, _, _, _, _⟩ _ _ _; first | exact q_c (raddT_fn _ _) rfl) | exact ya)) | (show KW _ _ _ _ _ _ _ _ _ _ _ _ _; first | refine knil rfl ?_ | (apply k_any; (· exact rfl); (· exact rfl); (· exact rfl); (· intro y' hy'; first | (show Y _ ⟨_, .call ⟨.value _, _, _⟩, _, _, _, _⟩ _ _ _; first | exact q_c (raddT_fn _ _) rfl) | exact ya); (· first | exact rfl | kernel_rfl)) | (apply k_ld; (· exact rfl); (· exact rfl); (· exact rfl); (· exact rfl); (· first | (show Y _ ⟨_, .call ⟨.value _, _, _⟩, _, _, _, _⟩ _ _ _; first | exact q_c (raddT_fn _ _) rfl) | exact ya); (· first | exact rfl | kernel_rfl))) | refine kO rfl rfl rfl rfl rfl ?_ | refine kP rfl rfl rfl ?_ | ((first | refine kQ rfl rfl ?_ ?_ | refine kR rfl rfl rfl rfl rfl ?_ ?_ | refine kS rfl rfl rfl ?_ ?_) <;> intro hc <;> (try simp only [KL, cond_true, cond_false, beq_iff_eq, bne_iff_ne, ne_eq, reduceCtorEq] at hc) <;> (try (have hT : True := hc; clear hT hc)) <;> (try (exfalso; omega))) | apply kT | apply kU | apply kV | apply kW | refine kX rfl ?_ | apply kY | apply kZ)
      refine k_mv (x' := (B.all ++ [(⟨i, no, inT t, addT (inT t) (l.getD i.toNat default).deadline, -1, -1, 0, false⟩ : Job)], .undef)) rfl rfl rfl trivial
        (TuK.post (TuK.pre (pre_mask (h2 := [(5, .row 49 8 (B.all.map eJob)), (0, .blk 59 [.lst 7 (l.map eTask), .undef, .own 6]), (6, .row 84 2 (B.overs.map eDue))]) [false, true] (id := 0) rfl leh)
          (tk_append (ys := [(⟨i, no, inT t, addT (inT t) (l.getD i.toNat default).deadline, -1, -1, 0, false⟩ : Job)]) (by_ := 64) rfl rfl rfl rfl rfl rfl rfl rfl rfl rfl (fun _ _ => rfl) (by simp only [List.length_cons, List.length_nil]; omega) (by simp only [List.length_cons, List.length_nil]; omega) rfl rfl)) leh) ?_
      repeat' (first | (show W _ _ _ _ _ _; first | apply kA | refine kB rfl ?_ | refine kC rfl rfl ?_ | refine kD rfl rfl ?_ | apply kE | apply kF | apply kG | apply kH | refine kI (by kernel_rfl) (by kernel_rfl) ?_) | (show O _ _ _ _ _ _ _; first | (show O _ _ _ _ (⟨_, .store _ _ _, _, _, _, _⟩ :: _) _ _; refine kJ rfl rfl rfl rfl rfl rfl rfl rfl rfl rfl rfl ?_) | apply kK) | apply kL | ((first | apply kM | apply kN); (iterate 3 (· exact rfl)); (· first | exact ya)) | (show KW _ _ _ _ _ _ _ _ _ _ _ _ _; first | refine knil rfl ?_ | (apply k_any; (· exact rfl); (· exact rfl); (· exact rfl); (· intro y' hy'; first | exact ya); (· first | exact rfl | kernel_rfl)) | (apply k_ld; (· exact rfl); (· exact rfl); (· exact rfl); (· exact rfl); (· first | exact ya); (· first | exact rfl | kernel_rfl))) | refine kO rfl rfl rfl rfl rfl ?_ | refine kP rfl rfl rfl ?_ | ((first | refine kQ rfl rfl ?_ ?_ | refine kR rfl rfl rfl rfl rfl ?_ ?_ | refine kS rfl rfl rfl ?_ ?_) <;> intro hc <;> (try simp only [KL, cond_true, cond_false, beq_iff_eq, bne_iff_ne, ne_eq, reduceCtorEq] at hc) <;> (try (have hT : True := hc; clear hT hc)) <;> (try (exfalso; omega))) | apply kT | apply kU | apply kV | apply kW | refine kX rfl ?_ | apply kY | apply kZ)
      refine k_tu (x' := (B.all ++ [(⟨i, no, inT t, addT (inT t) (l.getD i.toNat default).deadline, -1, -1, 0, false⟩ : Job)], .own 5)) rfl rfl rfl trivial ((tu_st (sto_B rfl rfl rfl rfl rfl rfl (Nat.le_of_ble_eq_true rfl)) rfl).post leh) (by kernel_rfl) ?_
      repeat' (first | (show W _ _ _ _ _ _; first | apply kA | refine kB rfl ?_ | refine kC rfl rfl ?_ | refine kD rfl rfl ?_ | apply kE | apply kF | apply kG | apply kH | refine kI (by kernel_rfl) (by kernel_rfl) ?_) | (show O _ _ _ _ _ _ _; first | (show O _ _ _ _ (⟨_, .store _ _ _, _, _, _, _⟩ :: _) _ _; refine kJ rfl rfl rfl rfl rfl rfl rfl rfl rfl rfl rfl ?_) | apply kK) | apply kL | ((first | apply kM | apply kN); (iterate 3 (· exact rfl)); (· first | exact ya)) | (show KW _ _ _ _ _ _ _ _ _ _ _ _ _; first | refine knil rfl ?_ | (apply k_any; (· exact rfl); (· exact rfl); (· exact rfl); (· intro y' hy'; first | exact ya); (· first | exact rfl | kernel_rfl)) | (apply k_ld; (· exact rfl); (· exact rfl); (· exact rfl); (· exact rfl); (· first | exact ya); (· first | exact rfl | kernel_rfl))) | refine kO rfl rfl rfl rfl rfl ?_ | refine kP rfl rfl rfl ?_ | ((first | refine kQ rfl rfl ?_ ?_ | refine kR rfl rfl rfl rfl rfl ?_ ?_ | refine kS rfl rfl rfl ?_ ?_) <;> intro hc <;> (try simp only [KL, cond_true, cond_false, beq_iff_eq, bne_iff_ne, ne_eq, reduceCtorEq] at hc) <;> (try (have hT : True := hc; clear hT hc)) <;> (try (exfalso; omega))) | apply kT | apply kU | apply kV | apply kW | refine kX rfl ?_ | apply kY | apply kZ)
      exact retq rfl ⟨rbH l (B.all ++ [(⟨i, no, inT t, addT (inT t) (l.getD i.toNat default).deadline, -1, -1, 0, false⟩ : Job)]) B.overs, leh, rfl, rfl⟩
def setTo (js : List Job) : Nat → List Int
  | 0 => []
  | k + 1 => if 0 ≤ actI js k then setTo js k ++ [(k : Int)] else setTo js k
theorem setTo_len (js : List Job) : ∀ k, (setTo js k).length ≤ k
  | 0 => Nat.le_refl _
  | k + 1 => by
    have := setTo_len js k
    rw [setTo]; split
    · rw [List.length_append, List.length_cons, List.length_nil]; omega
    · omega
theorem mem_setTo {js : List Job} {x : Int} : ∀ k : Nat, x ∈ setTo js k ↔ 0 ≤ x ∧ x < k ∧ 0 ≤ actI js x
  | 0 => ⟨fun h => (by cases h), fun h => (by omega)⟩
  | k + 1 => by
    have ih := mem_setTo (js := js) (x := x) k
    rw [setTo]
    split
    · rename_i ha
      rw [List.mem_append, ih, List.mem_singleton]
      constructor
      · rintro (⟨h1, h2, h3⟩ | rfl)
        · exact ⟨h1, by omega, h3⟩
        · exact ⟨by omega, by omega, ha⟩
      · intro ⟨h1, h2, h3⟩
        by_cases e : x = k
        · exact .inr e
        · exact .inl ⟨h1, by omega, h3⟩
    · rename_i ha
      rw [ih]
      exact ⟨fun ⟨h1, h2, h3⟩ => ⟨h1, by omega, h3⟩, fun ⟨h1, h2, h3⟩ => ⟨h1, by
        by_cases e : x = k
        · subst e; exact absurd h3 ha
        · omega, h3⟩⟩
theorem set_good {l : List Task} {n : Nat} {B : Bk} (h : GoodB l n B) : ofTo (setTo B.all 64) 64 = B.act := by
  refine (of_ext h.act fun j hj => ?_).symm
  rw [mem_setTo, actI_good h]
  have hq : hasN B.act (j : Int) = true ↔ B.act.testBit j = true := by
    rw [hasN_eq, decide_eq_true_eq, mem_setL, Int.toNat_natCast]
    exact ⟨fun q => q.2.2, fun q => ⟨by omega, by omega, q⟩⟩
  constructor
  · intro q
    rw [if_pos (hq.2 q)]
    exact ⟨by omega, by omega, by omega⟩
  · intro ⟨_, _, q⟩
    split at q
    · exact hq.1 ‹_›
    · omega
set_option maxHeartbeats 2000000 in
theorem rset_fn (l : List Task) (js : List Job) (os : List Due) (hl : js.length ≤ 1000000) : FnH Tryd.prog 60 [.ptr 0 0] (rbP l js os) (fun r h' => r = .int .u64 (ofTo (setTo js 64) 64 : Nat) ∧ h' = rbP l js os) := by
  refine FnH.drop' (fnhb Tryd.func60 (entered_of (by kernel_rfl)) rfl rfl ?_)
  repeat' (first | (show W _ _ _ _ _ _; first | apply kA | refine kB rfl ?_ | refine kC rfl rfl ?_ | refine kD rfl rfl ?_ | apply kE | apply kF | apply kG | apply kH | refine kI (by kernel_rfl) (by kernel_rfl) ?_) | (show O _ _ _ _ _ _ _; first | (show O _ _ _ _ (⟨_, .store _ _ _, _, _, _, _⟩ :: _) _ _; refine kJ rfl rfl rfl rfl rfl rfl rfl rfl rfl rfl rfl ?_) | apply kK) | apply kL | ((first | apply kM | apply kN); (iterate 3 (· exact rfl)); (· first | exact ya)) | refine kO rfl rfl rfl rfl rfl ?_ | refine kP rfl rfl rfl ?_ | ((first | refine kQ rfl rfl ?_ ?_ | refine kR rfl rfl rfl rfl rfl ?_ ?_ | refine kS rfl rfl rfl ?_ ?_) <;> intro hc <;> (try simp only [KL, cond_true, cond_false, beq_iff_eq, bne_iff_ne, ne_eq, reduceCtorEq] at hc) <;> (try (have hT : True := hc; clear hT hc)) <;> (try (exfalso; omega))) | apply kT | apply kU | apply kV | apply kW | refine kX rfl ?_ | apply kY | apply kZ)
  refine wturn (turn_own eI (t := 3) rfl 10 3 1 (by omega) rfl) ?_
  refine wloop (fun k : Nat => ([(0, .ptr 0 0), (3, .own 10), (4, .int .i64 k)], rbP l js os ++ [(10, .row 3 1 ((setTo js k).map eI))])) (fun k => k ≤ 64) (fun k => 64 - k) 0 (Nat.zero_le _) les leh (fun k hk => ?_)
  have hsl := setTo_len js k
  rcases Nat.lt_or_eq_of_le hk with hlt | rfl
  · have c1 := ractive_fn l js os hl k
    repeat' (first | (show W _ _ _ _ _ _; first | apply kA | refine kB rfl ?_ | refine kC rfl rfl ?_ | refine kD rfl rfl ?_ | apply kE | apply kF | apply kG | apply kH | refine kI (by kernel_rfl) (by kernel_rfl) ?_) | (show O _ _ _ _ _ _ _; first | (show O _ _ _ _ (⟨_, .store _ _ _, _, _, _, _⟩ :: _) _ _; refine kJ rfl rfl rfl rfl rfl rfl rfl rfl rfl rfl rfl ?_) | apply kK) | apply kL | ((first | apply kM | apply kN); (iterate 3 (· exact rfl)); (· first | exact ya)) | refine kO rfl rfl rfl rfl rfl ?_ | refine kP rfl rfl rfl ?_ | ((first | refine kQ rfl rfl ?_ ?_ | refine kR rfl rfl rfl rfl rfl ?_ ?_ | refine kS rfl rfl rfl ?_ ?_) <;> intro hc <;> (try simp only [KL, cond_true, cond_false, beq_iff_eq, bne_iff_ne, ne_eq, reduceCtorEq] at hc) <;> (try (have hT : True := hc; clear hT hc)) <;> (try (exfalso; omega))) | apply kT | apply kU | apply kV | apply kW | refine kX rfl ?_ | apply kY | apply kZ)
    all_goals first | (exfalso; omega) | skip
    refine zcall (fun i => i) (c1) rfl rfl leh rfl rfl rfl rfl rfl rfl (fun r h' hR => ?_)
    obtain ⟨rfl, rfl⟩ := hR
    refine ⟨rfl, rfl, ?_⟩
    by_cases ha : 0 ≤ actI js k
    · have hnx : setTo js (k + 1) = setTo js k ++ [(k : Int)] := by rw [setTo, if_pos ha]
      repeat' (first | (show W _ _ _ _ _ _; first | apply kA | refine kB rfl ?_ | refine kC rfl rfl ?_ | refine kD rfl rfl ?_ | apply kE | apply kF | apply kG | apply kH | refine kI (by kernel_rfl) (by kernel_rfl) ?_) | (show O _ _ _ _ _ _ _; first | (show O _ _ _ _ (⟨_, .store _ _ _, _, _, _, _⟩ :: _) _ _; refine kJ rfl rfl rfl rfl rfl rfl rfl rfl rfl rfl rfl ?_) | apply kK) | apply kL | ((first | apply kM | apply kN); (iterate 3 (· exact rfl)); (· first | exact ya)) | refine kO rfl rfl rfl rfl rfl ?_ | refine kP rfl rfl rfl ?_ | ((first | refine kQ rfl rfl ?_ ?_ | refine kR rfl rfl rfl rfl rfl ?_ ?_ | refine kS rfl rfl rfl ?_ ?_) <;> intro hc <;> (try simp only [KL, cond_true, cond_false, beq_iff_eq, bne_iff_ne, ne_eq, reduceCtorEq] at hc) <;> (try (have hT : True := hc; clear hT hc)) <;> (try (exfalso; omega))) | apply kT | apply kU | apply kV | apply kW | refine kX rfl ?_ | apply kY | apply kZ)
      all_goals first | (exfalso; omega) | skip
      (refine ao_ap (id := 10) (ys := [(k : Int)]) (by_ := 8) rfl rfl rfl rfl rfl rfl rfl rfl rfl rfl (fun _ _ => rfl) ?_ ?_ rfl rfl rfl rfl rfl ?_; (· (first | omega | ((try simp only [List.length_cons, List.length_nil, List.length_append, List.length_map]) <;> omega))); (· (first | omega | ((try simp only [List.length_cons, List.length_nil, List.length_append, List.length_map]) <;> omega))))
      repeat' (first | (show W _ _ _ _ _ _; first | apply kA | refine kB rfl ?_ | refine kC rfl rfl ?_ | refine kD rfl rfl ?_ | apply kE | apply kF | apply kG | apply kH | refine kI (by kernel_rfl) (by kernel_rfl) ?_) | (show O _ _ _ _ _ _ _; first | (show O _ _ _ _ (⟨_, .store _ _ _, _, _, _, _⟩ :: _) _ _; refine kJ rfl rfl rfl rfl rfl rfl rfl rfl rfl rfl rfl ?_) | apply kK) | apply kL | ((first | apply kM | apply kN); (iterate 3 (· exact rfl)); (· first | exact ya)) | refine kO rfl rfl rfl rfl rfl ?_ | refine kP rfl rfl rfl ?_ | ((first | refine kQ rfl rfl ?_ ?_ | refine kR rfl rfl rfl rfl rfl ?_ ?_ | refine kS rfl rfl rfl ?_ ?_) <;> intro hc <;> (try simp only [KL, cond_true, cond_false, beq_iff_eq, bne_iff_ne, ne_eq, reduceCtorEq] at hc) <;> (try (have hT : True := hc; clear hT hc)) <;> (try (exfalso; omega))) | apply kT | apply kU | apply kV | apply kW | refine kX rfl ?_ | apply kY | apply kZ)
      exact ⟨k + 1, by omega, by omega, les, by simp only [hnx]; exact leh⟩
    · have hnx : setTo js (k + 1) = setTo js k := by rw [setTo, if_neg ha]
      repeat' (first | (show W _ _ _ _ _ _; first | apply kA | refine kB rfl ?_ | refine kC rfl rfl ?_ | refine kD rfl rfl ?_ | apply kE | apply kF | apply kG | apply kH | refine kI (by kernel_rfl) (by kernel_rfl) ?_) | (show O _ _ _ _ _ _ _; first | (show O _ _ _ _ (⟨_, .store _ _ _, _, _, _, _⟩ :: _) _ _; refine kJ rfl rfl rfl rfl rfl rfl rfl rfl rfl rfl rfl ?_) | apply kK) | apply kL | ((first | apply kM | apply kN); (iterate 3 (· exact rfl)); (· first | exact ya)) | refine kO rfl rfl rfl rfl rfl ?_ | refine kP rfl rfl rfl ?_ | ((first | refine kQ rfl rfl ?_ ?_ | refine kR rfl rfl rfl rfl rfl ?_ ?_ | refine kS rfl rfl rfl ?_ ?_) <;> intro hc <;> (try simp only [KL, cond_true, cond_false, beq_iff_eq, bne_iff_ne, ne_eq, reduceCtorEq] at hc) <;> (try (have hT : True := hc; clear hT hc)) <;> (try (exfalso; omega))) | apply kT | apply kU | apply kV | apply kW | refine kX rfl ?_ | apply kY | apply kZ)
      all_goals first | (exfalso; omega) | exact ⟨k + 1, by omega, by omega, les, by simp only [hnx]; exact leh⟩
  · have c2 := of3_fn (setTo js 64) (by omega)
    repeat' (first | (show W _ _ _ _ _ _; first | apply kA | refine kB rfl ?_ | refine kC rfl rfl ?_ | refine kD rfl rfl ?_ | apply kE | apply kF | apply kG | apply kH | refine kI (by kernel_rfl) (by kernel_rfl) ?_) | (show O _ _ _ _ _ _ _; first | (show O _ _ _ _ (⟨_, .store _ _ _, _, _, _, _⟩ :: _) _ _; refine kJ rfl rfl rfl rfl rfl rfl rfl rfl rfl rfl rfl ?_) | apply kK) | apply kL | ((first | apply kM | apply kN); (iterate 3 (· exact rfl)); (· first | exact ya)) | refine kO rfl rfl rfl rfl rfl ?_ | refine kP rfl rfl rfl ?_ | ((first | refine kQ rfl rfl ?_ ?_ | refine kR rfl rfl rfl rfl rfl ?_ ?_ | refine kS rfl rfl rfl ?_ ?_) <;> intro hc <;> (try simp only [KL, cond_true, cond_false, beq_iff_eq, bne_iff_ne, ne_eq, reduceCtorEq] at hc) <;> (try (have hT : True := hc; clear hT hc)) <;> (try (exfalso; omega))) | apply kT | apply kU | apply kV | apply kW | refine kX rfl ?_ | apply kY | apply kZ)
    all_goals first | (exfalso; omega) | skip
    refine oturn (turn_freeze (t := 17) (id := 10) rfl rfl rfl) ?_
    repeat' (first | (show W _ _ _ _ _ _; first | apply kA | refine kB rfl ?_ | refine kC rfl rfl ?_ | refine kD rfl rfl ?_ | apply kE | apply kF | apply kG | apply kH | refine kI (by kernel_rfl) (by kernel_rfl) ?_) | (show O _ _ _ _ _ _ _; first | (show O _ _ _ _ (⟨_, .store _ _ _, _, _, _, _⟩ :: _) _ _; refine kJ rfl rfl rfl rfl rfl rfl rfl rfl rfl rfl rfl ?_) | apply kK) | apply kL | ((first | apply kM | apply kN); (iterate 3 (· exact rfl)); (· first | (show Y _ ⟨_, .call ⟨.value _, _, _⟩, _, _, _, _⟩ _ _ _; first | exact q_c (c2) rfl) | exact ya)) | refine kO rfl rfl rfl rfl rfl ?_ | refine kP rfl rfl rfl ?_ | ((first | refine kQ rfl rfl ?_ ?_ | refine kR rfl rfl rfl rfl rfl ?_ ?_ | refine kS rfl rfl rfl ?_ ?_) <;> intro hc <;> (try simp only [KL, cond_true, cond_false, beq_iff_eq, bne_iff_ne, ne_eq, reduceCtorEq] at hc) <;> (try (have hT : True := hc; clear hT hc)) <;> (try (exfalso; omega))) | apply kT | apply kU | apply kV | apply kW | refine kX rfl ?_ | apply kY | apply kZ)
    exact retq rfl ⟨rbP l js os, leh, rfl, rfl⟩
end Go.Proofs.YtnijdaidmpjccaaDoor
namespace Go.Proofs.YtnijdaidmpjccaaDoor
set_option linter.unusedSimpArgs false
set_option linter.unusedVariables false
set_option maxRecDepth 100000
set_option linter.unusedSimpArgs false
set_option linter.unusedVariables false
set_option maxRecDepth 100000
open Go.RowKit
section
variable {P : Program} {n : Md} {Q : Exit → Slots → Heap → Prop} {s : Slots} {h : Heap} {ops : Array Oper} {rest : List Oper} {o : Oper}
variable {β : Type} {H : β → Bool → Heap} {ok ok1 : β → Prop} {K : Slots → β → Prop} {tn ln : List Nat} {c N : Nat} {nw : Nat → List Nat} {m : Nat} {x : β}
/-- .. behind a guard that holds. -/
theorem qw_anyG {j d : Nat} {want : Bool} {v : AV} (hg : o.guard = some (j, want)) (hd : dstAt ops j = some d) (hb : get s d = .bool want) (hm : Nat.beq m c = false) (ht : tn.contains m = false) (hv : ∀ y f, ok y → Y P o s (H y f) v) (hq : mQ ops c N tn nw m v = true) (hk : QW P ops H ok ok1 tn ln c N nw K (m + 1) rest (putS s o.dst v) x) : QW P ops H ok ok1 tn ln c N nw K m (o :: rest) s x :=
  ⟨.inr (.inr (.inl ⟨.inr ⟨j, want, d, hg, hd, hb⟩, fun e => by rw [e] at hm; simp at hm, ht, v, hq, .inr fun y f hy => (hv y f hy).out, hk.out⟩))⟩
theorem qw_tuG {j d : Nat} {want : Bool} {v : AV} {x' : β} (hg : o.guard = some (j, want)) (hd : dstAt ops j = some d) (hb : get s d = .bool want) (hm : Nat.beq m c = false) (ht : tn.contains m = true) (hx : ok x') (hx1 : ok1 x') (hv : ∀ f, fO ops c m f = true → TuL P (nw m) o s (H x f) (H x' f) v) (hq : mQ ops c N tn nw m v = true) (hk : QW P ops H ok ok1 tn ln c N nw K (m + 1) rest (putS s o.dst v) x') : QW P ops H ok ok1 tn ln c N nw K m (o :: rest) s x :=
  ⟨.inl ⟨.inr ⟨j, want, d, hg, hd, hb⟩, fun e => by rw [e] at hm; simp at hm, ht, x', v, hx, fun _ => hx1, hq, hv, hk.out⟩⟩
end
abbrev ldP (l : List Task) (B : Bk) : Heap :=
  [(0, .blk 80 [.lst 7 (l.map eTask), .own 1, .own 2, .own 3, .int .u64 B.act, .own 4]), (1, .row 49 8 (B.all.map eJob)), (2, mI B.now), (3, mI B.cnt), (4, .row 84 2 (B.overs.map eDue))]
abbrev dumJ (i : Nat) : Nat × Chunk := (i, .row 49 8 (([] : List Job).map eJob))
abbrev dumD (i : Nat) : Nat × Chunk := (i, .row 84 2 (([] : List Due).map eDue))
abbrev dumZ (i : Nat) : Nat × Chunk := (i, .row 3 1 (([] : List Int).map eI))
abbrev ldN (l : List Task) (B : Bk) : Heap :=
  [(5, .row 49 8 (B.all.map eJob)), (6, .row 84 2 (B.overs.map eDue)), (7, mI B.now), (8, mI B.cnt), (9, .blk 80 [.lst 7 (l.map eTask), .own 5, .own 7, .own 8, .int .u64 B.act, .own 6])]
def cB (l : List Task) (B : Bk) (a b c d : AV) : Nat × Chunk := (9, .blk 80 [.lst 7 (l.map eTask), a, b, c, .int .u64 B.act, d])
def cT (l : List Task) (B : Bk) : Nat → Heap
  | 0 => [cB l B (.own 1) (.own 2) (.own 3) (.own 4), dumJ 5, dumD 6, dumZ 7, dumZ 8]
  | 1 => [cB l B (.own 1) (.own 2) (.own 3) (.own 4), (5, .row 49 8 (B.all.map eJob)), dumD 6, dumZ 7, dumZ 8]
  | 2 => [cB l B (.own 1) (.own 2) (.own 3) (.own 4), (5, .row 49 8 (B.all.map eJob)), (6, .row 84 2 (B.overs.map eDue)), dumZ 7, dumZ 8]
  | 3 => [cB l B (.own 1) (.own 2) (.own 3) (.own 4), (5, .row 49 8 (B.all.map eJob)), (6, .row 84 2 (B.overs.map eDue)), dumZ 7, dumZ 8]
  | 4 => [cB l B (.own 5) (.own 2) (.own 3) (.own 4), (5, .row 49 8 (B.all.map eJob)), (6, .row 84 2 (B.overs.map eDue)), dumZ 7, dumZ 8]
  | _ => [cB l B (.own 5) (.own 2) (.own 3) (.own 6), (5, .row 49 8 (B.all.map eJob)), (6, .row 84 2 (B.overs.map eDue)), dumZ 7, dumZ 8]
def cU (l : List Task) (B : Bk) : Nat → Heap
  | 0 => [cB l B (.own 5) (.own 2) (.own 3) (.own 6), (5, .row 49 8 (B.all.map eJob)), (6, .row 84 2 (B.overs.map eDue)), dumZ 7, dumZ 8]
  | 1 => [cB l B (.own 5) (.own 2) (.own 3) (.own 6), (5, .row 49 8 (B.all.map eJob)), (6, .row 84 2 (B.overs.map eDue)), (7, mI B.now), dumZ 8]
  | 2 => [cB l B (.own 5) (.own 2) (.own 3) (.own 6), (5, .row 49 8 (B.all.map eJob)), (6, .row 84 2 (B.overs.map eDue)), (7, mI B.now), (8, mI B.cnt)]
  | 3 => [cB l B (.own 5) (.own 7) (.own 3) (.own 6), (5, .row 49 8 (B.all.map eJob)), (6, .row 84 2 (B.overs.map eDue)), (7, mI B.now), (8, mI B.cnt)]
  | _ => [cB l B (.own 5) (.own 7) (.own 8) (.own 6), (5, .row 49 8 (B.all.map eJob)), (6, .row 84 2 (B.overs.map eDue)), (7, mI B.now), (8, mI B.cnt)]
def cHT (l : List Task) (B : Bk) (y : Nat) (f : Bool) : Heap := ldP l B ++ cT l B y
def cHU (l : List Task) (B : Bk) (y : Nat) (f : Bool) : Heap := ldP l B ++ cU l B y
def cNT (i : Nat) : List Nat := if i = 9 then [5] else if i = 14 then [6] else []
def cNU (i : Nat) : List Nat := if i = 4 then [7] else if i = 9 then [8] else []
def ρ15 (i : Nat) : Nat := if i = 4 then 1 else i
def ρ46 (i : Nat) : Nat := if i = 5 then 6 else i
def ρ27 (i : Nat) : Nat := if i = 4 then 2 else if i = 5 then 7 else i
def ρ38 (i : Nat) : Nat := if i = 4 then 3 else if i = 5 then 8 else i
set_option maxHeartbeats 4000000 in
theorem cloneJ_fn (l : List Task) (B : Bk) (hl : l.length ≤ 1000000) (h1 : B.all.length ≤ 1000000) (h2 : B.overs.length ≤ 1000000) : FnH Tryd.prog 33 [.ptr 0 0] (ldP l B ++ [dumJ 5, dumD 6, dumZ 7, dumZ 8, dumZ 9])
    (fun r h' => r = .ptr 9 0 ∧ h' = ldP l B ++ ldN l B) := by
  refine fnhb Tryd.func33 (entered_of (by kernel_rfl)) rfl rfl ?_
  refine wle (s' := [(0, .ptr 0 0)]) (h' := ldP l B ++ [dumJ 5, dumD 6, dumZ 7, dumZ 8]) les leh ?_
  have c1 := clV_Task l hl
  repeat' (first | (show W _ _ _ _ _ _; first | apply kA | refine kB rfl ?_ | refine kC rfl rfl ?_ | refine kD rfl rfl ?_ | apply kE | apply kF | apply kG | apply kH) | (show O _ _ _ _ _ _ _; first | (show O _ _ _ _ (⟨_, .alloc _, _, _, _, _⟩ :: _) _ _; first | refine ao_alloc (id := 9) rfl rfl rfl rfl rfl rfl rfl ?_) | (show O _ _ _ _ (⟨_, .store _ _ _, _, _, _, _⟩ :: _) _ _; refine kJ rfl rfl rfl rfl rfl rfl rfl rfl rfl rfl rfl ?_) | apply kK) | apply kL | ((first | apply kM | apply kN); (iterate 3 (· exact rfl)); (· first | exact ya)) | refine kO rfl rfl rfl rfl rfl ?_ | refine kP rfl rfl rfl ?_ | ((first | refine kQ rfl rfl ?_ ?_ | refine kR rfl rfl rfl rfl rfl ?_ ?_ | refine kS rfl rfl rfl ?_ ?_) <;> intro hc <;> (try simp only [KL, cond_true, cond_false, beq_iff_eq, bne_iff_ne, ne_eq, reduceCtorEq] at hc) <;> (try (have hT : True := hc; clear hT hc)) <;> (try (exfalso; omega))) | apply kT | apply kU | apply kV | apply kW | refine kX rfl ?_ | apply kY | apply kZ)
  refine wle (s' := [(0, .ptr 0 0), (3, .ptr 9 0)]) (h' := cHT l B 0 false) les (show LeH _ (ldP l B ++ [cB l B (.own 1) (.own 2) (.own 3) (.own 4), dumJ 5, dumD 6, dumZ 7, dumZ 8]) from leh) ?_
  refine wdrawQ (cHT l B) (fun _ => True) (fun _ => True) [9, 14, 16, 18, 20] [] 0 99 cNT 0 (LeH.refl _) (by kernel_rfl) (by kernel_rfl) (by kernel_rfl) trivial trivial rfl rfl rfl rfl ?_
  refine qw_new (v := .ptr 0 0) rfl rfl (by kernel_rfl) (fun y hy => tn_ok ya) ?_
  repeat' (first | (show W _ _ _ _ _ _; first | apply kA | refine kB rfl ?_ | refine kC rfl rfl ?_ | refine kD rfl rfl ?_ | apply kE | apply kF | apply kG | apply kH | refine kI (by kernel_rfl) (by kernel_rfl) ?_) | (show O _ _ _ _ _ _ _; first | (show O _ _ _ _ (⟨_, .store _ _ _, _, _, _, _⟩ :: _) _ _; refine kJ rfl rfl rfl rfl rfl rfl rfl rfl rfl rfl rfl ?_) | apply kK) | apply kL | ((first | apply kM | apply kN); (iterate 3 (· exact rfl)); (· first | (show Y _ ⟨_, .call ⟨.value _, _, _⟩, _, _, _, _⟩ _ _ _; first | exact q_c (c1) rfl) | exact ya)) | (show QW _ _ _ _ _ _ _ _ _ _ _ _ _ _ _; first | refine qw_nil ?_ | (apply qw_any; (· exact rfl); (· exact rfl); (· exact rfl); (· intro y' f' hy'; first | (show Y _ ⟨_, .call ⟨.value _, _, _⟩, _, _, _, _⟩ _ _ _; first | exact q_c (c1) rfl) | exact ya); (· first | exact rfl | kernel_rfl))) | refine kO rfl rfl rfl rfl rfl ?_ | refine kP rfl rfl rfl ?_ | ((first | refine kQ rfl rfl ?_ ?_ | refine kR rfl rfl rfl rfl rfl ?_ ?_ | refine kS rfl rfl rfl ?_ ?_) <;> intro hc <;> (try simp only [KL, cond_true, cond_false, beq_iff_eq, bne_iff_ne, ne_eq, reduceCtorEq] at hc) <;> (try (have hT : True := hc; clear hT hc)) <;> (try (exfalso; omega))) | apply kT | apply kU | apply kV | apply kW | refine kX rfl ?_ | apply kY | apply kZ)
  refine qw_tu (x' := 1) rfl rfl rfl trivial trivial (fun f hf => tl_call ρ15 (clO_Job B.all h1) rfl (show LeH _ [(1, .row 49 8 (B.all.map eJob)), dumJ 5] from leh) rfl rfl rfl rfl rfl rfl rfl rfl (show LeH _ (ldP l B ++ [cB l B (.own 1) (.own 2) (.own 3) (.own 4), (5, .row 49 8 (B.all.map eJob)), dumD 6, dumZ 7, dumZ 8]) from leh)) (by kernel_rfl) ?_
  repeat' (first | (show W _ _ _ _ _ _; first | apply kA | refine kB rfl ?_ | refine kC rfl rfl ?_ | refine kD rfl rfl ?_ | apply kE | apply kF | apply kG | apply kH | refine kI (by kernel_rfl) (by kernel_rfl) ?_) | (show O _ _ _ _ _ _ _; first | (show O _ _ _ _ (⟨_, .store _ _ _, _, _, _, _⟩ :: _) _ _; refine kJ rfl rfl rfl rfl rfl rfl rfl rfl rfl rfl rfl ?_) | apply kK) | apply kL | ((first | apply kM | apply kN); (iterate 3 (· exact rfl)); (· first | (show Y _ ⟨_, .call ⟨.value _, _, _⟩, _, _, _, _⟩ _ _ _; first | exact q_c (c1) rfl) | exact ya)) | (show QW _ _ _ _ _ _ _ _ _ _ _ _ _ _ _; first | refine qw_nil ?_ | (apply qw_any; (· exact rfl); (· exact rfl); (· exact rfl); (· intro y' f' hy'; first | (show Y _ ⟨_, .call ⟨.value _, _, _⟩, _, _, _, _⟩ _ _ _; first | exact q_c (c1) rfl) | exact ya); (· first | exact rfl | kernel_rfl))) | refine kO rfl rfl rfl rfl rfl ?_ | refine kP rfl rfl rfl ?_ | ((first | refine kQ rfl rfl ?_ ?_ | refine kR rfl rfl rfl rfl rfl ?_ ?_ | refine kS rfl rfl rfl ?_ ?_) <;> intro hc <;> (try simp only [KL, cond_true, cond_false, beq_iff_eq, bne_iff_ne, ne_eq, reduceCtorEq] at hc) <;> (try (have hT : True := hc; clear hT hc)) <;> (try (exfalso; omega))) | apply kT | apply kU | apply kV | apply kW | refine kX rfl ?_ | apply kY | apply kZ)
  refine qw_tu (x' := 2) rfl rfl rfl trivial trivial (fun f hf => tl_call ρ46 (clO_Due B.overs h2) rfl (show LeH _ [(4, .row 84 2 (B.overs.map eDue)), dumD 6] from leh) rfl rfl rfl rfl rfl rfl rfl rfl (show LeH _ (ldP l B ++ [cB l B (.own 1) (.own 2) (.own 3) (.own 4), (5, .row 49 8 (B.all.map eJob)), (6, .row 84 2 (B.overs.map eDue)), dumZ 7, dumZ 8]) from leh)) (by kernel_rfl) ?_
  repeat' (first | (show W _ _ _ _ _ _; first | apply kA | refine kB rfl ?_ | refine kC rfl rfl ?_ | refine kD rfl rfl ?_ | apply kE | apply kF | apply kG | apply kH | refine kI (by kernel_rfl) (by kernel_rfl) ?_) | (show O _ _ _ _ _ _ _; first | (show O _ _ _ _ (⟨_, .store _ _ _, _, _, _, _⟩ :: _) _ _; refine kJ rfl rfl rfl rfl rfl rfl rfl rfl rfl rfl rfl ?_) | apply kK) | apply kL | ((first | apply kM | apply kN); (iterate 3 (· exact rfl)); (· first | (show Y _ ⟨_, .call ⟨.value _, _, _⟩, _, _, _, _⟩ _ _ _; first | exact q_c (c1) rfl) | exact ya)) | (show QW _ _ _ _ _ _ _ _ _ _ _ _ _ _ _; first | refine qw_nil ?_ | (apply qw_any; (· exact rfl); (· exact rfl); (· exact rfl); (· intro y' f' hy'; first | (show Y _ ⟨_, .call ⟨.value _, _, _⟩, _, _, _, _⟩ _ _ _; first | exact q_c (c1) rfl) | exact ya); (· first | exact rfl | kernel_rfl))) | refine kO rfl rfl rfl rfl rfl ?_ | refine kP rfl rfl rfl ?_ | ((first | refine kQ rfl rfl ?_ ?_ | refine kR rfl rfl rfl rfl rfl ?_ ?_ | refine kS rfl rfl rfl ?_ ?_) <;> intro hc <;> (try simp only [KL, cond_true, cond_false, beq_iff_eq, bne_iff_ne, ne_eq, reduceCtorEq] at hc) <;> (try (have hT : True := hc; clear hT hc)) <;> (try (exfalso; omega))) | apply kT | apply kU | apply kV | apply kW | refine kX rfl ?_ | apply kY | apply kZ)
  refine qw_tu (x' := 3) rfl rfl rfl trivial trivial (fun f hf => ((tu_st (sto_B rfl rfl rfl rfl rfl rfl (Nat.le_of_ble_eq_true rfl)) rfl).post (show LeH _ (ldP l B ++ [cB l B (.own 1) (.own 2) (.own 3) (.own 4), (5, .row 49 8 (B.all.map eJob)), (6, .row 84 2 (B.overs.map eDue)), dumZ 7, dumZ 8]) from leh)).toL) (by kernel_rfl) ?_
  repeat' (first | (show W _ _ _ _ _ _; first | apply kA | refine kB rfl ?_ | refine kC rfl rfl ?_ | refine kD rfl rfl ?_ | apply kE | apply kF | apply kG | apply kH | refine kI (by kernel_rfl) (by kernel_rfl) ?_) | (show O _ _ _ _ _ _ _; first | (show O _ _ _ _ (⟨_, .store _ _ _, _, _, _, _⟩ :: _) _ _; refine kJ rfl rfl rfl rfl rfl rfl rfl rfl rfl rfl rfl ?_) | apply kK) | apply kL | ((first | apply kM | apply kN); (iterate 3 (· exact rfl)); (· first | (show Y _ ⟨_, .call ⟨.value _, _, _⟩, _, _, _, _⟩ _ _ _; first | exact q_c (c1) rfl) | exact ya)) | (show QW _ _ _ _ _ _ _ _ _ _ _ _ _ _ _; first | refine qw_nil ?_ | (apply qw_any; (· exact rfl); (· exact rfl); (· exact rfl); (· intro y' f' hy'; first | (show Y _ ⟨_, .call ⟨.value _, _, _⟩, _, _, _, _⟩ _ _ _; first | exact q_c (c1) rfl) | exact ya); (· first | exact rfl | kernel_rfl))) | refine kO rfl rfl rfl rfl rfl ?_ | refine kP rfl rfl rfl ?_ | ((first | refine kQ rfl rfl ?_ ?_ | refine kR rfl rfl rfl rfl rfl ?_ ?_ | refine kS rfl rfl rfl ?_ ?_) <;> intro hc <;> (try simp only [KL, cond_true, cond_false, beq_iff_eq, bne_iff_ne, ne_eq, reduceCtorEq] at hc) <;> (try (have hT : True := hc; clear hT hc)) <;> (try (exfalso; omega))) | apply kT | apply kU | apply kV | apply kW | refine kX rfl ?_ | apply kY | apply kZ)
  refine qw_tu (x' := 4) rfl rfl rfl trivial trivial (fun f hf => ((tu_st (sto_B rfl rfl rfl rfl rfl rfl (Nat.le_of_ble_eq_true rfl)) rfl).post (show LeH _ (ldP l B ++ [cB l B (.own 5) (.own 2) (.own 3) (.own 4), (5, .row 49 8 (B.all.map eJob)), (6, .row 84 2 (B.overs.map eDue)), dumZ 7, dumZ 8]) from leh)).toL) (by kernel_rfl) ?_
  repeat' (first | (show W _ _ _ _ _ _; first | apply kA | refine kB rfl ?_ | refine kC rfl rfl ?_ | refine kD rfl rfl ?_ | apply kE | apply kF | apply kG | apply kH | refine kI (by kernel_rfl) (by kernel_rfl) ?_) | (show O _ _ _ _ _ _ _; first | (show O _ _ _ _ (⟨_, .store _ _ _, _, _, _, _⟩ :: _) _ _; refine kJ rfl rfl rfl rfl rfl rfl rfl rfl rfl rfl rfl ?_) | apply kK) | apply kL | ((first | apply kM | apply kN); (iterate 3 (· exact rfl)); (· first | (show Y _ ⟨_, .call ⟨.value _, _, _⟩, _, _, _, _⟩ _ _ _; first | exact q_c (c1) rfl) | exact ya)) | (show QW _ _ _ _ _ _ _ _ _ _ _ _ _ _ _; first | refine qw_nil ?_ | (apply qw_any; (· exact rfl); (· exact rfl); (· exact rfl); (· intro y' f' hy'; first | (show Y _ ⟨_, .call ⟨.value _, _, _⟩, _, _, _, _⟩ _ _ _; first | exact q_c (c1) rfl) | exact ya); (· first | exact rfl | kernel_rfl))) | refine kO rfl rfl rfl rfl rfl ?_ | refine kP rfl rfl rfl ?_ | ((first | refine kQ rfl rfl ?_ ?_ | refine kR rfl rfl rfl rfl rfl ?_ ?_ | refine kS rfl rfl rfl ?_ ?_) <;> intro hc <;> (try simp only [KL, cond_true, cond_false, beq_iff_eq, bne_iff_ne, ne_eq, reduceCtorEq] at hc) <;> (try (have hT : True := hc; clear hT hc)) <;> (try (exfalso; omega))) | apply kT | apply kU | apply kV | apply kW | refine kX rfl ?_ | apply kY | apply kZ)
  refine qw_tu (x' := 5) rfl rfl rfl trivial trivial (fun f hf => ((tu_st (sto_B rfl rfl rfl rfl rfl rfl (Nat.le_of_ble_eq_true rfl)) rfl).post (show LeH _ (ldP l B ++ [cB l B (.own 5) (.own 2) (.own 3) (.own 6), (5, .row 49 8 (B.all.map eJob)), (6, .row 84 2 (B.overs.map eDue)), dumZ 7, dumZ 8]) from leh)).toL) (by kernel_rfl) ?_
  repeat' (first | (show W _ _ _ _ _ _; first | apply kA | refine kB rfl ?_ | refine kC rfl rfl ?_ | refine kD rfl rfl ?_ | apply kE | apply kF | apply kG | apply kH) | (show O _ _ _ _ _ _ _; first | (show O _ _ _ _ (⟨_, .store _ _ _, _, _, _, _⟩ :: _) _ _; refine kJ rfl rfl rfl rfl rfl rfl rfl rfl rfl rfl rfl ?_) | apply kK) | apply kL | ((first | apply kM | apply kN); (iterate 3 (· exact rfl)); (· first | exact ya)) | (show QW _ _ _ _ _ _ _ _ _ _ _ _ _ _ _; first | refine qw_nil ?_ | (apply qw_any; (· exact rfl); (· exact rfl); (· exact rfl); (· intro y' f' hy'; first | exact ya); (· first | exact rfl | kernel_rfl))) | refine kO rfl rfl rfl rfl rfl ?_ | refine kP rfl rfl rfl ?_ | ((first | refine kQ rfl rfl ?_ ?_ | refine kR rfl rfl rfl rfl rfl ?_ ?_ | refine kS rfl rfl rfl ?_ ?_) <;> intro hc <;> (try simp only [KL, cond_true, cond_false, beq_iff_eq, bne_iff_ne, ne_eq, reduceCtorEq] at hc) <;> (try (have hT : True := hc; clear hT hc)) <;> (try (exfalso; omega))) | apply kT | apply kU | apply kV | apply kW | refine kX rfl ?_ | apply kY | apply kZ)
  refine wle (s' := [(0, .ptr 0 0), (3, .ptr 9 0)]) (h' := cHU l B 0 false) les (LeH.refl _) ?_
  refine wdrawQ (cHU l B) (fun _ => True) (fun _ => True) [4, 9, 11, 13] [] 0 99 cNU 0 (LeH.refl _) (by kernel_rfl) (by kernel_rfl) (by kernel_rfl) trivial trivial rfl rfl rfl rfl ?_
  refine qw_new (v := .ptr 0 0) rfl rfl (by kernel_rfl) (fun y hy => tn_ok ya) ?_
  repeat' (first | (show W _ _ _ _ _ _; first | apply kA | refine kB rfl ?_ | refine kC rfl rfl ?_ | refine kD rfl rfl ?_ | apply kE | apply kF | apply kG | apply kH | refine kI (by kernel_rfl) (by kernel_rfl) ?_) | (show O _ _ _ _ _ _ _; first | (show O _ _ _ _ (⟨_, .store _ _ _, _, _, _, _⟩ :: _) _ _; refine kJ rfl rfl rfl rfl rfl rfl rfl rfl rfl rfl rfl ?_) | apply kK) | apply kL | ((first | apply kM | apply kN); (iterate 3 (· exact rfl)); (· first | exact ya)) | (show QW _ _ _ _ _ _ _ _ _ _ _ _ _ _ _; first | refine qw_nil ?_ | (apply qw_any; (· exact rfl); (· exact rfl); (· exact rfl); (· intro y' f' hy'; first | exact ya); (· first | exact rfl | kernel_rfl))) | refine kO rfl rfl rfl rfl rfl ?_ | refine kP rfl rfl rfl ?_ | ((first | refine kQ rfl rfl ?_ ?_ | refine kR rfl rfl rfl rfl rfl ?_ ?_ | refine kS rfl rfl rfl ?_ ?_) <;> intro hc <;> (try simp only [KL, cond_true, cond_false, beq_iff_eq, bne_iff_ne, ne_eq, reduceCtorEq] at hc) <;> (try (have hT : True := hc; clear hT hc)) <;> (try (exfalso; omega))) | apply kT | apply kU | apply kV | apply kW | refine kX rfl ?_ | apply kY | apply kZ)
  refine qw_tu (x' := 1) rfl rfl rfl trivial trivial (fun f hf => tl_call ρ27 (mclone_fn B.now) rfl (show LeH _ [(2, mI B.now), dumZ 7] from leh) rfl rfl rfl rfl rfl rfl rfl rfl (show LeH _ (ldP l B ++ [cB l B (.own 5) (.own 2) (.own 3) (.own 6), (5, .row 49 8 (B.all.map eJob)), (6, .row 84 2 (B.overs.map eDue)), (7, mI B.now), dumZ 8]) from leh)) (by kernel_rfl) ?_
  repeat' (first | (show W _ _ _ _ _ _; first | apply kA | refine kB rfl ?_ | refine kC rfl rfl ?_ | refine kD rfl rfl ?_ | apply kE | apply kF | apply kG | apply kH | refine kI (by kernel_rfl) (by kernel_rfl) ?_) | (show O _ _ _ _ _ _ _; first | (show O _ _ _ _ (⟨_, .store _ _ _, _, _, _, _⟩ :: _) _ _; refine kJ rfl rfl rfl rfl rfl rfl rfl rfl rfl rfl rfl ?_) | apply kK) | apply kL | ((first | apply kM | apply kN); (iterate 3 (· exact rfl)); (· first | exact ya)) | (show QW _ _ _ _ _ _ _ _ _ _ _ _ _ _ _; first | refine qw_nil ?_ | (apply qw_any; (· exact rfl); (· exact rfl); (· exact rfl); (· intro y' f' hy'; first | exact ya); (· first | exact rfl | kernel_rfl))) | refine kO rfl rfl rfl rfl rfl ?_ | refine kP rfl rfl rfl ?_ | ((first | refine kQ rfl rfl ?_ ?_ | refine kR rfl rfl rfl rfl rfl ?_ ?_ | refine kS rfl rfl rfl ?_ ?_) <;> intro hc <;> (try simp only [KL, cond_true, cond_false, beq_iff_eq, bne_iff_ne, ne_eq, reduceCtorEq] at hc) <;> (try (have hT : True := hc; clear hT hc)) <;> (try (exfalso; omega))) | apply kT | apply kU | apply kV | apply kW | refine kX rfl ?_ | apply kY | apply kZ)
  refine qw_tu (x' := 2) rfl rfl rfl trivial trivial (fun f hf => tl_call ρ38 (mclone_fn B.cnt) rfl (show LeH _ [(3, mI B.cnt), dumZ 8] from leh) rfl rfl rfl rfl rfl rfl rfl rfl (show LeH _ (ldP l B ++ [cB l B (.own 5) (.own 2) (.own 3) (.own 6), (5, .row 49 8 (B.all.map eJob)), (6, .row 84 2 (B.overs.map eDue)), (7, mI B.now), (8, mI B.cnt)]) from leh)) (by kernel_rfl) ?_
  repeat' (first | (show W _ _ _ _ _ _; first | apply kA | refine kB rfl ?_ | refine kC rfl rfl ?_ | refine kD rfl rfl ?_ | apply kE | apply kF | apply kG | apply kH | refine kI (by kernel_rfl) (by kernel_rfl) ?_) | (show O _ _ _ _ _ _ _; first | (show O _ _ _ _ (⟨_, .store _ _ _, _, _, _, _⟩ :: _) _ _; refine kJ rfl rfl rfl rfl rfl rfl rfl rfl rfl rfl rfl ?_) | apply kK) | apply kL | ((first | apply kM | apply kN); (iterate 3 (· exact rfl)); (· first | exact ya)) | (show QW _ _ _ _ _ _ _ _ _ _ _ _ _ _ _; first | refine qw_nil ?_ | (apply qw_any; (· exact rfl); (· exact rfl); (· exact rfl); (· intro y' f' hy'; first | exact ya); (· first | exact rfl | kernel_rfl))) | refine kO rfl rfl rfl rfl rfl ?_ | refine kP rfl rfl rfl ?_ | ((first | refine kQ rfl rfl ?_ ?_ | refine kR rfl rfl rfl rfl rfl ?_ ?_ | refine kS rfl rfl rfl ?_ ?_) <;> intro hc <;> (try simp only [KL, cond_true, cond_false, beq_iff_eq, bne_iff_ne, ne_eq, reduceCtorEq] at hc) <;> (try (have hT : True := hc; clear hT hc)) <;> (try (exfalso; omega))) | apply kT | apply kU | apply kV | apply kW | refine kX rfl ?_ | apply kY | apply kZ)
  refine qw_tu (x' := 3) rfl rfl rfl trivial trivial (fun f hf => ((tu_st (sto_B rfl rfl rfl rfl rfl rfl (Nat.le_of_ble_eq_true rfl)) rfl).post (show LeH _ (ldP l B ++ [cB l B (.own 5) (.own 7) (.own 3) (.own 6), (5, .row 49 8 (B.all.map eJob)), (6, .row 84 2 (B.overs.map eDue)), (7, mI B.now), (8, mI B.cnt)]) from leh)).toL) (by kernel_rfl) ?_
  repeat' (first | (show W _ _ _ _ _ _; first | apply kA | refine kB rfl ?_ | refine kC rfl rfl ?_ | refine kD rfl rfl ?_ | apply kE | apply kF | apply kG | apply kH | refine kI (by kernel_rfl) (by kernel_rfl) ?_) | (show O _ _ _ _ _ _ _; first | (show O _ _ _ _ (⟨_, .store _ _ _, _, _, _, _⟩ :: _) _ _; refine kJ rfl rfl rfl rfl rfl rfl rfl rfl rfl rfl rfl ?_) | apply kK) | apply kL | ((first | apply kM | apply kN); (iterate 3 (· exact rfl)); (· first | exact ya)) | (show QW _ _ _ _ _ _ _ _ _ _ _ _ _ _ _; first | refine qw_nil ?_ | (apply qw_any; (· exact rfl); (· exact rfl); (· exact rfl); (· intro y' f' hy'; first | exact ya); (· first | exact rfl | kernel_rfl))) | refine kO rfl rfl rfl rfl rfl ?_ | refine kP rfl rfl rfl ?_ | ((first | refine kQ rfl rfl ?_ ?_ | refine kR rfl rfl rfl rfl rfl ?_ ?_ | refine kS rfl rfl rfl ?_ ?_) <;> intro hc <;> (try simp only [KL, cond_true, cond_false, beq_iff_eq, bne_iff_ne, ne_eq, reduceCtorEq] at hc) <;> (try (have hT : True := hc; clear hT hc)) <;> (try (exfalso; omega))) | apply kT | apply kU | apply kV | apply kW | refine kX rfl ?_ | apply kY | apply kZ)
  refine qw_tu (x' := 4) rfl rfl rfl trivial trivial (fun f hf => ((tu_st (sto_B rfl rfl rfl rfl rfl rfl (Nat.le_of_ble_eq_true rfl)) rfl).post (show LeH _ (ldP l B ++ [cB l B (.own 5) (.own 7) (.own 8) (.own 6), (5, .row 49 8 (B.all.map eJob)), (6, .row 84 2 (B.overs.map eDue)), (7, mI B.now), (8, mI B.cnt)]) from leh)).toL) (by kernel_rfl) ?_
  repeat' (first | (show W _ _ _ _ _ _; first | apply kA | refine kB rfl ?_ | refine kC rfl rfl ?_ | refine kD rfl rfl ?_ | apply kE | apply kF | apply kG | apply kH | refine kI (by kernel_rfl) (by kernel_rfl) ?_) | (show O _ _ _ _ _ _ _; first | (show O _ _ _ _ (⟨_, .store _ _ _, _, _, _, _⟩ :: _) _ _; refine kJ rfl rfl rfl rfl rfl rfl rfl rfl rfl rfl rfl ?_) | apply kK) | apply kL | ((first | apply kM | apply kN); (iterate 3 (· exact rfl)); (· first | exact ya)) | (show QW _ _ _ _ _ _ _ _ _ _ _ _ _ _ _; first | refine qw_nil ?_ | (apply qw_any; (· exact rfl); (· exact rfl); (· exact rfl); (· intro y' f' hy'; first | exact ya); (· first | exact rfl | kernel_rfl))) | refine kO rfl rfl rfl rfl rfl ?_ | refine kP rfl rfl rfl ?_ | ((first | refine kQ rfl rfl ?_ ?_ | refine kR rfl rfl rfl rfl rfl ?_ ?_ | refine kS rfl rfl rfl ?_ ?_) <;> intro hc <;> (try simp only [KL, cond_true, cond_false, beq_iff_eq, bne_iff_ne, ne_eq, reduceCtorEq] at hc) <;> (try (have hT : True := hc; clear hT hc)) <;> (try (exfalso; omega))) | apply kT | apply kU | apply kV | apply kW | refine kX rfl ?_ | apply kY | apply kZ)
  exact reth (h' := ldP l B ++ ldN l B) rfl (show LeH (ldP l B ++ [cB l B (.own 5) (.own 7) (.own 8) (.own 6), (5, .row 49 8 (B.all.map eJob)), (6, .row 84 2 (B.overs.map eDue)), (7, mI B.now), (8, mI B.cnt)]) _ from leh) ⟨rfl, rfl⟩
def ρo (i : Nat) : Nat := [20, 21, 22, 23, 6, 11].getD i i
theorem oversJ_fn (l : List Task) (B : Bk) (hl : B.overs.length ≤ 1000000) : FnH Tryd.prog 37 [.ptr 0 0] (ldH l B) (fun r h' => r = .lst 2 (B.overs.map eDue) ∧ h' = ldH l B) := by
  refine fnhb Tryd.func37 (entered_of (by kernel_rfl)) rfl rfl ?_
  repeat' (first | (show W _ _ _ _ _ _; first | apply kA | refine kB rfl ?_ | refine kC rfl rfl ?_ | refine kD rfl rfl ?_ | apply kE | apply kF | apply kG | apply kH | refine kI (by kernel_rfl) (by kernel_rfl) ?_) | (show O _ _ _ _ _ _ _; first | (show O _ _ _ _ (⟨_, .store _ _ _, _, _, _, _⟩ :: _) _ _; refine kJ rfl rfl rfl rfl rfl rfl rfl rfl rfl rfl rfl ?_) | apply kK) | apply kL | ((first | apply kM | apply kN); (iterate 3 (· exact rfl)); (· first | exact ya)) | refine kO rfl rfl rfl rfl rfl ?_ | refine kP rfl rfl rfl ?_ | ((first | refine kQ rfl rfl ?_ ?_ | refine kR rfl rfl rfl rfl rfl ?_ ?_ | refine kS rfl rfl rfl ?_ ?_) <;> intro hc <;> (try simp only [KL, cond_true, cond_false, beq_iff_eq, bne_iff_ne, ne_eq, reduceCtorEq] at hc) <;> (try (have hT : True := hc; clear hT hc)) <;> (try (exfalso; omega))) | apply kT | apply kU | apply kV | apply kW | refine kX rfl ?_ | apply kY | apply kZ)
  refine oturn (turn_dummy eDue 11 84 2 (by omega) rfl) ?_
  refine zcall (fun i => ρo i) (clO_Due B.overs hl) rfl rfl leh rfl rfl rfl rfl rfl rfl (fun r h' hR => ?_)
  obtain ⟨rfl, rfl⟩ := hR
  refine ⟨rfl, rfl, ?_⟩
  repeat' (first | (show W _ _ _ _ _ _; first | apply kA | refine kB rfl ?_ | refine kC rfl rfl ?_ | refine kD rfl rfl ?_ | apply kE | apply kF | apply kG | apply kH | refine kI (by kernel_rfl) (by kernel_rfl) ?_) | (show O _ _ _ _ _ _ _; first | (show O _ _ _ _ (⟨_, .store _ _ _, _, _, _, _⟩ :: _) _ _; refine kJ rfl rfl rfl rfl rfl rfl rfl rfl rfl rfl rfl ?_) | apply kK) | apply kL | ((first | apply kM | apply kN); (iterate 3 (· exact rfl)); (· first | exact ya)) | refine kO rfl rfl rfl rfl rfl ?_ | refine kP rfl rfl rfl ?_ | ((first | refine kQ rfl rfl ?_ ?_ | refine kR rfl rfl rfl rfl rfl ?_ ?_ | refine kS rfl rfl rfl ?_ ?_) <;> intro hc <;> (try simp only [KL, cond_true, cond_false, beq_iff_eq, bne_iff_ne, ne_eq, reduceCtorEq] at hc) <;> (try (have hT : True := hc; clear hT hc)) <;> (try (exfalso; omega))) | apply kT | apply kU | apply kV | apply kW | refine kX rfl ?_ | apply kY | apply kZ)
  refine retT (fun _ => turn_freeze (t := 2) rfl rfl rfl) ?_
  exact reth (h' := ldH l B) rfl leh ⟨rfl, rfl⟩
/-! Nobody's ledger. -/
theorem relN_fn (i t : Int) : Fn Tryd.prog 27 [.nilp, .int .i64 i, .int .i64 t] (.tup [.int .i64 0, .bool false]) := by
  refine fnb Tryd.func27 (entered_of (by kernel_rfl)) rfl rfl rfl ?_
  repeat' (first | (show W _ _ _ _ _ _; first | apply kA | refine kB rfl ?_ | refine kC rfl rfl ?_ | refine kD rfl rfl ?_ | apply kE | apply kF | apply kG | apply kH | refine kI (by kernel_rfl) (by kernel_rfl) ?_) | (show O _ _ _ _ _ _ _; first | (show O _ _ _ _ (⟨_, .store _ _ _, _, _, _, _⟩ :: _) _ _; refine kJ rfl rfl rfl rfl rfl rfl rfl rfl rfl rfl rfl ?_) | apply kK) | apply kL | ((first | apply kM | apply kN); (iterate 3 (· exact rfl)); (· first | exact ya)) | refine kO rfl rfl rfl rfl rfl ?_ | refine kP rfl rfl rfl ?_ | ((first | refine kQ rfl rfl ?_ ?_ | refine kR rfl rfl rfl rfl rfl ?_ ?_ | refine kS rfl rfl rfl ?_ ?_) <;> intro hc <;> (try simp only [KL, cond_true, cond_false, beq_iff_eq, bne_iff_ne, ne_eq, reduceCtorEq] at hc) <;> (try (have hT : True := hc; clear hT hc)) <;> (try (exfalso; omega))) | apply kT | apply kU | apply kV | apply kW | refine kX rfl ?_ | apply kY | apply kZ)
  all_goals first | (exfalso; omega) | exact retq rfl rfl
theorem hasNil_fn (i : Int) : Fn Tryd.prog 49 [.nilp, .int .i64 i] (.bool false) := by
  refine fnb Tryd.func49 (entered_of (by kernel_rfl)) rfl rfl rfl ?_
  repeat' (first | (show W _ _ _ _ _ _; first | apply kA | refine kB rfl ?_ | refine kC rfl rfl ?_ | refine kD rfl rfl ?_ | apply kE | apply kF | apply kG | apply kH | refine kI (by kernel_rfl) (by kernel_rfl) ?_) | (show O _ _ _ _ _ _ _; first | (show O _ _ _ _ (⟨_, .store _ _ _, _, _, _, _⟩ :: _) _ _; refine kJ rfl rfl rfl rfl rfl rfl rfl rfl rfl rfl rfl ?_) | apply kK) | apply kL | ((first | apply kM | apply kN); (iterate 3 (· exact rfl)); (· first | exact ya)) | refine kO rfl rfl rfl rfl rfl ?_ | refine kP rfl rfl rfl ?_ | ((first | refine kQ rfl rfl ?_ ?_ | refine kR rfl rfl rfl rfl rfl ?_ ?_ | refine kS rfl rfl rfl ?_ ?_) <;> intro hc <;> (try simp only [KL, cond_true, cond_false, beq_iff_eq, bne_iff_ne, ne_eq, reduceCtorEq] at hc) <;> (try (have hT : True := hc; clear hT hc)) <;> (try (exfalso; omega))) | apply kT | apply kU | apply kV | apply kW | refine kX rfl ?_ | apply kY | apply kZ)
  all_goals first | (exfalso; omega) | exact retq rfl rfl
theorem stepN_fn (i t : Int) : Fn Tryd.prog 28 [.nilp, .int .i64 i, .int .i64 t] (.bool false) := by
  have c1 := hasNil_fn i
  refine fnb Tryd.func28 (entered_of (by kernel_rfl)) rfl rfl rfl ?_
  repeat' (first | (show W _ _ _ _ _ _; first | apply kA | refine kB rfl ?_ | refine kC rfl rfl ?_ | refine kD rfl rfl ?_ | apply kE | apply kF | apply kG | apply kH | refine kI (by kernel_rfl) (by kernel_rfl) ?_) | (show O _ _ _ _ _ _ _; first | (show O _ _ _ _ (⟨_, .store _ _ _, _, _, _, _⟩ :: _) _ _; refine kJ rfl rfl rfl rfl rfl rfl rfl rfl rfl rfl rfl ?_) | apply kK) | apply kL | ((first | apply kM | apply kN); (iterate 3 (· exact rfl)); (· first | (show Y _ ⟨_, .call ⟨.value _, _, _⟩, _, _, _, _⟩ _ _ _; first | exact q_c (c1) rfl) | exact ya)) | refine kO rfl rfl rfl rfl rfl ?_ | refine kP rfl rfl rfl ?_ | ((first | refine kQ rfl rfl ?_ ?_ | refine kR rfl rfl rfl rfl rfl ?_ ?_ | refine kS rfl rfl rfl ?_ ?_) <;> intro hc <;> (try simp only [KL, cond_true, cond_false, beq_iff_eq, bne_iff_ne, ne_eq, reduceCtorEq] at hc) <;> (try (have hT : True := hc; clear hT hc)) <;> (try (exfalso; omega))) | apply kT | apply kU | apply kV | apply kW | refine kX rfl ?_ | apply kY | apply kZ)
  all_goals first | (exfalso; omega) | exact retq rfl rfl
theorem endN_fn (i t : Int) : Fn Tryd.prog 29 [.nilp, .int .i64 i, .int .i64 t] (.tup [.agg (eJob default), .bool false]) := by
  have c1 := hasNil_fn i
  refine fnb Tryd.func29 (entered_of (by kernel_rfl)) rfl rfl rfl ?_
  repeat' (first | (show W _ _ _ _ _ _; first | apply kA | refine kB rfl ?_ | refine kC rfl rfl ?_ | refine kD rfl rfl ?_ | apply kE | apply kF | apply kG | apply kH | refine kI (by kernel_rfl) (by kernel_rfl) ?_) | (show O _ _ _ _ _ _ _; first | (show O _ _ _ _ (⟨_, .alloc _, _, _, _, _⟩ :: _) _ _; first | refine ao_alloc (id := 20) rfl rfl rfl rfl rfl rfl rfl ?_) | (show O _ _ _ _ (⟨_, .store _ _ _, _, _, _, _⟩ :: _) _ _; refine kJ rfl rfl rfl rfl rfl rfl rfl rfl rfl rfl rfl ?_) | apply kK) | apply kL | ((first | apply kM | apply kN); (iterate 3 (· exact rfl)); (· first | (show Y _ ⟨_, .call ⟨.value _, _, _⟩, _, _, _, _⟩ _ _ _; first | exact q_c (c1) rfl) | exact ya)) | refine kO rfl rfl rfl rfl rfl ?_ | refine kP rfl rfl rfl ?_ | ((first | refine kQ rfl rfl ?_ ?_ | refine kR rfl rfl rfl rfl rfl ?_ ?_ | refine kS rfl rfl rfl ?_ ?_) <;> intro hc <;> (try simp only [KL, cond_true, cond_false, beq_iff_eq, bne_iff_ne, ne_eq, reduceCtorEq] at hc) <;> (try (have hT : True := hc; clear hT hc)) <;> (try (exfalso; omega))) | apply kT | apply kU | apply kV | apply kW | refine kX rfl ?_ | apply kY | apply kZ)
  all_goals first | (exfalso; omega) | exact retq rfl rfl
theorem getN_fn (i : Int) : Fn Tryd.prog 34 [.nilp, .int .i64 i] (.tup [.agg (eJob default), .bool false]) := by
  have c1 := hasNil_fn i
  refine fnb Tryd.func34 (entered_of (by kernel_rfl)) rfl rfl rfl ?_
  repeat' (first | (show W _ _ _ _ _ _; first | apply kA | refine kB rfl ?_ | refine kC rfl rfl ?_ | refine kD rfl rfl ?_ | apply kE | apply kF | apply kG | apply kH | refine kI (by kernel_rfl) (by kernel_rfl) ?_) | (show O _ _ _ _ _ _ _; first | (show O _ _ _ _ (⟨_, .alloc _, _, _, _, _⟩ :: _) _ _; first | refine ao_alloc (id := 20) rfl rfl rfl rfl rfl rfl rfl ?_) | (show O _ _ _ _ (⟨_, .store _ _ _, _, _, _, _⟩ :: _) _ _; refine kJ rfl rfl rfl rfl rfl rfl rfl rfl rfl rfl rfl ?_) | apply kK) | apply kL | ((first | apply kM | apply kN); (iterate 3 (· exact rfl)); (· first | (show Y _ ⟨_, .call ⟨.value _, _, _⟩, _, _, _, _⟩ _ _ _; first | exact q_c (c1) rfl) | exact ya)) | refine kO rfl rfl rfl rfl rfl ?_ | refine kP rfl rfl rfl ?_ | ((first | refine kQ rfl rfl ?_ ?_ | refine kR rfl rfl rfl rfl rfl ?_ ?_ | refine kS rfl rfl rfl ?_ ?_) <;> intro hc <;> (try simp only [KL, cond_true, cond_false, beq_iff_eq, bne_iff_ne, ne_eq, reduceCtorEq] at hc) <;> (try (have hT : True := hc; clear hT hc)) <;> (try (exfalso; omega))) | apply kT | apply kU | apply kV | apply kW | refine kX rfl ?_ | apply kY | apply kZ)
  all_goals first | (exfalso; omega) | exact retq rfl rfl
theorem activeN_fn : Fn Tryd.prog 36 [.nilp] (.int .u64 0) := by
  refine fnb Tryd.func36 (entered_of (by kernel_rfl)) rfl rfl rfl ?_
  repeat' (first | (show W _ _ _ _ _ _; first | apply kA | refine kB rfl ?_ | refine kC rfl rfl ?_ | refine kD rfl rfl ?_ | apply kE | apply kF | apply kG | apply kH | refine kI (by kernel_rfl) (by kernel_rfl) ?_) | (show O _ _ _ _ _ _ _; first | (show O _ _ _ _ (⟨_, .store _ _ _, _, _, _, _⟩ :: _) _ _; refine kJ rfl rfl rfl rfl rfl rfl rfl rfl rfl rfl rfl ?_) | apply kK) | apply kL | ((first | apply kM | apply kN); (iterate 3 (· exact rfl)); (· first | exact ya)) | refine kO rfl rfl rfl rfl rfl ?_ | refine kP rfl rfl rfl ?_ | ((first | refine kQ rfl rfl ?_ ?_ | refine kR rfl rfl rfl rfl rfl ?_ ?_ | refine kS rfl rfl rfl ?_ ?_) <;> intro hc <;> (try simp only [KL, cond_true, cond_false, beq_iff_eq, bne_iff_ne, ne_eq, reduceCtorEq] at hc) <;> (try (have hT : True := hc; clear hT hc)) <;> (try (exfalso; omega))) | apply kT | apply kU | apply kV | apply kW | refine kX rfl ?_ | apply kY | apply kZ)
  all_goals first | (exfalso; omega) | exact retq rfl rfl
theorem jobsN_fn : Fn Tryd.prog 31 [.nilp] .nils := by
  refine fnb Tryd.func31 (entered_of (by kernel_rfl)) rfl rfl rfl ?_
  repeat' (first | (show W _ _ _ _ _ _; first | apply kA | refine kB rfl ?_ | refine kC rfl rfl ?_ | refine kD rfl rfl ?_ | apply kE | apply kF | apply kG | apply kH | refine kI (by kernel_rfl) (by kernel_rfl) ?_) | (show O _ _ _ _ _ _ _; first | (show O _ _ _ _ (⟨_, .store _ _ _, _, _, _, _⟩ :: _) _ _; refine kJ rfl rfl rfl rfl rfl rfl rfl rfl rfl rfl rfl ?_) | apply kK) | apply kL | ((first | apply kM | apply kN); (iterate 3 (· exact rfl)); (· first | exact ya)) | refine kO rfl rfl rfl rfl rfl ?_ | refine kP rfl rfl rfl ?_ | ((first | refine kQ rfl rfl ?_ ?_ | refine kR rfl rfl rfl rfl rfl ?_ ?_ | refine kS rfl rfl rfl ?_ ?_) <;> intro hc <;> (try simp only [KL, cond_true, cond_false, beq_iff_eq, bne_iff_ne, ne_eq, reduceCtorEq] at hc) <;> (try (have hT : True := hc; clear hT hc)) <;> (try (exfalso; omega))) | apply kT | apply kU | apply kV | apply kW | refine kX rfl ?_ | apply kY | apply kZ)
  all_goals first | (exfalso; omega) | exact retq rfl rfl
theorem oversN_fn : Fn Tryd.prog 37 [.nilp] .nils := by
  refine fnb Tryd.func37 (entered_of (by kernel_rfl)) rfl rfl rfl ?_
  repeat' (first | (show W _ _ _ _ _ _; first | apply kA | refine kB rfl ?_ | refine kC rfl rfl ?_ | refine kD rfl rfl ?_ | apply kE | apply kF | apply kG | apply kH | refine kI (by kernel_rfl) (by kernel_rfl) ?_) | (show O _ _ _ _ _ _ _; first | (show O _ _ _ _ (⟨_, .store _ _ _, _, _, _, _⟩ :: _) _ _; refine kJ rfl rfl rfl rfl rfl rfl rfl rfl rfl rfl rfl ?_) | apply kK) | apply kL | ((first | apply kM | apply kN); (iterate 3 (· exact rfl)); (· first | exact ya)) | refine kO rfl rfl rfl rfl rfl ?_ | refine kP rfl rfl rfl ?_ | ((first | refine kQ rfl rfl ?_ ?_ | refine kR rfl rfl rfl rfl rfl ?_ ?_ | refine kS rfl rfl rfl ?_ ?_) <;> intro hc <;> (try simp only [KL, cond_true, cond_false, beq_iff_eq, bne_iff_ne, ne_eq, reduceCtorEq] at hc) <;> (try (have hT : True := hc; clear hT hc)) <;> (try (exfalso; omega))) | apply kT | apply kU | apply kV | apply kW | refine kX rfl ?_ | apply kY | apply kZ)
  all_goals first | (exfalso; omega) | exact retq rfl rfl
theorem cloneN_fn : Fn Tryd.prog 33 [.nilp] .nilp := by
  refine fnb Tryd.func33 (entered_of (by kernel_rfl)) rfl rfl rfl ?_
  repeat' (first | (show W _ _ _ _ _ _; first | apply kA | refine kB rfl ?_ | refine kC rfl rfl ?_ | refine kD rfl rfl ?_ | apply kE | apply kF | apply kG | apply kH | refine kI (by kernel_rfl) (by kernel_rfl) ?_) | (show O _ _ _ _ _ _ _; first | (show O _ _ _ _ (⟨_, .store _ _ _, _, _, _, _⟩ :: _) _ _; refine kJ rfl rfl rfl rfl rfl rfl rfl rfl rfl rfl rfl ?_) | apply kK) | apply kL | ((first | apply kM | apply kN); (iterate 3 (· exact rfl)); (· first | exact ya)) | refine kO rfl rfl rfl rfl rfl ?_ | refine kP rfl rfl rfl ?_ | ((first | refine kQ rfl rfl ?_ ?_ | refine kR rfl rfl rfl rfl rfl ?_ ?_ | refine kS rfl rfl rfl ?_ ?_) <;> intro hc <;> (try simp only [KL, cond_true, cond_false, beq_iff_eq, bne_iff_ne, ne_eq, reduceCtorEq] at hc) <;> (try (have hT : True := hc; clear hT hc)) <;> (try (exfalso; omega))) | apply kT | apply kU | apply kV | apply kW | refine kX rfl ?_ | apply kY | apply kZ)
  all_goals first | (exfalso; omega) | exact retq rfl rfl
end Go.Proofs.YtnijdaidmpjccaaDoor
namespace Go.Proofs.YtnijdaidmpjccaaDoor
set_option linter.unusedSimpArgs false
set_option linter.unusedVariables false
set_option maxRecDepth 100000
set_option linter.unusedSimpArgs false
set_option linter.unusedVariables false
set_option maxRecDepth 100000
open Go.RowKit
def ρ2 (i : Nat) : Nat := [1, 7, 8].getD i (i + 30)
abbrev bk2 (l : List Task) (B : Bk) : Heap :=
  [(1, .blk 59 [.lst 7 (l.map eTask), .own 7, .own 8]), (7, .row 49 8 (B.all.map eJob)), (8, .row 84 2 (B.overs.map eDue))]
def smH (l l' : List Task) (B : Bk) (j : Job) (y : Nat) (f : Bool) : Heap := (20, .blk 49 (eJob j)) :: (ldH l B ++ bk2 l' B)
def smN (i : Nat) : List Nat := if i = 20 then [] else [5, 6]
def ρs1 (i : Nat) : Nat := i
set_option maxHeartbeats 4000000 in
theorem same28_fn (l l' : List Task) (B : Bk) (n : Nat) (h : GoodB l n B) (hn : n ≤ 100000) (i : Int) : FnH Tryd.prog 35 [.ptr 0 0, .ptr 1 0, .int .i64 i] (ldH l B ++ bk2 l' B) (fun r h' => r = .bool true ∧ h' = ldH l B ++ bk2 l' B) := by
  refine FnH.drop' (fnhb Tryd.func35 (entered_of (by kernel_rfl)) rfl rfl ?_)
  have halen := h.alen
  have holen := h.olen
  have c1 := getJ_fn l B n h i
  have c2 := ractive_fn l' B.all B.overs (by omega) i
  rw [actI_good h i] at c2
  have c3 := jobsJ_fn l B (by omega)
  have c4 := oversJ_fn l B (by omega)
  have c5 := activeJ_fn l B
  have c6 := rset_fn l' B.all B.overs (by omega)
  rw [set_good h] at c6
  have c7 := pl_Jobs B.all B.all
  rw [decide_eq_true rfl] at c7
  have c8 := pl_Dues B.overs B.overs
  rw [decide_eq_true rfl] at c8
  obtain ⟨jj, hjj⟩ : ∃ jj, jj = (if hasN B.act i = true then jobAt B i else default) := ⟨_, rfl⟩
  rw [← hjj] at c1
  cases hh : hasN B.act i
  case false =>
    rw [hh, if_neg (by decide)] at hjj c2
    rw [hh] at c1
    repeat' (first | (show W _ _ _ _ _ _; first | apply kA | refine kB rfl ?_ | refine kC rfl rfl ?_ | refine kD rfl rfl ?_ | apply kE | apply kF | apply kG | apply kH | refine kI (by kernel_rfl) (by kernel_rfl) ?_) | (show O _ _ _ _ _ _ _; first | (show O _ _ _ _ (⟨_, .store _ _ _, _, _, _, _⟩ :: _) _ _; refine kJ rfl rfl rfl rfl rfl rfl rfl rfl rfl rfl rfl ?_) | apply kK) | apply kL | ((first | apply kM | apply kN); (iterate 3 (· exact rfl)); (· first | exact ya)) | refine kO rfl rfl rfl rfl rfl ?_ | refine kP rfl rfl rfl ?_ | ((first | refine kQ rfl rfl ?_ ?_ | refine kR rfl rfl rfl rfl rfl ?_ ?_ | refine kS rfl rfl rfl ?_ ?_) <;> intro hc <;> (try simp only [KL, cond_true, cond_false, beq_iff_eq, bne_iff_ne, ne_eq, reduceCtorEq] at hc) <;> (try (have hT : True := hc; clear hT hc)) <;> (try (exfalso; omega))) | apply kT | apply kU | apply kV | apply kW | refine kX rfl ?_ | apply kY | apply kZ)
    refine zcall (fun i => ρs1 i) (c1) rfl rfl leh rfl rfl rfl rfl rfl rfl (fun r h' hR => ?_)
    obtain ⟨rfl, rfl⟩ := hR
    refine ⟨rfl, rfl, ?_⟩
    repeat' (first | (show W _ _ _ _ _ _; first | apply kA | refine kB rfl ?_ | refine kC rfl rfl ?_ | refine kD rfl rfl ?_ | apply kE | apply kF | apply kG | apply kH | refine kI (by kernel_rfl) (by kernel_rfl) ?_) | (show O _ _ _ _ _ _ _; first | (show O _ _ _ _ (⟨_, .alloc _, _, _, _, _⟩ :: _) _ _; first | refine ao_alloc (id := 20) rfl rfl rfl rfl rfl rfl rfl ?_) | (show O _ _ _ _ (⟨_, .store _ _ _, _, _, _, _⟩ :: _) _ _; refine kJ rfl rfl rfl rfl rfl rfl rfl rfl rfl rfl rfl ?_) | apply kK) | apply kL | ((first | apply kM | apply kN); (iterate 3 (· exact rfl)); (· first | exact ya)) | refine kO rfl rfl rfl rfl rfl ?_ | refine kP rfl rfl rfl ?_ | ((first | refine kQ rfl rfl ?_ ?_ | refine kR rfl rfl rfl rfl rfl ?_ ?_ | refine kS rfl rfl rfl ?_ ?_) <;> intro hc <;> (try simp only [KL, cond_true, cond_false, beq_iff_eq, bne_iff_ne, ne_eq, reduceCtorEq] at hc) <;> (try (have hT : True := hc; clear hT hc)) <;> (try (exfalso; omega))) | apply kT | apply kU | apply kV | apply kW | refine kX rfl ?_ | apply kY | apply kZ)
    refine zcall (fun i => ρ2 i) (c2) rfl rfl leh rfl rfl rfl rfl rfl rfl (fun r h' hR => ?_)
    obtain ⟨rfl, rfl⟩ := hR
    refine ⟨rfl, rfl, ?_⟩
    repeat' (first | (show W _ _ _ _ _ _; first | apply kA | refine kB rfl ?_ | refine kC rfl rfl ?_ | refine kD rfl rfl ?_ | apply kE | apply kF | apply kG | apply kH) | (show O _ _ _ _ _ _ _; first | (show O _ _ _ _ (⟨_, .store _ _ _, _, _, _, _⟩ :: _) _ _; refine kJ rfl rfl rfl rfl rfl rfl rfl rfl rfl rfl rfl ?_) | apply kK) | apply kL | ((first | apply kM | apply kN); (iterate 3 (· exact rfl)); (· first | exact ya)) | refine kO rfl rfl rfl rfl rfl ?_ | refine kP rfl rfl rfl ?_ | ((first | refine kQ rfl rfl ?_ ?_ | refine kR rfl rfl rfl rfl rfl ?_ ?_ | refine kS rfl rfl rfl ?_ ?_) <;> intro hc <;> (try simp only [KL, cond_true, cond_false, beq_iff_eq, bne_iff_ne, ne_eq, reduceCtorEq] at hc) <;> (try (have hT : True := hc; clear hT hc)) <;> (try (exfalso; omega))) | apply kT | apply kU | apply kV | apply kW | refine kX rfl ?_ | apply kY | apply kZ)
    refine wle (s' := [(0, .ptr 0 0), (1, .ptr 1 0), (7, .ptr 20 0), (8, .bool false), (9, .int .i64 (-1))]) (h' := smH l l' B jj 0 false) les (show LeH _ ((20, .blk 49 (eJob jj)) :: (ldH l B ++ bk2 l' B)) from leh) ?_
    refine kI (by kernel_rfl) (by kernel_rfl) ?_
    repeat' (first | (show W _ _ _ _ _ _; first | apply kA | refine kB rfl ?_ | refine kC rfl rfl ?_ | refine kD rfl rfl ?_ | apply kE | apply kF | apply kG | apply kH) | (show O _ _ _ _ _ _ _; first | (show O _ _ _ _ (⟨_, .store _ _ _, _, _, _, _⟩ :: _) _ _; refine kJ rfl rfl rfl rfl rfl rfl rfl rfl rfl rfl rfl ?_) | apply kK) | apply kL | ((first | apply kM | apply kN); (iterate 3 (· exact rfl)); (· first | exact ya | exact Y.mk (neq_Job (x := jj) (y := default) rfl rfl rfl))) | refine kO rfl rfl rfl rfl rfl ?_ | refine kP rfl rfl rfl ?_ | ((first | refine kQ rfl rfl ?_ ?_ | refine kR rfl rfl rfl rfl rfl ?_ ?_ | refine kS rfl rfl rfl ?_ ?_) <;> intro hc <;> (try simp only [KL, cond_true, cond_false, beq_iff_eq, bne_iff_ne, ne_eq, reduceCtorEq] at hc) <;> (try (have hT : True := hc; clear hT hc)) <;> (try (exfalso; omega))) | apply kT | apply kU | apply kV | apply kW | refine kX rfl ?_ | apply kY | apply kZ)
    all_goals first | (exfalso; omega) | (exfalso; exact hc hjj) | (exfalso; revert hc; decide) | skip
    all_goals
      refine wdrawQ (smH l l' B jj) (fun _ => True) (fun _ => True) [1, 9, 18, 20] [] 0 99 smN 0 (LeH.refl _) (by kernel_rfl) (by kernel_rfl) (by kernel_rfl) trivial trivial rfl rfl rfl rfl ?_
      refine qw_new (v := .ptr 0 0) rfl rfl (by kernel_rfl) (fun y hy => tn_ok ya) ?_
      refine qw_tu (x' := 0) rfl rfl rfl trivial trivial (fun f hf => tl_call ρs1 c3 rfl (show LeH _ (ldH l B) from leh) rfl rfl rfl rfl rfl rfl rfl rfl (show LeH _ ((20, .blk 49 (eJob jj)) :: (ldH l B ++ bk2 l' B)) from leh)) (by kernel_rfl) ?_
      repeat' (first | (show W _ _ _ _ _ _; first | apply kA | refine kB rfl ?_ | refine kC rfl rfl ?_ | refine kD rfl rfl ?_ | apply kE | apply kF | apply kG | apply kH | refine kI (by kernel_rfl) (by kernel_rfl) ?_) | (show O _ _ _ _ _ _ _; first | (show O _ _ _ _ (⟨_, .store _ _ _, _, _, _, _⟩ :: _) _ _; refine kJ rfl rfl rfl rfl rfl rfl rfl rfl rfl rfl rfl ?_) | apply kK) | apply kL | ((first | apply kM | apply kN); (iterate 3 (· exact rfl)); (· first | exact ya | exact Y.mk (ok_lend c7 rfl rfl rfl))) | (show QW _ _ _ _ _ _ _ _ _ _ _ _ _ _ _; first | refine qw_nil ?_ | (apply qw_any; (· exact rfl); (· exact rfl); (· exact rfl); (· intro y' f' hy'; first | exact ya | exact Y.mk (ok_lend c7 rfl rfl rfl)); (· first | exact rfl | kernel_rfl)) | (apply qw_anyG; (· exact rfl); (· exact rfl); (· exact rfl); (· exact rfl); (· exact rfl); (· intro y' f' hy'; first | exact ya | exact Y.mk (ok_lend c7 rfl rfl rfl)); (· first | exact rfl | kernel_rfl))) | refine kO rfl rfl rfl rfl rfl ?_ | refine kP rfl rfl rfl ?_ | ((first | refine kQ rfl rfl ?_ ?_ | refine kR rfl rfl rfl rfl rfl ?_ ?_ | refine kS rfl rfl rfl ?_ ?_) <;> intro hc <;> (try simp only [KL, cond_true, cond_false, beq_iff_eq, bne_iff_ne, ne_eq, reduceCtorEq] at hc) <;> (try (have hT : True := hc; clear hT hc)) <;> (try (exfalso; omega))) | apply kT | apply kU | apply kV | apply kW | refine kX rfl ?_ | apply kY | apply kZ)
      refine qw_tuG (x' := 0) rfl rfl rfl rfl rfl trivial trivial (fun f hf => tl_call ρs1 c4 rfl (show LeH _ (ldH l B) from leh) rfl rfl rfl rfl rfl rfl rfl rfl (show LeH _ ((20, .blk 49 (eJob jj)) :: (ldH l B ++ bk2 l' B)) from leh)) (by kernel_rfl) ?_
      repeat' (first | (show W _ _ _ _ _ _; first | apply kA | refine kB rfl ?_ | refine kC rfl rfl ?_ | refine kD rfl rfl ?_ | apply kE | apply kF | apply kG | apply kH | refine kI (by kernel_rfl) (by kernel_rfl) ?_) | (show O _ _ _ _ _ _ _; first | (show O _ _ _ _ (⟨_, .store _ _ _, _, _, _, _⟩ :: _) _ _; refine kJ rfl rfl rfl rfl rfl rfl rfl rfl rfl rfl rfl ?_) | apply kK) | apply kL | ((first | apply kM | apply kN); (iterate 3 (· exact rfl)); (· first | exact ya | exact Y.mk (ok_lend c8 rfl rfl rfl))) | (show QW _ _ _ _ _ _ _ _ _ _ _ _ _ _ _; first | refine qw_nil ?_ | (apply qw_any; (· exact rfl); (· exact rfl); (· exact rfl); (· intro y' f' hy'; first | exact ya | exact Y.mk (ok_lend c8 rfl rfl rfl)); (· first | exact rfl | kernel_rfl)) | (apply qw_anyG; (· exact rfl); (· exact rfl); (· exact rfl); (· exact rfl); (· exact rfl); (· intro y' f' hy'; first | exact ya | exact Y.mk (ok_lend c8 rfl rfl rfl)); (· first | exact rfl | kernel_rfl))) | refine kO rfl rfl rfl rfl rfl ?_ | refine kP rfl rfl rfl ?_ | ((first | refine kQ rfl rfl ?_ ?_ | refine kR rfl rfl rfl rfl rfl ?_ ?_ | refine kS rfl rfl rfl ?_ ?_) <;> intro hc <;> (try simp only [KL, cond_true, cond_false, beq_iff_eq, bne_iff_ne, ne_eq, reduceCtorEq] at hc) <;> (try (have hT : True := hc; clear hT hc)) <;> (try (exfalso; omega))) | apply kT | apply kU | apply kV | apply kW | refine kX rfl ?_ | apply kY | apply kZ)
      refine qw_tuG (x' := 0) rfl rfl rfl rfl rfl trivial trivial (fun f hf => tl_call ρs1 c5 rfl (show LeH _ (ldH l B) from leh) rfl rfl rfl rfl rfl rfl rfl rfl (show LeH _ ((20, .blk 49 (eJob jj)) :: (ldH l B ++ bk2 l' B)) from leh)) (by kernel_rfl) ?_
      repeat' (first | (show W _ _ _ _ _ _; first | apply kA | refine kB rfl ?_ | refine kC rfl rfl ?_ | refine kD rfl rfl ?_ | apply kE | apply kF | apply kG | apply kH | refine kI (by kernel_rfl) (by kernel_rfl) ?_) | (show O _ _ _ _ _ _ _; first | (show O _ _ _ _ (⟨_, .store _ _ _, _, _, _, _⟩ :: _) _ _; refine kJ rfl rfl rfl rfl rfl rfl rfl rfl rfl rfl rfl ?_) | apply kK) | apply kL | ((first | apply kM | apply kN); (iterate 3 (· exact rfl)); (· first | exact ya)) | (show QW _ _ _ _ _ _ _ _ _ _ _ _ _ _ _; first | refine qw_nil ?_ | (apply qw_any; (· exact rfl); (· exact rfl); (· exact rfl); (· intro y' f' hy'; first | exact ya); (· first | exact rfl | kernel_rfl)) | (apply qw_anyG; (· exact rfl); (· exact rfl); (· exact rfl); (· exact rfl); (· exact rfl); (· intro y' f' hy'; first | exact ya); (· first | exact rfl | kernel_rfl))) | refine kO rfl rfl rfl rfl rfl ?_ | refine kP rfl rfl rfl ?_ | ((first | refine kQ rfl rfl ?_ ?_ | refine kR rfl rfl rfl rfl rfl ?_ ?_ | refine kS rfl rfl rfl ?_ ?_) <;> intro hc <;> (try simp only [KL, cond_true, cond_false, beq_iff_eq, bne_iff_ne, ne_eq, reduceCtorEq] at hc) <;> (try (have hT : True := hc; clear hT hc)) <;> (try (exfalso; omega))) | apply kT | apply kU | apply kV | apply kW | refine kX rfl ?_ | apply kY | apply kZ)
      refine qw_tuG (x' := 0) rfl rfl rfl rfl rfl trivial trivial (fun f hf => tl_call ρ2 c6 rfl (show LeH _ (renH ρ2 (rbP l' B.all B.overs)) from leh) rfl rfl rfl rfl rfl rfl rfl rfl (show LeH _ ((20, .blk 49 (eJob jj)) :: (ldH l B ++ bk2 l' B)) from leh)) (by kernel_rfl) ?_
      repeat' (first | (show W _ _ _ _ _ _; first | apply kA | refine kB rfl ?_ | refine kC rfl rfl ?_ | refine kD rfl rfl ?_ | apply kE | apply kF | apply kG | apply kH | refine kI (by kernel_rfl) (by kernel_rfl) ?_) | (show O _ _ _ _ _ _ _; first | (show O _ _ _ _ (⟨_, .store _ _ _, _, _, _, _⟩ :: _) _ _; refine kJ rfl rfl rfl rfl rfl rfl rfl rfl rfl rfl rfl ?_) | apply kK) | apply kL | ((first | apply kM | apply kN); (iterate 3 (· exact rfl)); (· first | exact ya)) | (show QW _ _ _ _ _ _ _ _ _ _ _ _ _ _ _; first | refine qw_nil ?_ | (apply qw_any; (· exact rfl); (· exact rfl); (· exact rfl); (· intro y' f' hy'; first | exact ya); (· first | exact rfl | kernel_rfl)) | (apply qw_anyG; (· exact rfl); (· exact rfl); (· exact rfl); (· exact rfl); (· exact rfl); (· intro y' f' hy'; first | exact ya); (· first | exact rfl | kernel_rfl))) | refine kO rfl rfl rfl rfl rfl ?_ | refine kP rfl rfl rfl ?_ | ((first | refine kQ rfl rfl ?_ ?_ | refine kR rfl rfl rfl rfl rfl ?_ ?_ | refine kS rfl rfl rfl ?_ ?_) <;> intro hc <;> (try simp only [KL, cond_true, cond_false, beq_iff_eq, bne_iff_ne, ne_eq, reduceCtorEq] at hc) <;> (try (have hT : True := hc; clear hT hc)) <;> (try (exfalso; omega))) | apply kT | apply kU | apply kV | apply kW | refine kX rfl ?_ | apply kY | apply kZ)
      exact retq rfl ⟨ldH l B ++ bk2 l' B, (show LeH ((20, .blk 49 (eJob jj)) :: (ldH l B ++ bk2 l' B)) _ from leh), congrArg AV.bool (decide_eq_true rfl), rfl⟩
  case true =>
    rw [hh, if_pos rfl] at hjj c2
    rw [hh] at c1
    rw [jobAt] at hjj
    repeat' (first | (show W _ _ _ _ _ _; first | apply kA | refine kB rfl ?_ | refine kC rfl rfl ?_ | refine kD rfl rfl ?_ | apply kE | apply kF | apply kG | apply kH | refine kI (by kernel_rfl) (by kernel_rfl) ?_) | (show O _ _ _ _ _ _ _; first | (show O _ _ _ _ (⟨_, .store _ _ _, _, _, _, _⟩ :: _) _ _; refine kJ rfl rfl rfl rfl rfl rfl rfl rfl rfl rfl rfl ?_) | apply kK) | apply kL | ((first | apply kM | apply kN); (iterate 3 (· exact rfl)); (· first | exact ya)) | refine kO rfl rfl rfl rfl rfl ?_ | refine kP rfl rfl rfl ?_ | ((first | refine kQ rfl rfl ?_ ?_ | refine kR rfl rfl rfl rfl rfl ?_ ?_ | refine kS rfl rfl rfl ?_ ?_) <;> intro hc <;> (try simp only [KL, cond_true, cond_false, beq_iff_eq, bne_iff_ne, ne_eq, reduceCtorEq] at hc) <;> (try (have hT : True := hc; clear hT hc)) <;> (try (exfalso; omega))) | apply kT | apply kU | apply kV | apply kW | refine kX rfl ?_ | apply kY | apply kZ)
    refine zcall (fun i => ρs1 i) (c1) rfl rfl leh rfl rfl rfl rfl rfl rfl (fun r h' hR => ?_)
    obtain ⟨rfl, rfl⟩ := hR
    refine ⟨rfl, rfl, ?_⟩
    repeat' (first | (show W _ _ _ _ _ _; first | apply kA | refine kB rfl ?_ | refine kC rfl rfl ?_ | refine kD rfl rfl ?_ | apply kE | apply kF | apply kG | apply kH | refine kI (by kernel_rfl) (by kernel_rfl) ?_) | (show O _ _ _ _ _ _ _; first | (show O _ _ _ _ (⟨_, .alloc _, _, _, _, _⟩ :: _) _ _; first | refine ao_alloc (id := 20) rfl rfl rfl rfl rfl rfl rfl ?_) | (show O _ _ _ _ (⟨_, .store _ _ _, _, _, _, _⟩ :: _) _ _; refine kJ rfl rfl rfl rfl rfl rfl rfl rfl rfl rfl rfl ?_) | apply kK) | apply kL | ((first | apply kM | apply kN); (iterate 3 (· exact rfl)); (· first | exact ya)) | refine kO rfl rfl rfl rfl rfl ?_ | refine kP rfl rfl rfl ?_ | ((first | refine kQ rfl rfl ?_ ?_ | refine kR rfl rfl rfl rfl rfl ?_ ?_ | refine kS rfl rfl rfl ?_ ?_) <;> intro hc <;> (try simp only [KL, cond_true, cond_false, beq_iff_eq, bne_iff_ne, ne_eq, reduceCtorEq] at hc) <;> (try (have hT : True := hc; clear hT hc)) <;> (try (exfalso; omega))) | apply kT | apply kU | apply kV | apply kW | refine kX rfl ?_ | apply kY | apply kZ)
    refine zcall (fun i => ρ2 i) (c2) rfl rfl leh rfl rfl rfl rfl rfl rfl (fun r h' hR => ?_)
    obtain ⟨rfl, rfl⟩ := hR
    refine ⟨rfl, rfl, ?_⟩
    repeat' (first | (show W _ _ _ _ _ _; first | apply kA | refine kB rfl ?_ | refine kC rfl rfl ?_ | refine kD rfl rfl ?_ | apply kE | apply kF | apply kG | apply kH) | (show O _ _ _ _ _ _ _; first | (show O _ _ _ _ (⟨_, .store _ _ _, _, _, _, _⟩ :: _) _ _; refine kJ rfl rfl rfl rfl rfl rfl rfl rfl rfl rfl rfl ?_) | apply kK) | apply kL | ((first | apply kM | apply kN); (iterate 3 (· exact rfl)); (· first | exact ya)) | refine kO rfl rfl rfl rfl rfl ?_ | refine kP rfl rfl rfl ?_ | ((first | refine kQ rfl rfl ?_ ?_ | refine kR rfl rfl rfl rfl rfl ?_ ?_ | refine kS rfl rfl rfl ?_ ?_) <;> intro hc <;> (try simp only [KL, cond_true, cond_false, beq_iff_eq, bne_iff_ne, ne_eq, reduceCtorEq] at hc) <;> (try (have hT : True := hc; clear hT hc)) <;> (try (exfalso; omega))) | apply kT | apply kU | apply kV | apply kW | refine kX rfl ?_ | apply kY | apply kZ)
    refine wle (s' := [(0, .ptr 0 0), (1, .ptr 1 0), (7, .ptr 20 0), (8, .bool true), (9, .int .i64 (posB B i : Nat))]) (h' := smH l l' B jj 0 false) les (show LeH _ ((20, .blk 49 (eJob jj)) :: (ldH l B ++ bk2 l' B)) from leh) ?_
    have hpo : posB B i < B.all.length := (h.pos hh).2.1
    generalize posB B i = p at *
    refine kI (by kernel_rfl) (by kernel_rfl) ?_
    repeat' (first | (show W _ _ _ _ _ _; first | apply kA | refine kB rfl ?_ | refine kC rfl rfl ?_ | refine kD rfl rfl ?_ | apply kE | apply kF | apply kG | apply kH) | (show O _ _ _ _ _ _ _; first | (show O _ _ _ _ (⟨_, .store _ _ _, _, _, _, _⟩ :: _) _ _; refine kJ rfl rfl rfl rfl rfl rfl rfl rfl rfl rfl rfl ?_) | apply kK) | apply kL | ((first | apply kM | apply kN); (iterate 3 (· exact rfl)); (· first | exact ya | exact Y.mk (neq_Job (x := jj) (y := B.all.getD p default) rfl rfl rfl))) | refine kO rfl rfl rfl rfl rfl ?_ | refine kP rfl rfl rfl ?_ | ((first | refine kQ rfl rfl ?_ ?_ | refine kR rfl rfl rfl rfl rfl ?_ ?_ | refine kS rfl rfl rfl ?_ ?_) <;> intro hc <;> (try simp only [KL, cond_true, cond_false, beq_iff_eq, bne_iff_ne, ne_eq, reduceCtorEq] at hc) <;> (try (have hT : True := hc; clear hT hc)) <;> (try (exfalso; omega))) | apply kT | apply kU | apply kV | apply kW | refine kX rfl ?_ | apply kY | apply kZ)
    all_goals first | (exfalso; omega) | (exfalso; exact hc hjj) | (exfalso; rw [decide_eq_true (show (0 : Int) ≤ (p : Int) by omega)] at hc; revert hc; decide) | skip
    all_goals
      refine wdrawQ (smH l l' B jj) (fun _ => True) (fun _ => True) [1, 9, 18, 20] [] 0 99 smN 0 (LeH.refl _) (by kernel_rfl) (by kernel_rfl) (by kernel_rfl) trivial trivial rfl rfl rfl rfl ?_
      refine qw_new (v := .ptr 0 0) rfl rfl (by kernel_rfl) (fun y hy => tn_ok ya) ?_
      refine qw_tu (x' := 0) rfl rfl rfl trivial trivial (fun f hf => tl_call ρs1 c3 rfl (show LeH _ (ldH l B) from leh) rfl rfl rfl rfl rfl rfl rfl rfl (show LeH _ ((20, .blk 49 (eJob jj)) :: (ldH l B ++ bk2 l' B)) from leh)) (by kernel_rfl) ?_
      repeat' (first | (show W _ _ _ _ _ _; first | apply kA | refine kB rfl ?_ | refine kC rfl rfl ?_ | refine kD rfl rfl ?_ | apply kE | apply kF | apply kG | apply kH | refine kI (by kernel_rfl) (by kernel_rfl) ?_) | (show O _ _ _ _ _ _ _; first | (show O _ _ _ _ (⟨_, .store _ _ _, _, _, _, _⟩ :: _) _ _; refine kJ rfl rfl rfl rfl rfl rfl rfl rfl rfl rfl rfl ?_) | apply kK) | apply kL | ((first | apply kM | apply kN); (iterate 3 (· exact rfl)); (· first | exact ya | exact Y.mk (ok_lend c7 rfl rfl rfl))) | (show QW _ _ _ _ _ _ _ _ _ _ _ _ _ _ _; first | refine qw_nil ?_ | (apply qw_any; (· exact rfl); (· exact rfl); (· exact rfl); (· intro y' f' hy'; first | exact ya | exact Y.mk (ok_lend c7 rfl rfl rfl)); (· first | exact rfl | kernel_rfl)) | (apply qw_anyG; (· exact rfl); (· exact rfl); (· exact rfl); (· exact rfl); (· exact rfl); (· intro y' f' hy'; first | exact ya | exact Y.mk (ok_lend c7 rfl rfl rfl)); (· first | exact rfl | kernel_rfl))) | refine kO rfl rfl rfl rfl rfl ?_ | refine kP rfl rfl rfl ?_ | ((first | refine kQ rfl rfl ?_ ?_ | refine kR rfl rfl rfl rfl rfl ?_ ?_ | refine kS rfl rfl rfl ?_ ?_) <;> intro hc <;> (try simp only [KL, cond_true, cond_false, beq_iff_eq, bne_iff_ne, ne_eq, reduceCtorEq] at hc) <;> (try (have hT : True := hc; clear hT hc)) <;> (try (exfalso; omega))) | apply kT | apply kU | apply kV | apply kW | refine kX rfl ?_ | apply kY | apply kZ)
      refine qw_tuG (x' := 0) rfl rfl rfl rfl rfl trivial trivial (fun f hf => tl_call ρs1 c4 rfl (show LeH _ (ldH l B) from leh) rfl rfl rfl rfl rfl rfl rfl rfl (show LeH _ ((20, .blk 49 (eJob jj)) :: (ldH l B ++ bk2 l' B)) from leh)) (by kernel_rfl) ?_
      repeat' (first | (show W _ _ _ _ _ _; first | apply kA | refine kB rfl ?_ | refine kC rfl rfl ?_ | refine kD rfl rfl ?_ | apply kE | apply kF | apply kG | apply kH | refine kI (by kernel_rfl) (by kernel_rfl) ?_) | (show O _ _ _ _ _ _ _; first | (show O _ _ _ _ (⟨_, .store _ _ _, _, _, _, _⟩ :: _) _ _; refine kJ rfl rfl rfl rfl rfl rfl rfl rfl rfl rfl rfl ?_) | apply kK) | apply kL | ((first | apply kM | apply kN); (iterate 3 (· exact rfl)); (· first | exact ya | exact Y.mk (ok_lend c8 rfl rfl rfl))) | (show QW _ _ _ _ _ _ _ _ _ _ _ _ _ _ _; first | refine qw_nil ?_ | (apply qw_any; (· exact rfl); (· exact rfl); (· exact rfl); (· intro y' f' hy'; first | exact ya | exact Y.mk (ok_lend c8 rfl rfl rfl)); (· first | exact rfl | kernel_rfl)) | (apply qw_anyG; (· exact rfl); (· exact rfl); (· exact rfl); (· exact rfl); (· exact rfl); (· intro y' f' hy'; first | exact ya | exact Y.mk (ok_lend c8 rfl rfl rfl)); (· first | exact rfl | kernel_rfl))) | refine kO rfl rfl rfl rfl rfl ?_ | refine kP rfl rfl rfl ?_ | ((first | refine kQ rfl rfl ?_ ?_ | refine kR rfl rfl rfl rfl rfl ?_ ?_ | refine kS rfl rfl rfl ?_ ?_) <;> intro hc <;> (try simp only [KL, cond_true, cond_false, beq_iff_eq, bne_iff_ne, ne_eq, reduceCtorEq] at hc) <;> (try (have hT : True := hc; clear hT hc)) <;> (try (exfalso; omega))) | apply kT | apply kU | apply kV | apply kW | refine kX rfl ?_ | apply kY | apply kZ)
      refine qw_tuG (x' := 0) rfl rfl rfl rfl rfl trivial trivial (fun f hf => tl_call ρs1 c5 rfl (show LeH _ (ldH l B) from leh) rfl rfl rfl rfl rfl rfl rfl rfl (show LeH _ ((20, .blk 49 (eJob jj)) :: (ldH l B ++ bk2 l' B)) from leh)) (by kernel_rfl) ?_
      repeat' (first | (show W _ _ _ _ _ _; first | apply kA | refine kB rfl ?_ | refine kC rfl rfl ?_ | refine kD rfl rfl ?_ | apply kE | apply kF | apply kG | apply kH | refine kI (by kernel_rfl) (by kernel_rfl) ?_) | (show O _ _ _ _ _ _ _; first | (show O _ _ _ _ (⟨_, .store _ _ _, _, _, _, _⟩ :: _) _ _; refine kJ rfl rfl rfl rfl rfl rfl rfl rfl rfl rfl rfl ?_) | apply kK) | apply kL | ((first | apply kM | apply kN); (iterate 3 (· exact rfl)); (· first | exact ya)) | (show QW _ _ _ _ _ _ _ _ _ _ _ _ _ _ _; first | refine qw_nil ?_ | (apply qw_any; (· exact rfl); (· exact rfl); (· exact rfl); (· intro y' f' hy'; first | exact ya); (· first | exact rfl | kernel_rfl)) | (apply qw_anyG; (· exact rfl); (· exact rfl); (· exact rfl); (· exact rfl); (· exact rfl); (· intro y' f' hy'; first | exact ya); (· first | exact rfl | kernel_rfl))) | refine kO rfl rfl rfl rfl rfl ?_ | refine kP rfl rfl rfl ?_ | ((first | refine kQ rfl rfl ?_ ?_ | refine kR rfl rfl rfl rfl rfl ?_ ?_ | refine kS rfl rfl rfl ?_ ?_) <;> intro hc <;> (try simp only [KL, cond_true, cond_false, beq_iff_eq, bne_iff_ne, ne_eq, reduceCtorEq] at hc) <;> (try (have hT : True := hc; clear hT hc)) <;> (try (exfalso; omega))) | apply kT | apply kU | apply kV | apply kW | refine kX rfl ?_ | apply kY | apply kZ)
      refine qw_tuG (x' := 0) rfl rfl rfl rfl rfl trivial trivial (fun f hf => tl_call ρ2 c6 rfl (show LeH _ (renH ρ2 (rbP l' B.all B.overs)) from leh) rfl rfl rfl rfl rfl rfl rfl rfl (show LeH _ ((20, .blk 49 (eJob jj)) :: (ldH l B ++ bk2 l' B)) from leh)) (by kernel_rfl) ?_
      repeat' (first | (show W _ _ _ _ _ _; first | apply kA | refine kB rfl ?_ | refine kC rfl rfl ?_ | refine kD rfl rfl ?_ | apply kE | apply kF | apply kG | apply kH | refine kI (by kernel_rfl) (by kernel_rfl) ?_) | (show O _ _ _ _ _ _ _; first | (show O _ _ _ _ (⟨_, .store _ _ _, _, _, _, _⟩ :: _) _ _; refine kJ rfl rfl rfl rfl rfl rfl rfl rfl rfl rfl rfl ?_) | apply kK) | apply kL | ((first | apply kM | apply kN); (iterate 3 (· exact rfl)); (· first | exact ya)) | (show QW _ _ _ _ _ _ _ _ _ _ _ _ _ _ _; first | refine qw_nil ?_ | (apply qw_any; (· exact rfl); (· exact rfl); (· exact rfl); (· intro y' f' hy'; first | exact ya); (· first | exact rfl | kernel_rfl)) | (apply qw_anyG; (· exact rfl); (· exact rfl); (· exact rfl); (· exact rfl); (· exact rfl); (· intro y' f' hy'; first | exact ya); (· first | exact rfl | kernel_rfl))) | refine kO rfl rfl rfl rfl rfl ?_ | refine kP rfl rfl rfl ?_ | ((first | refine kQ rfl rfl ?_ ?_ | refine kR rfl rfl rfl rfl rfl ?_ ?_ | refine kS rfl rfl rfl ?_ ?_) <;> intro hc <;> (try simp only [KL, cond_true, cond_false, beq_iff_eq, bne_iff_ne, ne_eq, reduceCtorEq] at hc) <;> (try (have hT : True := hc; clear hT hc)) <;> (try (exfalso; omega))) | apply kT | apply kU | apply kV | apply kW | refine kX rfl ?_ | apply kY | apply kZ)
      exact retq rfl ⟨ldH l B ++ bk2 l' B, (show LeH ((20, .blk 49 (eJob jj)) :: (ldH l B ++ bk2 l' B)) _ from leh), congrArg AV.bool (decide_eq_true rfl), rfl⟩
end Go.Proofs.YtnijdaidmpjccaaDoor
namespace Go.Proofs.YtnijdaidmpjccaaDoor
set_option linter.unusedSimpArgs false
set_option linter.unusedVariables false
set_option maxRecDepth 100000
set_option linter.unusedSimpArgs false
set_option linter.unusedVariables false
set_option maxRecDepth 100000
open Go.RowKit
theorem lateN_fn (t : Int) : FnT Tryd.prog tabK 30 [.nilp, .int .i64 t] (.lst 1 (([] : List Int).map eI)) := by
  refine fntw Tryd.func30 (entered_of (by kernel_rfl)) rfl rfl rfl rfl ?_
  have c4 := blist_fn 0 (by decide)
  have e0 : setL 0 = [] := by decide
  rw [e0] at c4
  have hnil : ([] : List Int).length = 0 := rfl
  have c1 := activeN_fn
  repeat' (first | (show W _ _ _ _ _ _; first | apply kA | refine kB rfl ?_ | refine kC rfl rfl ?_ | refine kD rfl rfl ?_ | apply kE | apply kF | apply kG | apply kH | refine kI (by kernel_rfl) (by kernel_rfl) ?_) | (show O _ _ _ _ _ _ _; first | (show O _ _ _ _ (⟨_, .store _ _ _, _, _, _, _⟩ :: _) _ _; refine kJ rfl rfl rfl rfl rfl rfl rfl rfl rfl rfl rfl ?_) | apply kK) | apply kL | ((first | apply kM | apply kN); (iterate 3 (· exact rfl)); (· first | (show Y _ ⟨_, .call ⟨.value _, _, _⟩, _, _, _, _⟩ _ _ _; first | exact q_c (c1) rfl) | exact ya | exact Y.mk (ok_callT (id := 9) c4 rfl rfl))) | refine kO rfl rfl rfl rfl rfl ?_ | refine kP rfl rfl rfl ?_ | ((first | refine kQ rfl rfl ?_ ?_ | refine kR rfl rfl rfl rfl rfl ?_ ?_ | refine kS rfl rfl rfl ?_ ?_) <;> intro hc <;> (try simp only [KL, cond_true, cond_false, beq_iff_eq, bne_iff_ne, ne_eq, reduceCtorEq] at hc) <;> (try (have hT : True := hc; clear hT hc)) <;> (try (exfalso; omega))) | apply kT | apply kU | apply kV | apply kW | refine kX rfl ?_ | apply kY | apply kZ)
  refine wloop (fun k : Nat => ([(5, .nils), (12, .int .i64 (([] : List Int).length)), (13, .int .i64 k)], [(9, .sem (thatC tabK))])) (fun k => k = 0) (fun k => k) 0 rfl les leh (fun k hk => ?_)
  subst hk
  repeat' (first | (show W _ _ _ _ _ _; first | apply kA | refine kB rfl ?_ | refine kC rfl rfl ?_ | refine kD rfl rfl ?_ | apply kE | apply kF | apply kG | apply kH | refine kI (by kernel_rfl) (by kernel_rfl) ?_) | (show O _ _ _ _ _ _ _; first | (show O _ _ _ _ (⟨_, .store _ _ _, _, _, _, _⟩ :: _) _ _; refine kJ rfl rfl rfl rfl rfl rfl rfl rfl rfl rfl rfl ?_) | apply kK) | apply kL | ((first | apply kM | apply kN); (iterate 3 (· exact rfl)); (· first | exact ya)) | refine kO rfl rfl rfl rfl rfl ?_ | refine kP rfl rfl rfl ?_ | ((first | refine kQ rfl rfl ?_ ?_ | refine kR rfl rfl rfl rfl rfl ?_ ?_ | refine kS rfl rfl rfl ?_ ?_) <;> intro hc <;> (try simp only [KL, cond_true, cond_false, beq_iff_eq, bne_iff_ne, ne_eq, reduceCtorEq] at hc) <;> (try (have hT : True := hc; clear hT hc)) <;> (try (exfalso; omega))) | apply kT | apply kU | apply kV | apply kW | refine kX rfl ?_ | apply kY | apply kZ)
  all_goals first | (exfalso; omega) | skip
  refine retT (fun _ => turn_nil 1 (t := 4) rfl) ?_
  exact retq rfl rfl
theorem LeH.of_eq {h h' : Heap} (e : h = h') : LeH h h' := e ▸ LeH.refl _
def ρcl (i : Nat) : Nat := [10, 15, 12, 13, 16, 25, 26, 27, 28, 29].getD i (i + 40)
def ρcc (i : Nat) : Nat := [29, 41, 27, 28, 42, 25, 26].getD i (i + 40)
def ρbk (i : Nat) : Nat := [40, 51, 52, 53, 54, 45, 46].getD i (i + 60)
def ρsm (i : Nat) : Nat := [10, 40, 12, 13, 54, 15, 16, 45, 46].getD i (i + 60)
abbrev ldC (l : List Task) (B : Bk) : Heap :=
  [(29, .blk 80 [.lst 7 (l.map eTask), .own 25, .own 27, .own 28, .int .u64 B.act, .own 26]), (25, .row 49 8 (B.all.map eJob)), (27, mI B.now), (28, mI B.cnt), (26, .row 84 2 (B.overs.map eDue))]
abbrev ldX (l : List Task) (B : Bk) : Heap :=
  [(10, .blk 80 [.lst 7 (l.map eTask), .own 15, .own 12, .own 13, .int .u64 B.act, .own 16]), (15, .row 49 8 (B.all.map eJob)), (12, mI B.now), (13, mI B.cnt), (16, .row 84 2 (B.overs.map eDue))]
abbrev ldY (l : List Task) (B : Bk) : Heap :=
  [(25, .row 49 8 (B.all.map eJob)), (26, .row 84 2 (B.overs.map eDue)), (27, mI B.now), (28, mI B.cnt), (29, .blk 80 [.lst 7 (l.map eTask), .own 25, .own 27, .own 28, .int .u64 B.act, .own 26])]
abbrev bkC (l : List Task) (B : Bk) : Heap :=
  [(40, .blk 59 [.lst 7 (l.map eTask), .own 45, .own 46]), (45, .row 49 8 (B.all.map eJob)), (46, .row 84 2 (B.overs.map eDue))]
set_option maxHeartbeats 1200000 in
theorem jobClones_fn (l : List Task) (i t : Int) : FnT Tryd.prog tabK 7 [.lst 7 (l.map eTask), .int .i64 i, .int .i64 t] (.bool true) := by
  refine fntw Tryd.func7 (entered_of (by kernel_rfl)) rfl rfl rfl rfl ?_
  have c0 := awake28_fn
  have c1 := few_fn l 70 (by omega)
  cases hfew : fewQ l 70
  case false =>
    rw [hfew] at c1
    repeat' (first | (show W _ _ _ _ _ _; first | apply kA | refine kB rfl ?_ | refine kC rfl rfl ?_ | refine kD rfl rfl ?_ | apply kE | apply kF | apply kG | apply kH | refine kI (by kernel_rfl) (by kernel_rfl) ?_) | (show O _ _ _ _ _ _ _; first | (show O _ _ _ _ (⟨_, .store _ _ _, _, _, _, _⟩ :: _) _ _; refine kJ rfl rfl rfl rfl rfl rfl rfl rfl rfl rfl rfl ?_) | apply kK) | apply kL | ((first | apply kM | apply kN); (iterate 3 (· exact rfl)); (· first | (show Y _ ⟨_, .call ⟨.value _, _, _⟩, _, _, _, _⟩ _ _ _; first | exact q_c (c1) rfl) | exact ya | exact Y.mk (ok_callT (id := 9) c0 rfl rfl))) | refine kO rfl rfl rfl rfl rfl ?_ | refine kP rfl rfl rfl ?_ | ((first | refine kQ rfl rfl ?_ ?_ | refine kR rfl rfl rfl rfl rfl ?_ ?_ | refine kS rfl rfl rfl ?_ ?_) <;> intro hc <;> (try simp only [KL, cond_true, cond_false, beq_iff_eq, bne_iff_ne, ne_eq, reduceCtorEq] at hc) <;> (try (have hT : True := hc; clear hT hc)) <;> (try (exfalso; omega))) | apply kT | apply kU | apply kV | apply kW | refine kX rfl ?_ | apply kY | apply kZ)
    all_goals first | (exfalso; omega) | exact retq rfl rfl
  rw [hfew] at c1
  have hl70 : l.length ≤ 70 := by rw [fewQ, Bool.and_eq_true, decide_eq_true_eq] at hfew; omega
  have h64 := hd64_len l
  have g0 := good_new (l := hd64 l) h64.1
  have g1 := g0.rel i t
  have f1 := relJ_fn (hd64 l) newB 0 g0 (by omega) i t
  have f2 := rrelJ_fn l newB 0 g0 (by omega) i t
  generalize relBk (hd64 l) newB i t = B at *
  have ha := g1.alen
  have ho := g1.olen
  have f3 := cloneJ_fn (hd64 l) B (by omega) (by omega) (by omega)
  have g2 := g1.step i t
  have f4 := stepJ_fn (hd64 l) B 1 g1 (by omega) i t
  generalize stepBk B i t = B2 at *
  have g3 := g2.fin i t
  have f5 := endJ_fn (hd64 l) B2 2 g2 (by omega) i t
  generalize endBk B2 i t = B3 at *
  have f6 := relJ_fn (hd64 l) B3 3 g3 (by omega) 0 t
  generalize relBk (hd64 l) B3 0 t = B4 at *
  have f7 := same28_fn (hd64 l) l B 1 g1 (by omega) i
  have n1 := relN_fn i t
  have n2 := endN_fn i t
  have n3 := getN_fn i
  have n4 := stepN_fn i t
  have n5 := lateN_fn t
  have hnil : ([] : List Int).length = 0 := rfl
  have n6 := activeN_fn
  have n7 := jobsN_fn
  have n8 := oversN_fn
  have n9 := cloneN_fn
  repeat' (first | (show W _ _ _ _ _ _; first | apply kA | refine kB rfl ?_ | refine kC rfl rfl ?_ | refine kD rfl rfl ?_ | apply kE | apply kF | apply kG | apply kH | refine kI (by kernel_rfl) (by kernel_rfl) ?_) | (show O _ _ _ _ _ _ _; first | (show O _ _ _ _ (⟨_, .store _ _ _, _, _, _, _⟩ :: _) _ _; refine kJ rfl rfl rfl rfl rfl rfl rfl rfl rfl rfl rfl ?_) | apply kK) | apply kL | ((first | apply kM | apply kN); (iterate 3 (· exact rfl)); (· first | (show Y _ ⟨_, .call ⟨.value _, _, _⟩, _, _, _, _⟩ _ _ _; first | exact q_c (c1) rfl) | exact ya)) | refine kO rfl rfl rfl rfl rfl ?_ | refine kP rfl rfl rfl ?_ | ((first | refine kQ rfl rfl ?_ ?_ | refine kR rfl rfl rfl rfl rfl ?_ ?_ | refine kS rfl rfl rfl ?_ ?_) <;> intro hc <;> (try simp only [KL, cond_true, cond_false, beq_iff_eq, bne_iff_ne, ne_eq, reduceCtorEq] at hc) <;> (try (have hT : True := hc; clear hT hc)) <;> (try (exfalso; omega))) | apply kT | apply kU | apply kV | apply kW | refine kX rfl ?_ | apply kY | apply kZ)
  all_goals first | (exfalso; omega) | skip
  refine oturn (turn_dummy eI 10 3 1 (by omega) rfl) ?_
  refine oturn (turn_dummy eI 12 3 1 (by omega) rfl) ?_
  refine oturn (turn_dummy eI 13 3 1 (by omega) rfl) ?_
  refine zcall (fun i => ρn i) (new28_fn l (by omega)) rfl rfl leh rfl rfl rfl rfl rfl rfl (fun r h' hR => ?_)
  obtain ⟨rfl, rfl⟩ := hR
  refine ⟨rfl, rfl, ?_⟩
  repeat' (first | (show W _ _ _ _ _ _; first | apply kA | refine kB rfl ?_ | refine kC rfl rfl ?_ | refine kD rfl rfl ?_ | apply kE | apply kF | apply kG | apply kH | refine kI (by kernel_rfl) (by kernel_rfl) ?_) | (show O _ _ _ _ _ _ _; first | (show O _ _ _ _ (⟨_, .box _ _, _, _, _, _⟩ :: _) _ _; first | refine ao_box (id := 40) rfl rfl rfl rfl rfl rfl rfl rfl ?_) | (show O _ _ _ _ (⟨_, .store _ _ _, _, _, _, _⟩ :: _) _ _; refine kJ rfl rfl rfl rfl rfl rfl rfl rfl rfl rfl rfl ?_) | apply kK) | apply kL | ((first | apply kM | apply kN); (iterate 3 (· exact rfl)); (· first | exact yab)) | refine kO rfl rfl rfl rfl rfl ?_ | refine kP rfl rfl rfl ?_ | ((first | refine kQ rfl rfl ?_ ?_ | refine kR rfl rfl rfl rfl rfl ?_ ?_ | refine kS rfl rfl rfl ?_ ?_) <;> intro hc <;> (try simp only [KL, cond_true, cond_false, beq_iff_eq, bne_iff_ne, ne_eq, reduceCtorEq] at hc) <;> (try (have hT : True := hc; clear hT hc)) <;> (try (exfalso; omega))) | apply kT | apply kU | apply kV | apply kW | refine kX rfl ?_ | apply kY | apply kZ)
  refine oturn (turn_ownJ eJob 1 (b := 10) rfl rfl 15 49 8 (by omega) rfl) ?_
  refine oturn (turn_ownJ eDue 5 (b := 10) rfl rfl 16 84 2 (by omega) rfl) ?_
  refine oturn (turn_ownJ eJob 1 (b := 40) rfl rfl 45 49 8 (by omega) rfl) ?_
  refine oturn (turn_ownJ eDue 2 (b := 40) rfl rfl 46 84 2 (by omega) rfl) ?_
  refine ole (h' := bkC l newB ++ ldB (hd64 l) newB) (LeS.refl _) leh ?_
  refine zcall (fun i => ρb i) (f1) rfl rfl leh rfl rfl rfl rfl rfl rfl (fun r h' hR => ?_)
  obtain ⟨rfl, rfl⟩ := hR
  refine ⟨rfl, rfl, ?_⟩
  repeat' (first | (show W _ _ _ _ _ _; first | apply kA | refine kB rfl ?_ | refine kC rfl rfl ?_ | refine kD rfl rfl ?_ | apply kE | apply kF | apply kG | apply kH | refine kI (by kernel_rfl) (by kernel_rfl) ?_) | (show O _ _ _ _ _ _ _; first | (show O _ _ _ _ (⟨_, .store _ _ _, _, _, _, _⟩ :: _) _ _; refine kJ rfl rfl rfl rfl rfl rfl rfl rfl rfl rfl rfl ?_) | apply kK) | apply kL | ((first | apply kM | apply kN); (iterate 3 (· exact rfl)); (· first | exact ya)) | refine kO rfl rfl rfl rfl rfl ?_ | refine kP rfl rfl rfl ?_ | ((first | refine kQ rfl rfl ?_ ?_ | refine kR rfl rfl rfl rfl rfl ?_ ?_ | refine kS rfl rfl rfl ?_ ?_) <;> intro hc <;> (try simp only [KL, cond_true, cond_false, beq_iff_eq, bne_iff_ne, ne_eq, reduceCtorEq] at hc) <;> (try (have hT : True := hc; clear hT hc)) <;> (try (exfalso; omega))) | apply kT | apply kU | apply kV | apply kW | refine kX rfl ?_ | apply kY | apply kZ)
  refine ole (s' := [(0, .lst 7 (l.map eTask)), (1, .int .i64 i), (2, .int .i64 t), (7, .ptr 10 0), (8, .ptr 40 0), (30, .ptr 40 0), (31, .int .i64 i), (32, .int .i64 t)]) (h' := bkC l newB ++ ldB (hd64 l) B) les leh ?_
  refine zcall (fun i => ρbk i) (f2) rfl rfl leh rfl rfl rfl rfl rfl rfl (fun r h' hR => ?_)
  obtain ⟨rfl, rfl⟩ := hR
  refine ⟨rfl, rfl, ?_⟩
  repeat' (first | (show W _ _ _ _ _ _; first | apply kA | refine kB rfl ?_ | refine kC rfl rfl ?_ | refine kD rfl rfl ?_ | apply kE | apply kF | apply kG | apply kH | refine kI (by kernel_rfl) (by kernel_rfl) ?_) | (show O _ _ _ _ _ _ _; first | (show O _ _ _ _ (⟨_, .store _ _ _, _, _, _, _⟩ :: _) _ _; refine kJ rfl rfl rfl rfl rfl rfl rfl rfl rfl rfl rfl ?_) | apply kK) | apply kL | ((first | apply kM | apply kN); (iterate 3 (· exact rfl)); (· first | exact ya)) | refine kO rfl rfl rfl rfl rfl ?_ | refine kP rfl rfl rfl ?_ | ((first | refine kQ rfl rfl ?_ ?_ | refine kR rfl rfl rfl rfl rfl ?_ ?_ | refine kS rfl rfl rfl ?_ ?_) <;> intro hc <;> (try simp only [KL, cond_true, cond_false, beq_iff_eq, bne_iff_ne, ne_eq, reduceCtorEq] at hc) <;> (try (have hT : True := hc; clear hT hc)) <;> (try (exfalso; omega))) | apply kT | apply kU | apply kV | apply kW | refine kX rfl ?_ | apply kY | apply kZ)
  refine ole (s' := [(0, .lst 7 (l.map eTask)), (1, .int .i64 i), (2, .int .i64 t), (7, .ptr 10 0), (8, .ptr 40 0), (34, .ptr 10 0)]) (h' := bkC l B ++ ldB (hd64 l) B) les leh ?_
  refine oturn (turn_dummy eJob 25 49 8 (by omega) rfl) ?_
  refine oturn (turn_dummy eDue 26 84 2 (by omega) rfl) ?_
  refine oturn (turn_dummy eI 27 3 1 (by omega) rfl) ?_
  refine oturn (turn_dummy eI 28 3 1 (by omega) rfl) ?_
  refine oturn (turn_dummy eI 29 3 1 (by omega) rfl) ?_
  refine zcall (fun i => ρcl i) (f3) rfl rfl leh (by kernel_rfl) (by kernel_rfl) (by kernel_rfl) (by kernel_rfl) rfl rfl (fun r h' hR => ?_)
  obtain ⟨rfl, rfl⟩ := hR
  refine ⟨rfl, rfl, ?_⟩
  refine ole (h' := ldX (hd64 l) B ++ (ldY (hd64 l) B ++ (bkC l B ++ [(9, .sem (thatC tabK))]))) (LeS.refl _) (LeH.of_eq (by kernel_rfl)) ?_
  repeat' (first | (show W _ _ _ _ _ _; first | apply kA | refine kB rfl ?_ | refine kC rfl rfl ?_ | refine kD rfl rfl ?_ | apply kE | apply kF | apply kG | apply kH | refine kI (by kernel_rfl) (by kernel_rfl) ?_) | (show O _ _ _ _ _ _ _; first | (show O _ _ _ _ (⟨_, .store _ _ _, _, _, _, _⟩ :: _) _ _; refine kJ rfl rfl rfl rfl rfl rfl rfl rfl rfl rfl rfl ?_) | apply kK) | apply kL | ((first | apply kM | apply kN); (iterate 3 (· exact rfl)); (· first | exact ya)) | refine kO rfl rfl rfl rfl rfl ?_ | refine kP rfl rfl rfl ?_ | ((first | refine kQ rfl rfl ?_ ?_ | refine kR rfl rfl rfl rfl rfl ?_ ?_ | refine kS rfl rfl rfl ?_ ?_) <;> intro hc <;> (try simp only [KL, cond_true, cond_false, beq_iff_eq, bne_iff_ne, ne_eq, reduceCtorEq] at hc) <;> (try (have hT : True := hc; clear hT hc)) <;> (try (exfalso; omega))) | apply kT | apply kU | apply kV | apply kW | refine kX rfl ?_ | apply kY | apply kZ)
  refine ole (s' := [(0, .lst 7 (l.map eTask)), (1, .int .i64 i), (2, .int .i64 t), (7, .ptr 10 0), (8, .ptr 40 0), (9, .ptr 29 0), (36, .ptr 29 0), (37, .int .i64 i), (38, .int .i64 t)]) (h' := bkC l B ++ (ldC (hd64 l) B ++ ldB (hd64 l) B)) les leh ?_
  refine zcall (fun i => ρcc i) (f4) rfl rfl leh (by kernel_rfl) (by kernel_rfl) (by kernel_rfl) (by kernel_rfl) rfl rfl (fun r h' hR => ?_)
  obtain ⟨rfl, rfl⟩ := hR
  refine ⟨rfl, rfl, ?_⟩
  repeat' (first | (show W _ _ _ _ _ _; first | apply kA | refine kB rfl ?_ | refine kC rfl rfl ?_ | refine kD rfl rfl ?_ | apply kE | apply kF | apply kG | apply kH | refine kI (by kernel_rfl) (by kernel_rfl) ?_) | (show O _ _ _ _ _ _ _; first | (show O _ _ _ _ (⟨_, .store _ _ _, _, _, _, _⟩ :: _) _ _; refine kJ rfl rfl rfl rfl rfl rfl rfl rfl rfl rfl rfl ?_) | apply kK) | apply kL | ((first | apply kM | apply kN); (iterate 3 (· exact rfl)); (· first | exact ya)) | refine kO rfl rfl rfl rfl rfl ?_ | refine kP rfl rfl rfl ?_ | ((first | refine kQ rfl rfl ?_ ?_ | refine kR rfl rfl rfl rfl rfl ?_ ?_ | refine kS rfl rfl rfl ?_ ?_) <;> intro hc <;> (try simp only [KL, cond_true, cond_false, beq_iff_eq, bne_iff_ne, ne_eq, reduceCtorEq] at hc) <;> (try (have hT : True := hc; clear hT hc)) <;> (try (exfalso; omega))) | apply kT | apply kU | apply kV | apply kW | refine kX rfl ?_ | apply kY | apply kZ)
  refine ole (s' := [(0, .lst 7 (l.map eTask)), (1, .int .i64 i), (2, .int .i64 t), (7, .ptr 10 0), (8, .ptr 40 0), (9, .ptr 29 0), (40, .ptr 29 0), (41, .int .i64 i), (42, .int .i64 t)]) (h' := bkC l B ++ (ldC (hd64 l) B2 ++ ldB (hd64 l) B)) les leh ?_
  refine zcall (fun i => ρcc i) (f5) rfl rfl leh (by kernel_rfl) (by kernel_rfl) (by kernel_rfl) (by kernel_rfl) rfl rfl (fun r h' hR => ?_)
  obtain ⟨rfl, rfl⟩ := hR
  refine ⟨rfl, rfl, ?_⟩
  repeat' (first | (show W _ _ _ _ _ _; first | apply kA | refine kB rfl ?_ | refine kC rfl rfl ?_ | refine kD rfl rfl ?_ | apply kE | apply kF | apply kG | apply kH | refine kI (by kernel_rfl) (by kernel_rfl) ?_) | (show O _ _ _ _ _ _ _; first | (show O _ _ _ _ (⟨_, .store _ _ _, _, _, _, _⟩ :: _) _ _; refine kJ rfl rfl rfl rfl rfl rfl rfl rfl rfl rfl rfl ?_) | apply kK) | apply kL | ((first | apply kM | apply kN); (iterate 3 (· exact rfl)); (· first | exact ya)) | refine kO rfl rfl rfl rfl rfl ?_ | refine kP rfl rfl rfl ?_ | ((first | refine kQ rfl rfl ?_ ?_ | refine kR rfl rfl rfl rfl rfl ?_ ?_ | refine kS rfl rfl rfl ?_ ?_) <;> intro hc <;> (try simp only [KL, cond_true, cond_false, beq_iff_eq, bne_iff_ne, ne_eq, reduceCtorEq] at hc) <;> (try (have hT : True := hc; clear hT hc)) <;> (try (exfalso; omega))) | apply kT | apply kU | apply kV | apply kW | refine kX rfl ?_ | apply kY | apply kZ)
  refine ole (s' := [(0, .lst 7 (l.map eTask)), (1, .int .i64 i), (2, .int .i64 t), (7, .ptr 10 0), (8, .ptr 40 0), (9, .ptr 29 0), (44, .ptr 29 0), (45, .int .i64 t)]) (h' := bkC l B ++ (ldC (hd64 l) B3 ++ ldB (hd64 l) B)) les leh ?_
  refine zcall (fun i => ρcc i) (f6) rfl rfl leh (by kernel_rfl) (by kernel_rfl) (by kernel_rfl) (by kernel_rfl) rfl rfl (fun r h' hR => ?_)
  obtain ⟨rfl, rfl⟩ := hR
  refine ⟨rfl, rfl, ?_⟩
  repeat' (first | (show W _ _ _ _ _ _; first | apply kA | refine kB rfl ?_ | refine kC rfl rfl ?_ | refine kD rfl rfl ?_ | apply kE | apply kF | apply kG | apply kH | refine kI (by kernel_rfl) (by kernel_rfl) ?_) | (show O _ _ _ _ _ _ _; first | (show O _ _ _ _ (⟨_, .alloc _, _, _, _, _⟩ :: _) _ _; first | refine ao_alloc (id := 30) rfl rfl rfl rfl rfl rfl rfl ?_ | refine ao_alloc (id := 31) rfl rfl rfl rfl rfl rfl rfl ?_) | (show O _ _ _ _ (⟨_, .store _ _ _, _, _, _, _⟩ :: _) _ _; refine kJ rfl rfl rfl rfl rfl rfl rfl rfl rfl rfl rfl ?_) | apply kK) | apply kL | ((first | apply kM | apply kN); (iterate 3 (· exact rfl)); (· first | (show Y _ ⟨_, .call ⟨.value _, _, _⟩, _, _, _, _⟩ _ _ _; first | exact q_c (n1) rfl | exact q_c (n2) rfl | exact q_c (n3) rfl) | exact ya)) | refine kO rfl rfl rfl rfl rfl ?_ | refine kP rfl rfl rfl ?_ | ((first | refine kQ rfl rfl ?_ ?_ | refine kR rfl rfl rfl rfl rfl ?_ ?_ | refine kS rfl rfl rfl ?_ ?_) <;> intro hc <;> (try simp only [KL, cond_true, cond_false, beq_iff_eq, bne_iff_ne, ne_eq, reduceCtorEq] at hc) <;> (try (have hT : True := hc; clear hT hc)) <;> (try (exfalso; omega))) | apply kT | apply kU | apply kV | apply kW | refine kX rfl ?_ | apply kY | apply kZ)
  refine ole (s' := [(0, .lst 7 (l.map eTask)), (1, .int .i64 i), (2, .int .i64 t), (7, .ptr 10 0), (8, .ptr 40 0), (10, .nilp), (12, .bool false), (14, .bool false), (16, .bool false), (67, .ptr 10 0), (68, .ptr 40 0), (69, .int .i64 i)]) (h' := bkC l B ++ ldB (hd64 l) B) les leh ?_
  refine zcall (fun i => ρsm i) (f7) rfl rfl leh (by kernel_rfl) (by kernel_rfl) (by kernel_rfl) (by kernel_rfl) rfl rfl (fun r h' hR => ?_)
  obtain ⟨rfl, rfl⟩ := hR
  refine ⟨rfl, rfl, ?_⟩
  refine ole (s' := [(0, .lst 7 (l.map eTask)), (1, .int .i64 i), (2, .int .i64 t), (7, .ptr 10 0), (8, .ptr 40 0), (10, .nilp), (12, .bool false), (14, .bool false), (16, .bool false), (70, .bool true)]) (h' := [(9, .sem (thatC tabK))]) les leh ?_
  repeat' (first | (show W _ _ _ _ _ _; first | apply kA | refine kB rfl ?_ | refine kC rfl rfl ?_ | refine kD rfl rfl ?_ | apply kE | apply kF | apply kG | apply kH | refine kI (by kernel_rfl) (by kernel_rfl) ?_) | (show O _ _ _ _ _ _ _; first | (show O _ _ _ _ (⟨_, .store _ _ _, _, _, _, _⟩ :: _) _ _; refine kJ rfl rfl rfl rfl rfl rfl rfl rfl rfl rfl rfl ?_) | apply kK) | apply kL | ((first | apply kM | apply kN); (iterate 3 (· exact rfl)); (· first | (show Y _ ⟨_, .call ⟨.value _, _, _⟩, _, _, _, _⟩ _ _ _; first | exact q_c (n4) rfl | exact q_c (n6) rfl | exact q_c (n7) rfl | exact q_c (n8) rfl | exact q_c (n9) rfl) | exact ya | exact Y.mk (ok_callT (id := 9) n5 rfl rfl) | exact Y.mk (ok_callT (id := 9) c0 rfl rfl))) | refine kO rfl rfl rfl rfl rfl ?_ | refine kP rfl rfl rfl ?_ | ((first | refine kQ rfl rfl ?_ ?_ | refine kR rfl rfl rfl rfl rfl ?_ ?_ | refine kS rfl rfl rfl ?_ ?_) <;> intro hc <;> (try simp only [KL, cond_true, cond_false, beq_iff_eq, bne_iff_ne, ne_eq, reduceCtorEq] at hc) <;> (try (have hT : True := hc; clear hT hc)) <;> (try (exfalso; omega))) | apply kT | apply kU | apply kV | apply kW | refine kX rfl ?_ | apply kY | apply kZ)
  all_goals first | (exfalso; omega) | exact retq rfl rfl | (exfalso; revert hc; decide) | trace_state
end Go.Proofs.YtnijdaidmpjccaaDoor
