/- maps.Clone at maps from integers. No condition. -/
import Derived.Test.YtfjoaeghnfkdlaaGreatDoorC13
import Derived.Laws.Externs
import Derived.Test.YtfjoaeghnfkdlaaGreatDoorC19
import Derived.Test.YtfjoaeghnfkdlaaGreatDoorC18
set_option linter.unusedSimpArgs false
set_option linter.unusedVariables false
set_option maxHeartbeats 1000000
namespace Go.Proofs.YtfjoaeghnfkdlaaGreatDoor
set_option maxRecDepth 100000
open Go.RowKit Go.MapKept
section
variable {P : Program} {n : Md} {Q : Exit → Slots → Heap → Prop} {s : Slots} {h : Heap} {ops : Array Oper} {rest : List Oper} {o : Oper}
theorem ok_mnil {α : Type} {f : α → AV} {m : List (Int × α)} {t k e yt : TypeId} {x : Operand} {id : Nat} (ho : o.op = .binOp .eql t x (.const (.map none)) yt) (hu : P.underlying t = some (.map k e)) (hx : evA s x = .own id) (hg : hget h id = some (.sem (mapC f m))) : OkO P o s h (.bool false) := by
  refine ok_of_run fun E σ ι a w hr hop => ?_
  have hX : VR σ ι (evA s x) (a.eval x) := hop x (by rw [ho]; simp [Op.operands])
  rw [hx] at hX
  obtain ⟨r, es, clock, h1, h2, h3⟩ := hr.ch id _ hg
  have ex := hX.own_inv.trans h1
  refine ⟨_, ?_, .base _ _ (.bool false)⟩
  have h5 : (Op.equal t (.map (some r)) (.map none)).run P w = .ok false w := by
    have : ∀ d, (Op.equalIn (d + 1) t (.map (some r)) (.map none)).run P w = .ok false w := fun d => by simp [Op.equalIn, run_underlying hu]
    exact this 9999
  have hgd : (eqGuard .eql t x (.const (.map none)) (.map (some r)) (.map none)).run P w = .ok () w := by simp [eqGuard]
  unfold execOp
  have ey : a.eval (.const (.map none)) = .map none := rfl
  simp only [ho, ex, ey, Sem.run_bind, hgd, Result.andThen_ok, binOp, h5, Sem.run_pure]
theorem ao_mclone {α : Type} {f : α → AV} {m : List (Int × α)} {o1 o2 o3 : Oper} {t xT k e : TypeId} {x : Operand} {d1 d2 : Nat} {fid : FuncId} {tys : Array TypeId} (id id2 : Nat) (ho1 : o1.op = .makeInterface t x) (hd1 : o1.dst = some d1)
    (ho2 : o2.op = .call { callee := .value (.func fid), args := #[.tmp d1], argTypes := tys }) (hd2 : o2.dst = some d2) (ho3 : o3.op = .typeAssert (.tmp d2) xT t false) (hu : P.underlying t = some (.map k e))
    (hext : ∀ (args : Array Value) (w : World), (callFunc fid args).run P w = ((Extern.MapsClone.clone args).run P w).andThen fun v w' => .ok (.value v) w')
    (hx : evA s x = .own id) (hg : hget h id = some (.sem (mapC f m))) (hf : freshAll id2 s h = true) (hgd1 : o1.guard = none) (hco1 : constsOk o1 = true) (hdo1 : dstOk n o1.dst = true) (hgd2 : o2.guard = none) (hdo2 : dstOk n o2.dst = true) (hgd3 : o3.guard = none) (hdo3 : dstOk n o3.dst = true)
    (hk : O P n ops Q rest (putS ((d2, .undef) :: (d1, .undef) :: s) o3.dst (.own id2)) ((id2, .sem (mapC f m)) :: h)) : O P n ops Q (o1 :: o2 :: o3 :: rest) s h := ⟨aops_one hgd1 fun E σ ι a w hr ht => by
  simp only [freshAll, Bool.and_eq_true, Nat.ble_eq] at hf
  have hX : VR σ ι (evA s x) (a.eval x) := evA_sound (List.all_eq_true.1 hco1 x (by rw [ho1]; simp [Op.operands])) fun t _ => ht.at_ t
  rw [hx] at hX
  obtain ⟨r, es, clock, h1, h2, h3⟩ := hr.ch id _ hg
  have ex := hX.own_inv.trans h1
  have run1 : (execOp a.eval o1).run P w = .ok (.value (.iface t (.map (some r)))) w := by
    simp [execOp, ho1, ex, Instr.makeInterface, run_underlying hu, Result.andThen]
  unfold Oper.wp
  rw [run1]
  have ht2 : TR n σ ι ((d1, .undef) :: s) (a.put o1.dst (.iface t (.map (some r)))) := by
    have := ht.putS hdo1 (x := .undef) (v := .iface t (.map (some r))) (.base _ _ (.undef _))
    rw [hd1] at this ⊢; exact this
  have hd1' : d1 < n.n := by rw [hd1] at hdo1; simpa [dstOk] using hdo1
  have hd2' : d2 < n.n := by rw [hd2] at hdo2; simpa [dstOk] using hdo2
  have hev : (a.put o1.dst (.iface t (.map (some r)))).eval (.tmp d1) = .iface t (.map (some r)) := by
    rw [hd1]
    show (a.put (some d1) _).tmps.getD d1 undef = _
    simp [Act.put, Array.getD, ht.size, hd1']
  refine wpL_one hgd2 ?_
  unfold Oper.wp
  generalize a.put o1.dst (.iface t (.map (some r))) = a2 at *
  have hcl : (Extern.MapsClone.clone #[.iface t (.map (some r))]).run P w = .ok (.iface t (.map (some w.heap.size))) (w.alloc (.map es clock)) := by
    have e : Extern.MapsClone.clone #[.iface t (.map (some r))] = (getObj r >>= fun o => match o with
        | .map entries clock => (newObj (.map entries clock) >>= fun n => pure (.iface t (.map (some n))))
        | _ => stuck "maps.clone: a map expected") := rfl
    rw [e]
    simp [MapKept.run_getObj_map h2, Result.andThen, go_sem]
  have run2 : (execOp a2.eval o2).run P w = .ok (.value (.iface t (.map (some w.heap.size)))) (w.alloc (.map es clock)) := by
    have e1 : a2.eval (.func fid) = .func (.func fid) #[] #[] := rfl
    have e2 : (#[] ++ (#[Operand.tmp d1].map a2.eval) ++ #[] : Array Value) = #[.iface t (.map (some r))] := by simp [hev]
    simp only [execOp, ho2, resolve, e1, Deferred.ofValue, Sem.run_bind, Sem.run_pure, Result.andThen_ok, invoke, e2]
    rw [hext, hcl]; rfl
  rw [run2]
  have hkeep : ∀ g, g < w.heap.size → (w.alloc (.map es clock)).heap[g]? = w.heap[g]? := fun g hg => Below.heap_alloc _ _ _ hg
  have hnew := hr.turn (id := id2) (u := .map (some w.heap.size)) (h' := (id2, .sem (mapC f m)) :: h) (c' := .sem (mapC f m)) (w' := w.alloc (.map es clock))
    (fun i c hi hc => by
      rw [hget_cons, if_neg (fun e => hi e.symm)] at hc
      exact ⟨hc, .inr (freshH_get hf.2 i c hc).2⟩)
    (by rw [hget_cons, if_pos rfl])
    (by show mapR f m _ _ _; rw [upd_eq]; exact ⟨w.heap.size, es, clock, rfl, heap_alloc_new w _, h3⟩)
    rfl rfl rfl (by simp) (fun k hk _ => hkeep k hk) (fun g hv => by cases hv; exact .inr (Nat.le_refl _)) (.inl hf.1.1)
  have hf2 : freshS id2 ((d1, .undef) :: s) = true := by rw [freshS, hf.1.2]; rfl
  have ht3 : TR n σ (upd ι id2 (.map (some w.heap.size))) ((d2, .undef) :: (d1, .undef) :: s) (a2.put o2.dst (.iface t (.map (some w.heap.size)))) := by
    have := (ht2.upd hf.1.1 hf2 (.map (some w.heap.size))).putS hdo2 (x := .undef) (v := .iface t (.map (some w.heap.size))) (.base _ _ (.undef _))
    rw [hd2] at this ⊢; exact this
  have hev2 : (a2.put o2.dst (.iface t (.map (some w.heap.size)))).eval (.tmp d2) = .iface t (.map (some w.heap.size)) := by
    rw [hd2]
    show (a2.put (some d2) _).tmps.getD d2 undef = _
    simp [Act.put, Array.getD, ht2.size, hd2']
  refine wpL_one hgd3 ?_
  unfold Oper.wp
  generalize a2.put o2.dst (.iface t (.map (some w.heap.size))) = a3 at *
  have run3 : (execOp a3.eval o3).run P (w.alloc (.map es clock)) = .ok (.value (.map (some w.heap.size))) (w.alloc (.map es clock)) := by
    have : (Instr.typeAssert (.iface t (.map (some w.heap.size))) xT t false).run P (w.alloc (.map es clock)) = .ok (.map (some w.heap.size)) (w.alloc (.map es clock)) := by
      simp [Instr.typeAssert, run_underlying hu, go_sem, Result.andThen]
    simp only [execOp, ho3, hev2, Sem.run_bind, Sem.run_pure, this, Result.andThen_ok]
  rw [run3]
  refine hk.out E σ _ _ _ hnew (ht3.putS hdo3 ?_)
  have h5 := VR.own (σ := σ) (ι := upd ι id2 (.map (some w.heap.size))) id2 (by rw [upd_eq]; rfl)
  rwa [upd_eq] at h5⟩
end
theorem mclone_fn (m : List (Int × Int)) : FnH Tryz.prog 53 [.own 4] [(4, .sem (mapC (fun n : Int => AV.int .i64 n) m)), (5, .row 3 1 (([] : List Int).map eI))]
    (fun r h' => r = .own 5 ∧ h' = [(4, .sem (mapC (fun n : Int => AV.int .i64 n) m)), (5, .sem (mapC (fun n : Int => AV.int .i64 n) m))]) := by
  refine fnhb Tryz.func53 (entered_of (by kernel_rfl)) rfl rfl ?_
  refine wle (s' := [(0, .own 4)]) (h' := [(4, .sem (mapC (fun n : Int => AV.int .i64 n) m))]) les leh ?_
  repeat' (first | refine sA ?_ | ((first | apply kM | apply kN); (iterate 3 (· exact rfl)); (· first | exact ya | exact Y.mk (ok_mnil rfl Tryz.underlying85 rfl rfl))) | refine sG ?_ | (refine sK ?_ ?_ <;> intro hc <;> (try simp only [KL, sL, reduceCtorEq] at hc) <;> (try (have hT : True := hc; clear hT hc)) <;> (try (exfalso; omega))))
  refine ao_mclone 4 5 rfl rfl rfl rfl rfl Tryz.underlying85 (run_callFunc_extern Tryz.func86 (by kernel_rfl) (by kernel_rfl) (by kernel_rfl) (by kernel_rfl)) rfl rfl rfl rfl rfl rfl rfl rfl rfl rfl ?_
  repeat' (first | refine sA ?_ | ((first | apply kM | apply kN); (iterate 3 (· exact rfl)); (· first | exact ya)) | refine sG ?_ | (refine sK ?_ ?_ <;> intro hc <;> (try simp only [KL, sL, reduceCtorEq] at hc) <;> (try (have hT : True := hc; clear hT hc)) <;> (try (exfalso; omega))))
  exact reth rfl leh ⟨rfl, rfl⟩
end Go.Proofs.YtfjoaeghnfkdlaaGreatDoor
namespace Go.Proofs.YtfjoaeghnfkdlaaGreatDoor
set_option maxRecDepth 100000
set_option maxRecDepth 100000
open Go.RowKit
end Go.Proofs.YtfjoaeghnfkdlaaGreatDoor
namespace Go.Proofs.YtfjoaeghnfkdlaaGreatDoor
set_option maxRecDepth 100000
set_option maxRecDepth 100000
open Go.RowKit
section
variable {P : Program} {n : Md} {Q : Exit → Slots → Heap → Prop} {s : Slots} {h : Heap} {ops : Array Oper} {rest : List Oper} {o : Oper}
variable {β : Type} {H : β → Bool → Heap} {ok ok1 : β → Prop} {K : Slots → β → Prop} {tn ln : List Nat} {c N : Nat} {nw : Nat → List Nat} {m : Nat} {x : β}
end
abbrev ldP (l : List Task) (B : Bk) : Heap :=
  [(0, .blk 127 [.lst 7 (l.map eTask), .own 1, .own 2, .own 3, .int .u64 B.act, .own 4]), (1, .row 71 8 (B.all.map eJob)), (2, mI B.now), (3, mI B.cnt), (4, .row 60 2 (B.overs.map eDue))]
abbrev dumJ (i : Nat) : Nat × Chunk := (i, .row 71 8 (([] : List Job).map eJob))
abbrev dumD (i : Nat) : Nat × Chunk := (i, .row 60 2 (([] : List Due).map eDue))
abbrev dumZ (i : Nat) : Nat × Chunk := (i, .row 3 1 (([] : List Int).map eI))
abbrev ldN (l : List Task) (B : Bk) : Heap :=
  [(5, .row 71 8 (B.all.map eJob)), (6, .row 60 2 (B.overs.map eDue)), (7, mI B.now), (8, mI B.cnt), (9, .blk 127 [.lst 7 (l.map eTask), .own 5, .own 7, .own 8, .int .u64 B.act, .own 6])]
def cB (l : List Task) (B : Bk) (a b c d : AV) : Nat × Chunk := (9, .blk 127 [.lst 7 (l.map eTask), a, b, c, .int .u64 B.act, d])
def cT (l : List Task) (B : Bk) : Nat → Heap
  | 0 => [cB l B (.own 1) (.own 2) (.own 3) (.own 4), dumJ 5, dumD 6, dumZ 7, dumZ 8]
  | 1 => [cB l B (.own 1) (.own 2) (.own 3) (.own 4), (5, .row 71 8 (B.all.map eJob)), dumD 6, dumZ 7, dumZ 8]
  | 2 => [cB l B (.own 1) (.own 2) (.own 3) (.own 4), (5, .row 71 8 (B.all.map eJob)), (6, .row 60 2 (B.overs.map eDue)), dumZ 7, dumZ 8]
  | 3 => [cB l B (.own 1) (.own 2) (.own 3) (.own 4), (5, .row 71 8 (B.all.map eJob)), (6, .row 60 2 (B.overs.map eDue)), dumZ 7, dumZ 8]
  | 4 => [cB l B (.own 5) (.own 2) (.own 3) (.own 4), (5, .row 71 8 (B.all.map eJob)), (6, .row 60 2 (B.overs.map eDue)), dumZ 7, dumZ 8]
  | _ => [cB l B (.own 5) (.own 2) (.own 3) (.own 6), (5, .row 71 8 (B.all.map eJob)), (6, .row 60 2 (B.overs.map eDue)), dumZ 7, dumZ 8]
def cU (l : List Task) (B : Bk) : Nat → Heap
  | 0 => [cB l B (.own 5) (.own 2) (.own 3) (.own 6), (5, .row 71 8 (B.all.map eJob)), (6, .row 60 2 (B.overs.map eDue)), dumZ 7, dumZ 8]
  | 1 => [cB l B (.own 5) (.own 2) (.own 3) (.own 6), (5, .row 71 8 (B.all.map eJob)), (6, .row 60 2 (B.overs.map eDue)), (7, mI B.now), dumZ 8]
  | 2 => [cB l B (.own 5) (.own 2) (.own 3) (.own 6), (5, .row 71 8 (B.all.map eJob)), (6, .row 60 2 (B.overs.map eDue)), (7, mI B.now), (8, mI B.cnt)]
  | 3 => [cB l B (.own 5) (.own 7) (.own 3) (.own 6), (5, .row 71 8 (B.all.map eJob)), (6, .row 60 2 (B.overs.map eDue)), (7, mI B.now), (8, mI B.cnt)]
  | _ => [cB l B (.own 5) (.own 7) (.own 8) (.own 6), (5, .row 71 8 (B.all.map eJob)), (6, .row 60 2 (B.overs.map eDue)), (7, mI B.now), (8, mI B.cnt)]
def cHT (l : List Task) (B : Bk) (y : Nat) (f : Bool) : Heap := ldP l B ++ cT l B y
def cHU (l : List Task) (B : Bk) (y : Nat) (f : Bool) : Heap := ldP l B ++ cU l B y
def cNT (i : Nat) : List Nat := if i = 9 then [5] else if i = 14 then [6] else []
def cNU (i : Nat) : List Nat := if i = 4 then [7] else if i = 9 then [8] else []
def ρ15 (i : Nat) : Nat := if i = 4 then 1 else i
def ρ46 (i : Nat) : Nat := if i = 5 then 6 else i
def ρ27 (i : Nat) : Nat := if i = 4 then 2 else if i = 5 then 7 else i
def ρ38 (i : Nat) : Nat := if i = 4 then 3 else if i = 5 then 8 else i
set_option maxHeartbeats 4000000 in
theorem cloneJ_fn (l : List Task) (B : Bk) (hl : l.length ≤ 1000000) (h1 : B.all.length ≤ 1000000) (h2 : B.overs.length ≤ 1000000) : FnH Tryz.prog 52 [.ptr 0 0] (ldP l B ++ [dumJ 5, dumD 6, dumZ 7, dumZ 8, dumZ 9])
    (fun r h' => r = .ptr 9 0 ∧ h' = ldP l B ++ ldN l B) := by
  refine fnhb Tryz.func52 (entered_of (by kernel_rfl)) rfl rfl ?_
  refine wle (s' := [(0, .ptr 0 0)]) (h' := ldP l B ++ [dumJ 5, dumD 6, dumZ 7, dumZ 8]) les leh ?_
  have c1 := clV_Task l hl
  repeat' (first | refine sB ?_ | (show O _ _ _ _ _ _ _; first | refine ao_alloc (id := 9) rfl rfl rfl rfl rfl rfl rfl ?_) | ((first | apply kM | apply kN); (iterate 3 (· exact rfl)); (· first | exact ya)) | refine sG ?_ | (refine sK ?_ ?_ <;> intro hc <;> (try simp only [KL, sL, reduceCtorEq] at hc) <;> (try (have hT : True := hc; clear hT hc)) <;> (try (exfalso; omega))))
  refine wle (s' := [(0, .ptr 0 0), (3, .ptr 9 0)]) (h' := cHT l B 0 false) les (show LeH _ (ldP l B ++ [cB l B (.own 1) (.own 2) (.own 3) (.own 4), dumJ 5, dumD 6, dumZ 7, dumZ 8]) from leh) ?_
  refine wdrawQ (cHT l B) (fun _ => True) (fun _ => True) [9, 14, 16, 18, 20] [] 0 99 cNT 0 (LeH.refl _) (by kernel_rfl) (by kernel_rfl) (by kernel_rfl) trivial trivial rfl rfl rfl rfl ?_
  refine qw_new (v := .ptr 0 0) rfl rfl (by kernel_rfl) (fun y hy => tn_ok ya) ?_
  repeat' (first | refine sA ?_ | ((first | apply kM | apply kN); (iterate 3 (· exact rfl)); (· first | exact ya | exact q_c (c1) rfl)) | (show QW _ _ _ _ _ _ _ _ _ _ _ _ _ _ _; first | refine qw_nil ?_ | (apply qw_any; (· exact rfl); (· exact rfl); (· exact rfl); (· intro y' f' hy'; first | exact ya | exact q_c (c1) rfl); (· first | exact rfl | kernel_rfl))) | refine sG ?_ | (refine sK ?_ ?_ <;> intro hc <;> (try simp only [KL, sL, reduceCtorEq] at hc) <;> (try (have hT : True := hc; clear hT hc)) <;> (try (exfalso; omega))))
  refine qw_tu (x' := 1) rfl rfl rfl trivial trivial (fun f hf => tl_call ρ15 (clO_Job B.all h1) rfl (show LeH _ [(1, .row 71 8 (B.all.map eJob)), dumJ 5] from leh) rfl rfl rfl rfl rfl rfl rfl rfl (show LeH _ (ldP l B ++ [cB l B (.own 1) (.own 2) (.own 3) (.own 4), (5, .row 71 8 (B.all.map eJob)), dumD 6, dumZ 7, dumZ 8]) from leh)) (by kernel_rfl) ?_
  repeat' (first | refine sA ?_ | ((first | apply kM | apply kN); (iterate 3 (· exact rfl)); (· first | exact ya | exact q_c (c1) rfl)) | (show QW _ _ _ _ _ _ _ _ _ _ _ _ _ _ _; first | refine qw_nil ?_ | (apply qw_any; (· exact rfl); (· exact rfl); (· exact rfl); (· intro y' f' hy'; first | exact ya | exact q_c (c1) rfl); (· first | exact rfl | kernel_rfl))) | refine sG ?_ | (refine sK ?_ ?_ <;> intro hc <;> (try simp only [KL, sL, reduceCtorEq] at hc) <;> (try (have hT : True := hc; clear hT hc)) <;> (try (exfalso; omega))))
  refine qw_tu (x' := 2) rfl rfl rfl trivial trivial (fun f hf => tl_call ρ46 (clO_Due B.overs h2) rfl (show LeH _ [(4, .row 60 2 (B.overs.map eDue)), dumD 6] from leh) rfl rfl rfl rfl rfl rfl rfl rfl (show LeH _ (ldP l B ++ [cB l B (.own 1) (.own 2) (.own 3) (.own 4), (5, .row 71 8 (B.all.map eJob)), (6, .row 60 2 (B.overs.map eDue)), dumZ 7, dumZ 8]) from leh)) (by kernel_rfl) ?_
  repeat' (first | refine sA ?_ | ((first | apply kM | apply kN); (iterate 3 (· exact rfl)); (· first | exact ya | exact q_c (c1) rfl)) | (show QW _ _ _ _ _ _ _ _ _ _ _ _ _ _ _; first | refine qw_nil ?_ | (apply qw_any; (· exact rfl); (· exact rfl); (· exact rfl); (· intro y' f' hy'; first | exact ya | exact q_c (c1) rfl); (· first | exact rfl | kernel_rfl))) | refine sG ?_ | (refine sK ?_ ?_ <;> intro hc <;> (try simp only [KL, sL, reduceCtorEq] at hc) <;> (try (have hT : True := hc; clear hT hc)) <;> (try (exfalso; omega))))
  refine qw_tu (x' := 3) rfl rfl rfl trivial trivial (fun f hf => ((tu_st (sto_B rfl rfl rfl rfl rfl rfl (Nat.le_of_ble_eq_true rfl)) rfl).post (show LeH _ (ldP l B ++ [cB l B (.own 1) (.own 2) (.own 3) (.own 4), (5, .row 71 8 (B.all.map eJob)), (6, .row 60 2 (B.overs.map eDue)), dumZ 7, dumZ 8]) from leh)).toL) (by kernel_rfl) ?_
  repeat' (first | refine sA ?_ | ((first | apply kM | apply kN); (iterate 3 (· exact rfl)); (· first | exact ya | exact q_c (c1) rfl)) | (show QW _ _ _ _ _ _ _ _ _ _ _ _ _ _ _; first | refine qw_nil ?_ | (apply qw_any; (· exact rfl); (· exact rfl); (· exact rfl); (· intro y' f' hy'; first | exact ya | exact q_c (c1) rfl); (· first | exact rfl | kernel_rfl))) | refine sG ?_ | (refine sK ?_ ?_ <;> intro hc <;> (try simp only [KL, sL, reduceCtorEq] at hc) <;> (try (have hT : True := hc; clear hT hc)) <;> (try (exfalso; omega))))
  refine qw_tu (x' := 4) rfl rfl rfl trivial trivial (fun f hf => ((tu_st (sto_B rfl rfl rfl rfl rfl rfl (Nat.le_of_ble_eq_true rfl)) rfl).post (show LeH _ (ldP l B ++ [cB l B (.own 5) (.own 2) (.own 3) (.own 4), (5, .row 71 8 (B.all.map eJob)), (6, .row 60 2 (B.overs.map eDue)), dumZ 7, dumZ 8]) from leh)).toL) (by kernel_rfl) ?_
  repeat' (first | refine sA ?_ | ((first | apply kM | apply kN); (iterate 3 (· exact rfl)); (· first | exact ya | exact q_c (c1) rfl)) | (show QW _ _ _ _ _ _ _ _ _ _ _ _ _ _ _; first | refine qw_nil ?_ | (apply qw_any; (· exact rfl); (· exact rfl); (· exact rfl); (· intro y' f' hy'; first | exact ya | exact q_c (c1) rfl); (· first | exact rfl | kernel_rfl))) | refine sG ?_ | (refine sK ?_ ?_ <;> intro hc <;> (try simp only [KL, sL, reduceCtorEq] at hc) <;> (try (have hT : True := hc; clear hT hc)) <;> (try (exfalso; omega))))
  refine qw_tu (x' := 5) rfl rfl rfl trivial trivial (fun f hf => ((tu_st (sto_B rfl rfl rfl rfl rfl rfl (Nat.le_of_ble_eq_true rfl)) rfl).post (show LeH _ (ldP l B ++ [cB l B (.own 5) (.own 2) (.own 3) (.own 6), (5, .row 71 8 (B.all.map eJob)), (6, .row 60 2 (B.overs.map eDue)), dumZ 7, dumZ 8]) from leh)).toL) (by kernel_rfl) ?_
  repeat' (first | refine sB ?_ | ((first | apply kM | apply kN); (iterate 3 (· exact rfl)); (· first | exact ya)) | (show QW _ _ _ _ _ _ _ _ _ _ _ _ _ _ _; first | refine qw_nil ?_ | (apply qw_any; (· exact rfl); (· exact rfl); (· exact rfl); (· intro y' f' hy'; first | exact ya); (· first | exact rfl | kernel_rfl))) | refine sG ?_ | (refine sK ?_ ?_ <;> intro hc <;> (try simp only [KL, sL, reduceCtorEq] at hc) <;> (try (have hT : True := hc; clear hT hc)) <;> (try (exfalso; omega))))
  refine wle (s' := [(0, .ptr 0 0), (3, .ptr 9 0)]) (h' := cHU l B 0 false) les (LeH.refl _) ?_
  refine wdrawQ (cHU l B) (fun _ => True) (fun _ => True) [4, 9, 11, 13] [] 0 99 cNU 0 (LeH.refl _) (by kernel_rfl) (by kernel_rfl) (by kernel_rfl) trivial trivial rfl rfl rfl rfl ?_
  refine qw_new (v := .ptr 0 0) rfl rfl (by kernel_rfl) (fun y hy => tn_ok ya) ?_
  repeat' (first | refine sA ?_ | ((first | apply kM | apply kN); (iterate 3 (· exact rfl)); (· first | exact ya)) | (show QW _ _ _ _ _ _ _ _ _ _ _ _ _ _ _; first | refine qw_nil ?_ | (apply qw_any; (· exact rfl); (· exact rfl); (· exact rfl); (· intro y' f' hy'; first | exact ya); (· first | exact rfl | kernel_rfl))) | refine sG ?_ | (refine sK ?_ ?_ <;> intro hc <;> (try simp only [KL, sL, reduceCtorEq] at hc) <;> (try (have hT : True := hc; clear hT hc)) <;> (try (exfalso; omega))))
  refine qw_tu (x' := 1) rfl rfl rfl trivial trivial (fun f hf => tl_call ρ27 (mclone_fn B.now) rfl (show LeH _ [(2, mI B.now), dumZ 7] from leh) rfl rfl rfl rfl rfl rfl rfl rfl (show LeH _ (ldP l B ++ [cB l B (.own 5) (.own 2) (.own 3) (.own 6), (5, .row 71 8 (B.all.map eJob)), (6, .row 60 2 (B.overs.map eDue)), (7, mI B.now), dumZ 8]) from leh)) (by kernel_rfl) ?_
  repeat' (first | refine sA ?_ | ((first | apply kM | apply kN); (iterate 3 (· exact rfl)); (· first | exact ya)) | (show QW _ _ _ _ _ _ _ _ _ _ _ _ _ _ _; first | refine qw_nil ?_ | (apply qw_any; (· exact rfl); (· exact rfl); (· exact rfl); (· intro y' f' hy'; first | exact ya); (· first | exact rfl | kernel_rfl))) | refine sG ?_ | (refine sK ?_ ?_ <;> intro hc <;> (try simp only [KL, sL, reduceCtorEq] at hc) <;> (try (have hT : True := hc; clear hT hc)) <;> (try (exfalso; omega))))
  refine qw_tu (x' := 2) rfl rfl rfl trivial trivial (fun f hf => tl_call ρ38 (mclone_fn B.cnt) rfl (show LeH _ [(3, mI B.cnt), dumZ 8] from leh) rfl rfl rfl rfl rfl rfl rfl rfl (show LeH _ (ldP l B ++ [cB l B (.own 5) (.own 2) (.own 3) (.own 6), (5, .row 71 8 (B.all.map eJob)), (6, .row 60 2 (B.overs.map eDue)), (7, mI B.now), (8, mI B.cnt)]) from leh)) (by kernel_rfl) ?_
  repeat' (first | refine sA ?_ | ((first | apply kM | apply kN); (iterate 3 (· exact rfl)); (· first | exact ya)) | (show QW _ _ _ _ _ _ _ _ _ _ _ _ _ _ _; first | refine qw_nil ?_ | (apply qw_any; (· exact rfl); (· exact rfl); (· exact rfl); (· intro y' f' hy'; first | exact ya); (· first | exact rfl | kernel_rfl))) | refine sG ?_ | (refine sK ?_ ?_ <;> intro hc <;> (try simp only [KL, sL, reduceCtorEq] at hc) <;> (try (have hT : True := hc; clear hT hc)) <;> (try (exfalso; omega))))
  refine qw_tu (x' := 3) rfl rfl rfl trivial trivial (fun f hf => ((tu_st (sto_B rfl rfl rfl rfl rfl rfl (Nat.le_of_ble_eq_true rfl)) rfl).post (show LeH _ (ldP l B ++ [cB l B (.own 5) (.own 7) (.own 3) (.own 6), (5, .row 71 8 (B.all.map eJob)), (6, .row 60 2 (B.overs.map eDue)), (7, mI B.now), (8, mI B.cnt)]) from leh)).toL) (by kernel_rfl) ?_
  repeat' (first | refine sA ?_ | ((first | apply kM | apply kN); (iterate 3 (· exact rfl)); (· first | exact ya)) | (show QW _ _ _ _ _ _ _ _ _ _ _ _ _ _ _; first | refine qw_nil ?_ | (apply qw_any; (· exact rfl); (· exact rfl); (· exact rfl); (· intro y' f' hy'; first | exact ya); (· first | exact rfl | kernel_rfl))) | refine sG ?_ | (refine sK ?_ ?_ <;> intro hc <;> (try simp only [KL, sL, reduceCtorEq] at hc) <;> (try (have hT : True := hc; clear hT hc)) <;> (try (exfalso; omega))))
  refine qw_tu (x' := 4) rfl rfl rfl trivial trivial (fun f hf => ((tu_st (sto_B rfl rfl rfl rfl rfl rfl (Nat.le_of_ble_eq_true rfl)) rfl).post (show LeH _ (ldP l B ++ [cB l B (.own 5) (.own 7) (.own 8) (.own 6), (5, .row 71 8 (B.all.map eJob)), (6, .row 60 2 (B.overs.map eDue)), (7, mI B.now), (8, mI B.cnt)]) from leh)).toL) (by kernel_rfl) ?_
  repeat' (first | refine sA ?_ | ((first | apply kM | apply kN); (iterate 3 (· exact rfl)); (· first | exact ya)) | (show QW _ _ _ _ _ _ _ _ _ _ _ _ _ _ _; first | refine qw_nil ?_ | (apply qw_any; (· exact rfl); (· exact rfl); (· exact rfl); (· intro y' f' hy'; first | exact ya); (· first | exact rfl | kernel_rfl))) | refine sG ?_ | (refine sK ?_ ?_ <;> intro hc <;> (try simp only [KL, sL, reduceCtorEq] at hc) <;> (try (have hT : True := hc; clear hT hc)) <;> (try (exfalso; omega))))
  exact reth (h' := ldP l B ++ ldN l B) rfl (show LeH (ldP l B ++ [cB l B (.own 5) (.own 7) (.own 8) (.own 6), (5, .row 71 8 (B.all.map eJob)), (6, .row 60 2 (B.overs.map eDue)), (7, mI B.now), (8, mI B.cnt)]) _ from leh) ⟨rfl, rfl⟩
def ρo (i : Nat) : Nat := [20, 21, 22, 23, 6, 11].getD i i
theorem oversJ_fn (l : List Task) (B : Bk) (hl : B.overs.length ≤ 1000000) : FnH Tryz.prog 51 [.ptr 0 0] (ldH l B) (fun r h' => r = .lst 2 (B.overs.map eDue) ∧ h' = ldH l B) := by
  refine fnhb Tryz.func51 (entered_of (by kernel_rfl)) rfl rfl ?_
  repeat' (first | refine sA ?_ | ((first | apply kM | apply kN); (iterate 3 (· exact rfl)); (· first | exact ya)) | refine sG ?_ | (refine sK ?_ ?_ <;> intro hc <;> (try simp only [KL, sL, reduceCtorEq] at hc) <;> (try (have hT : True := hc; clear hT hc)) <;> (try (exfalso; omega))))
  refine oturn (turn_dummy eDue 11 60 2 (by omega) rfl) ?_
  refine zcall (fun i => ρo i) (clO_Due B.overs hl) rfl rfl leh rfl rfl rfl rfl rfl rfl (fun r h' hR => ?_)
  obtain ⟨rfl, rfl⟩ := hR
  refine ⟨rfl, rfl, ?_⟩
  repeat' (first | refine sA ?_ | ((first | apply kM | apply kN); (iterate 3 (· exact rfl)); (· first | exact ya)) | refine sG ?_ | (refine sK ?_ ?_ <;> intro hc <;> (try simp only [KL, sL, reduceCtorEq] at hc) <;> (try (have hT : True := hc; clear hT hc)) <;> (try (exfalso; omega))))
  refine retT (fun _ => turn_freeze (t := 2) rfl rfl rfl) ?_
  exact reth (h' := ldH l B) rfl leh ⟨rfl, rfl⟩
/-! Nobody's ledger. -/
end Go.Proofs.YtfjoaeghnfkdlaaGreatDoor
namespace Go.Proofs.YtfjoaeghnfkdlaaGreatDoor
set_option maxRecDepth 100000
set_option maxRecDepth 100000
open Go.RowKit
end Go.Proofs.YtfjoaeghnfkdlaaGreatDoor
namespace Go.Proofs.YtfjoaeghnfkdlaaGreatDoor
set_option maxRecDepth 100000
set_option maxRecDepth 100000
open Go.RowKit
end Go.Proofs.YtfjoaeghnfkdlaaGreatDoor
namespace Go.Proofs.YtfjoaeghnfkdlaaGreatDoor
set_option maxRecDepth 100000
set_option maxRecDepth 100000
open Go.RowKit
theorem nowK_fn (l : List Task) (room : Int) (K : Kn) : FnH Tryz.prog 13 [.ptr 0 0] (knH l room K) (fun r h' => r = .int .i64 K.now ∧ h' = knH l room K) := by
  obtain ⟨B, S, last, now, opn⟩ := K
  refine FnH.drop' (fnhb Tryz.func13 (entered_of (by kernel_rfl)) rfl rfl ?_)
  repeat' (first | refine sA ?_ | ((first | apply kM | apply kN); (iterate 3 (· exact rfl)); (· first | exact ya)) | refine sG ?_ | (refine sK ?_ ?_ <;> intro hc <;> (try simp only [KL, sL, reduceCtorEq] at hc) <;> (try (have hT : True := hc; clear hT hc)) <;> (try (exfalso; omega))))
  all_goals exact retq rfl ⟨knX l room B S last now opn, leh, rfl, rfl⟩
theorem jobsK_fn (l : List Task) (room : Int) (K : Kn) (hl : K.B.all.length ≤ 1000000) : FnH Tryz.prog 14 [.ptr 0 0] (knH l room K) (fun r h' => r = .lst 8 (K.B.all.map eJob) ∧ h' = knH l room K) := by
  obtain ⟨B, S, last, now, opn⟩ := K
  refine FnH.drop' (fnhb Tryz.func14 (entered_of (by kernel_rfl)) rfl rfl ?_)
  have c1 := jobsJ_fn l B hl
  repeat' (first | refine sA ?_ | ((first | apply kM | apply kN); (iterate 3 (· exact rfl)); (· first | exact ya)) | refine sG ?_ | (refine sK ?_ ?_ <;> intro hc <;> (try simp only [KL, sL, reduceCtorEq] at hc) <;> (try (have hT : True := hc; clear hT hc)) <;> (try (exfalso; omega))))
  refine zcall (fun i => ρL i) (c1) rfl rfl leh rfl rfl rfl rfl rfl rfl (fun r h' hR => ?_)
  obtain ⟨rfl, rfl⟩ := hR
  refine ⟨rfl, rfl, ?_⟩
  repeat' (first | refine sA ?_ | ((first | apply kM | apply kN); (iterate 3 (· exact rfl)); (· first | exact ya)) | refine sG ?_ | (refine sK ?_ ?_ <;> intro hc <;> (try simp only [KL, sL, reduceCtorEq] at hc) <;> (try (have hT : True := hc; clear hT hc)) <;> (try (exfalso; omega))))
  all_goals exact retq rfl ⟨knX l room B S last now opn, leh, rfl, rfl⟩
theorem oversK_fn (l : List Task) (room : Int) (K : Kn) (hl : K.B.overs.length ≤ 1000000) : FnH Tryz.prog 15 [.ptr 0 0] (knH l room K) (fun r h' => r = .lst 2 (K.B.overs.map eDue) ∧ h' = knH l room K) := by
  obtain ⟨B, S, last, now, opn⟩ := K
  refine FnH.drop' (fnhb Tryz.func15 (entered_of (by kernel_rfl)) rfl rfl ?_)
  have c1 := oversJ_fn l B hl
  repeat' (first | refine sA ?_ | ((first | apply kM | apply kN); (iterate 3 (· exact rfl)); (· first | exact ya)) | refine sG ?_ | (refine sK ?_ ?_ <;> intro hc <;> (try simp only [KL, sL, reduceCtorEq] at hc) <;> (try (have hT : True := hc; clear hT hc)) <;> (try (exfalso; omega))))
  refine zcall (fun i => ρL i) (c1) rfl rfl leh rfl rfl rfl rfl rfl rfl (fun r h' hR => ?_)
  obtain ⟨rfl, rfl⟩ := hR
  refine ⟨rfl, rfl, ?_⟩
  repeat' (first | refine sA ?_ | ((first | apply kM | apply kN); (iterate 3 (· exact rfl)); (· first | exact ya)) | refine sG ?_ | (refine sK ?_ ?_ <;> intro hc <;> (try simp only [KL, sL, reduceCtorEq] at hc) <;> (try (have hT : True := hc; clear hT hc)) <;> (try (exfalso; omega))))
  all_goals exact retq rfl ⟨knX l room B S last now opn, leh, rfl, rfl⟩
/-! Nobody's kernel. -/
end Go.Proofs.YtfjoaeghnfkdlaaGreatDoor
namespace Go.Proofs.YtfjoaeghnfkdlaaGreatDoor
set_option maxRecDepth 100000
set_option maxRecDepth 100000
open Go.RowKit
abbrev rbA (B : Bk) : Nat × Chunk := (5, .row 71 8 (B.all.map eJob))
abbrev rbY (l : List Task) (js : List Job) (os : List Due) : Heap :=
  [(5, .row 71 8 (js.map eJob)), (0, .blk 53 [.lst 7 (l.map eTask), .own 5, .own 6]), (6, .row 60 2 (os.map eDue))]
def lateS (t : Int) (p : List Int × Bk) (i : Int) : List Int × Bk := if lateQ t (jobAt p.2 i) then (p.1 ++ [i], setJ p.2 i (missJb (jobAt p.2 i))) else p
def lateT (B : Bk) (t : Int) (k : Nat) : List Int × Bk := (bitsTo B.act k).foldl (lateS t) ([], B)
structure LateI (l : List Task) (n : Nat) (B : Bk) (k : Nat) (p : List Int × Bk) : Prop where
  good : GoodB l n p.2
  act : p.2.act = B.act
  len : p.1.length ≤ k
  overs : p.2.overs = B.overs
abbrev rbL (l : List Task) (js : List Job) (os : List Due) (ks : List Int) : Heap := (5, .row 71 8 (js.map eJob)) :: (20, .row 3 1 (ks.map eI)) :: rbY l js os
end Go.Proofs.YtfjoaeghnfkdlaaGreatDoor
