/- Structs that are written out. No condition. -/
import Derived.Test.YtfjoaeghnfkdlaaAvFn
namespace Go.Proofs.Ytfjoaeghnfkdlaa
set_option linter.unusedSimpArgs false
set_option linter.unusedVariables false
set_option maxRecDepth 100000
set_option linter.unusedVariables false
set_option linter.unusedSimpArgs false
open Go.RowKit
section
variable {P : Program} {s : Slots} {h : Heap} {o : Oper}
def setA : List AV → Nat → AV → List AV
  | [], _, _ => []
  | _ :: r, 0, v => v :: r
  | c :: r, n + 1, v => c :: setA r n v
theorem setA_eq : ∀ (cs : List AV) (k : Nat) (v : AV), setA cs k v = cs.set k v
  | [], _, _ => rfl
  | _ :: _, 0, _ => rfl
  | c :: r, k + 1, v => by rw [setA, setA_eq r k v]; rfl
/-- The parts of one cell each, in their places. -/
def fillA (P : Program) (fs : List Field) (s : Slots) : List (Nat × Operand) → List AV → Option (List AV)
  | [], cs => some cs
  | (i, x) :: r, cs => match fs[i]? with
    | some fd => seen (evA s x) fun v => bif oneQ v && sizeQ P fd.type 1 && Nat.blt fd.offset cs.length then fillA P fs s r (setA cs fd.offset v) else none
    | none => none
def sizesQ (P : Program) (fs : List Field) : Bool := fs.all fun fd => (P.info? fd.type).isSome
def buildA (P : Program) (s : Slots) (t : TypeId) (parts : List (Nat × Operand)) : Option (List AV) :=
  match P.underlying t with
  | some (.struct fs) => match zeroA P t with
    | some z => bif sizesQ P fs.toList then fillA P fs.toList s parts z else none
    | none => none
  | _ => none
theorem fillA_spec {σ : Sig} {ι : Nat → Value} {a : Act} {fs : List Field} {places : Nat → Option (Nat × Nat)} (hpl : ∀ (i : Nat) (fd : Field), fs[i]? = some fd → ∀ k, sizeQ P fd.type k = true → places i = some (fd.offset, k)) :
    ∀ (parts : List (Nat × Operand)) (cs : List AV) (us : Array Value) (r : List AV), fillA P fs s parts cs = some r → L2 (VR σ ι) cs us.toList → (∀ p ∈ parts, VR σ ι (evA s p.2) (a.eval p.2)) →
      ∃ us' : Array Value, Instr.fill places us (parts.map fun p => (p.1, a.eval p.2)) = some us' ∧ L2 (VR σ ι) r us'.toList
  | [], cs, us, r, h, hL, _ => by cases h; exact ⟨us, rfl, hL⟩
  | (i, x) :: parts, cs, us, r, h, hL, hv => by
    unfold fillA at h
    split at h
    · rename_i fd hfd
      rw [seen_eq] at h
      cases hq : (oneQ (evA s x) && sizeQ P fd.type 1 && Nat.blt fd.offset cs.length) with
      | false => rw [hq] at h; cases h
      | true =>
        rw [hq, cond_true, setA_eq] at h
        simp only [Bool.and_eq_true, Nat.blt_eq] at hq
        have hx := hv (i, x) List.mem_cons_self
        have h1 := hx.one hq.1.1
        have hc := cells_one h1
        obtain ⟨us', h2, h3⟩ := fillA_spec hpl parts _ (us.setIfInBounds fd.offset (a.eval x)) r h (by rw [Array.toList_setIfInBounds]; exact hL.set _ hx) fun p hp => hv p (List.mem_cons_of_mem _ hp)
        refine ⟨us', ?_, h3⟩
        have hsz : cs.length = us.size := by rw [← Array.length_toList]; exact hL.1
        have hlt : ¬ us.size < fd.offset + 1 := by omega
        rw [List.map_cons]
        unfold Instr.fill
        simp only [hpl i fd hfd 1 hq.1.2, hc]
        simp [hlt]
        exact h2
    · cases h
theorem ok_build {t : TypeId} {parts : Array (Nat × Operand)} {cs : List AV} (ho : o.op = .build t parts) (hb : buildA P s t parts.toList = some cs) : OkO P o s h (.agg cs) := by
  refine ok_of_run fun E σ ι a w hr hx => ?_
  unfold buildA at hb
  split at hb
  · rename_i fs hu
    split at hb
    · rename_i z hz
      cases hq : sizesQ P fs.toList with
      | false => rw [hq] at hb; cases hb
      | true =>
        rw [hq, cond_true] at hb
        obtain ⟨zi, zv, hzi, hzz, hzL⟩ := zeroA_spec hz
        have hall : ∀ fd ∈ fs.toList, ∃ i, P.info? fd.type = some i := fun fd hfd => Option.isSome_iff_exists.1 (List.all_eq_true.1 hq fd hfd)
        have hmap : ∀ (l : List Field), (∀ fd ∈ l, ∃ i, P.info? fd.type = some i) → ∃ ps : List (Nat × Nat), (l.mapM fun f => (do pure (f.offset, ← sizeOf f.type) : Sem (Nat × Nat))).run P w = .ok ps w ∧ ∀ (i : Nat) (fd : Field), l[i]? = some fd → ∀ k, sizeQ P fd.type k = true → ps[i]? = some (fd.offset, k) := by
          intro l
          induction l with
          | nil => intro _; exact ⟨[], by simp, fun i fd h => by simp at h⟩
          | cons f l ih =>
            intro hl
            obtain ⟨i0, hi0⟩ := hl f List.mem_cons_self
            obtain ⟨ps, h1, h2⟩ := ih fun fd hfd => hl fd (List.mem_cons_of_mem _ hfd)
            refine ⟨(f.offset, i0.size) :: ps, ?_, fun i fd hi k hk => ?_⟩
            · have hstep : (do pure (f.offset, ← sizeOf f.type) : Sem (Nat × Nat)).run P w = .ok (f.offset, i0.size) w := by simp [sizeOf, typeInfo, hi0]
              rw [List.mapM_cons, Sem.run_bind, hstep, Result.andThen_ok, Sem.run_bind, h1, Result.andThen_ok]
              simp
            · cases i with
              | zero =>
                simp at hi; subst hi
                unfold sizeQ at hk; rw [hi0] at hk
                simp [Nat.eq_of_beq_eq_true hk]
              | succ i => simpa using h2 i fd (by simpa using hi) k hk
        obtain ⟨ps, h1, h2⟩ := hmap fs.toList hall
        obtain ⟨us', h3, h4⟩ := fillA_spec (σ := σ) (ι := ι) (a := a) (places := (ps.toArray[·]?)) (fun i fd hi k hk => by simpa using h2 i fd hi k hk) parts.toList z zv.cells cs hb ((hzL σ).mono fun _ _ h => .base _ _ h) (fun p hp => hx p.2 (by rw [ho]; simp only [Op.operands]; simpa using ⟨p.1, by simpa using hp⟩))
        have hm : (fs.mapM fun f => (do pure (f.offset, ← sizeOf f.type) : Sem (Nat × Nat))).run P w = .ok ps.toArray w := by
          rw [Array.mapM_eq_mapM_toList]
          simp only [Sem.run_bind, Sem.run_map, h1]
          rfl
        refine ⟨.agg us', ?_, .agg _ us'.toList h4.1 h4.2⟩
        have hm' : (fs.mapM fun f => (Prod.mk f.offset <$> sizeOf f.type : Sem (Nat × Nat))).run P w = .ok ps.toArray w := by
          have e : (fun f : Field => (Prod.mk f.offset <$> sizeOf f.type : Sem (Nat × Nat))) = fun f => (do pure (f.offset, ← sizeOf f.type)) := by funext f; simp
          rw [e]; exact hm
        have h6 : (Instr.build t (parts.map fun (i, x) => (i, a.eval x))).run P w = .ok (.agg us') w := by
          simp only [Instr.build, Sem.run_bind, zeroValue, typeInfo, Sem.run_pure, Result.andThen_ok]
          have h3' : Instr.fill (fun x => ps[x]?) zv.cells (parts.toList.map fun p => (p.1, a.eval p.2)) = some us' := by simpa using h3
          simp [hzi, hzz, run_underlying hu, hm', h3']
        simp only [execOp, ho, Sem.run_bind, h6, Result.andThen_ok, Sem.run_pure]
    · cases hb
  · cases hb
/-- Sums that wrap. -/
def stepW (s : Slots) (o : Oper) : Option AV := match o.op with
  | .binOp op _ x y _ => match evA s x, evA s y with
    | .int k a, .int k' b => bif kEq k k' then (match op with
      | .add => some (.int k (k.wrap (a + b)))
      | .sub => some (.int k (k.wrap (a - b)))
      | .mul => some (.int k (k.wrap (a * b)))
      | _ => none) else none
    | _, _ => none
  | .convert src dst x => none
  | _ => none
theorem ok_wrap {v : AV} (hs : stepW s o = some v) : OkO P o s h v := by
  refine ok_of_run fun E σ ι act w hr hx => ?_
  unfold stepW at hs
  split at hs
  · rename_i op t x y yt e
    have hX := hx x (by rw [e]; simp [Op.operands])
    have hY := hx y (by rw [e]; simp [Op.operands])
    split at hs
    · rename_i k a k' b h1 h2
      rw [h1] at hX
      rw [h2] at hY
      cases hk : kEq k k' with
      | false => rw [hk] at hs; cases hs
      | true =>
        rw [hk, cond_true] at hs
        obtain rfl := kEq_eq hk
        split at hs <;> first | (cases hs; done) | skip
        all_goals
          cases hs
          refine ⟨_, ?_, .base _ _ (.int _ _ (wrap_range k _))⟩
          simp [execOp, e, hX.int_inv.1, hY.int_inv.1, eqGuard, binOp, Op.intArith]
    · cases hs
  · cases hs
  · cases hs
theorem ok_index_ownZ {α : Type} {sz id : Nat} {l : List α} {f : α → List AV} {t e e' : TypeId} {x y : Operand} {ik : IntKind} {i : Int} (ho : o.op = .indexAddr t x y) (ht : sliceE P t = some e) (hz : sizeQ P e sz = true) (hx : evA s x = .own id) (hg : hget h id = some (.row e' sz (l.map f)))
    (hy : evA s y = .int ik i) (h0 : 0 ≤ i) (hi : i < l.length) : OkO P o s h (.eptr id sz i.toNat 0) := by
  obtain ⟨k, rfl⟩ := Int.eq_ofNat_of_zero_le h0
  exact ok_index_own ho ht hz hx hg hy (by omega)
theorem LeV.agg {cs cs' : List AV} (h : L2 LeV cs cs') : LeV (.agg cs) (.agg cs') := fun σ ι v hv => by
  obtain ⟨vs, rfl, h2⟩ := hv.agg_inv
  refine .agg _ _ (by rw [← h.1, h2.1]) fun j c v hc hv => ?_
  have hj : j < cs.length := by rw [h.1]; exact (List.getElem?_eq_some_iff.1 hc).1
  exact h.2 j _ c (List.getElem?_eq_getElem hj) hc σ ι v (h2.2 j _ v (List.getElem?_eq_getElem hj) hv)
theorem Fn.le {f : FuncId} {args args' : List AV} {r : AV} (hf : Fn P f args' r) (h : L2 LeV args args') : Fn P f args r :=
  ⟨hf.1, fun σ ι w vs hsub hv => hf.2 σ ι w vs hsub ⟨by rw [← h.1, hv.1], fun j c v hc hv2 => by
    have hj : j < args.length := by rw [h.1]; exact (List.getElem?_eq_some_iff.1 hc).1
    exact h.2 j _ c (List.getElem?_eq_getElem hj) hc σ ι v (hv.2 j _ v (List.getElem?_eq_getElem hj) hv2)⟩⟩
end
end Go.Proofs.Ytfjoaeghnfkdlaa
