/- Functions with four results. No condition. -/
import Derived.Test.YtffciebjpiljgaaG6
namespace Go.Proofs.Ytffciebjpiljgaa
set_option linter.unusedSimpArgs false
set_option linter.unusedVariables false
set_option maxRecDepth 100000
set_option linter.unusedVariables false
set_option linter.unusedSimpArgs false
open Go.RowKit
section
variable {P : Program} {n : Md} {s : Slots} {h : Heap}
def resA4 (P : Program) (s : Slots) (h : Heap) : List ResultVar → Option AV
  | [x, y, z, q] => match resV P s h x, resV P s h y, resV P s h z, resV P s h q with | some v1, some v2, some v3, some v4 => some (.tup [v1, v2, v3, v4]) | _, _, _, _ => none
  | _ => none
def RetQ4 (P : Program) (rs : List ResultVar) (Q : AV → Heap → Prop) : Exit → Slots → Heap → Prop
  | .ret, s, h => ∃ v s' h', (∀ n, Turns n s h s' h') ∧ resA4 P s' h' rs = some v ∧ Q v h'
  | _, _, _ => False
end
end Go.Proofs.Ytffciebjpiljgaa
namespace Go.Proofs.Ytffciebjpiljgaa
set_option linter.unusedSimpArgs false
set_option linter.unusedVariables false
set_option maxRecDepth 100000
set_option linter.unusedVariables false
set_option linter.unusedSimpArgs false
open Go.RowKit
section
variable {P : Program} {s : Slots} {h : Heap} {o : Oper}
def splN : List AV → Nat → List AV → List AV
  | cs, _, [] => cs
  | cs, k, w :: ws => splN (setA cs k w) (k + 1) ws
theorem foldN {R : AV → Value → Prop} (off : Nat) : ∀ (vs : List Value) (ws cs : List AV) (arr : Array Value) (k : Nat), L2 R cs arr.toList → L2 R ws vs →
    L2 R (splN cs (off + k) ws) ((vs.zipIdx k).foldl (fun cs (p : Value × Nat) => cs.setIfInBounds (off + p.2) p.1) arr).toList
  | [], ws, cs, arr, k, h1, h2 => by
    have : ws = [] := List.eq_nil_of_length_eq_zero h2.1
    subst this
    exact h1
  | v :: vs, ws, cs, arr, k, h1, h2 => by
    cases ws with
    | nil => have := h2.1; simp at this
    | cons w ws =>
      have hw : R w v := h2.2 0 w v rfl rfl
      have ht : L2 R ws vs := ⟨by have := h2.1; simpa using this, fun j x y hx hy => h2.2 (j + 1) x y (by simpa using hx) (by simpa using hy)⟩
      rw [splN, setA_eq, List.zipIdx_cons, List.foldl_cons]
      exact foldN off vs ws _ _ (k + 1) (by rw [Array.toList_setIfInBounds]; exact h1.set _ hw) ht
/-- The parts, in their places. -/
def fillN (P : Program) (fs : List Field) (s : Slots) : List (Nat × Operand) → List AV → Option (List AV)
  | [], cs => some cs
  | (i, x) :: r, cs => match fs[i]? with
    | some fd => bif celQ (evA s x) && sizeQ P fd.type (celA (evA s x)).length && Nat.ble (fd.offset + (celA (evA s x)).length) cs.length then fillN P fs s r (splN cs fd.offset (celA (evA s x))) else none
    | none => none
def buildN (P : Program) (s : Slots) (t : TypeId) (parts : List (Nat × Operand)) : Option (List AV) :=
  match P.underlying t with
  | some (.struct fs) => match zeroA P t with
    | some z => bif sizesQ P fs.toList then fillN P fs.toList s parts z else none
    | none => none
  | _ => none
theorem fillN_spec {σ : Sig} {ι : Nat → Value} {a : Act} {fs : List Field} {places : Nat → Option (Nat × Nat)} (hpl : ∀ (i : Nat) (fd : Field), fs[i]? = some fd → ∀ k, sizeQ P fd.type k = true → places i = some (fd.offset, k)) :
    ∀ (parts : List (Nat × Operand)) (cs : List AV) (us : Array Value) (r : List AV), fillN P fs s parts cs = some r → L2 (VR σ ι) cs us.toList → (∀ p ∈ parts, VR σ ι (evA s p.2) (a.eval p.2)) →
      ∃ us' : Array Value, Instr.fill places us (parts.map fun p => (p.1, a.eval p.2)) = some us' ∧ L2 (VR σ ι) r us'.toList
  | [], cs, us, r, h, hL, _ => by cases h; exact ⟨us, rfl, hL⟩
  | (i, x) :: parts, cs, us, r, h, hL, hv => by
    unfold fillN at h
    split at h
    · rename_i fd hfd
      cases hq : (celQ (evA s x) && sizeQ P fd.type (celA (evA s x)).length && Nat.ble (fd.offset + (celA (evA s x)).length) cs.length) with
      | false => rw [hq] at h; cases h
      | true =>
        rw [hq, cond_true] at h
        simp only [Bool.and_eq_true, Nat.ble_eq] at hq
        have hx := (hv (i, x) List.mem_cons_self).cel hq.1.1
        have hlen : (celA (evA s x)).length = (a.eval x).cells.size := by rw [hx.1.1, Array.length_toList]
        have hfold : ((a.eval x).cells.zipIdx.foldl (fun cs (p : Value × Nat) => cs.setIfInBounds (fd.offset + p.2) p.1) us) = ((a.eval x).cells.toList.zipIdx 0).foldl (fun cs (p : Value × Nat) => cs.setIfInBounds (fd.offset + p.2) p.1) us := by
          rw [← Array.foldl_toList, Array.toList_zipIdx]
        have hnew := foldN (R := VR σ ι) fd.offset (a.eval x).cells.toList (celA (evA s x)) cs us 0 hL hx.1
        rw [Nat.add_zero, ← hfold] at hnew
        obtain ⟨us', h2, h3⟩ := fillN_spec hpl parts _ _ r h hnew fun p hp => hv p (List.mem_cons_of_mem _ hp)
        refine ⟨us', ?_, h3⟩
        have hsz : cs.length = us.size := by rw [← Array.length_toList]; exact hL.1
        have hlt : ¬ us.size < fd.offset + (a.eval x).cells.size := by omega
        rw [List.map_cons]
        unfold Instr.fill
        simp only [hpl i fd hfd _ hq.1.2, hlen]
        simp [hlt]
        simpa using h2
    · cases h
theorem ok_buildN {t : TypeId} {parts : Array (Nat × Operand)} {cs : List AV} (ho : o.op = .build t parts) (hb : buildN P s t parts.toList = some cs) : OkO P o s h (.agg cs) := by
  refine ok_of_run fun E σ ι a w hr hx => ?_
  unfold buildN at hb
  split at hb
  · rename_i fs hu
    split at hb
    · rename_i z hz
      cases hq : sizesQ P fs.toList with
      | false => rw [hq] at hb; cases hb
      | true =>
        rw [hq, cond_true] at hb
        obtain ⟨zi, zv, hzi, hzz, hzL⟩ := zeroA_spec hz
        have hall : ∀ fd ∈ fs.toList, ∃ i, P.info? fd.type = some i := fun fd hfd => Option.isSome_iff_exists.1 (List.all_eq_true.1 hq fd hfd)
        have hmap : ∀ (l : List Field), (∀ fd ∈ l, ∃ i, P.info? fd.type = some i) → ∃ ps : List (Nat × Nat), (l.mapM fun f => (do pure (f.offset, ← sizeOf f.type) : Sem (Nat × Nat))).run P w = .ok ps w ∧ ∀ (i : Nat) (fd : Field), l[i]? = some fd → ∀ k, sizeQ P fd.type k = true → ps[i]? = some (fd.offset, k) := by
          intro l
          induction l with
          | nil => intro _; exact ⟨[], by simp, fun i fd h => by simp at h⟩
          | cons f l ih =>
            intro hl
            obtain ⟨i0, hi0⟩ := hl f List.mem_cons_self
            obtain ⟨ps, h1, h2⟩ := ih fun fd hfd => hl fd (List.mem_cons_of_mem _ hfd)
            refine ⟨(f.offset, i0.size) :: ps, ?_, fun i fd hi k hk => ?_⟩
            · have hstep : (do pure (f.offset, ← sizeOf f.type) : Sem (Nat × Nat)).run P w = .ok (f.offset, i0.size) w := by simp [sizeOf, typeInfo, hi0]
              rw [List.mapM_cons, Sem.run_bind, hstep, Result.andThen_ok, Sem.run_bind, h1, Result.andThen_ok]
              simp
            · cases i with
              | zero =>
                simp at hi; subst hi
                unfold sizeQ at hk; rw [hi0] at hk
                simp [Nat.eq_of_beq_eq_true hk]
              | succ i => simpa using h2 i fd (by simpa using hi) k hk
        obtain ⟨ps, h1, h2⟩ := hmap fs.toList hall
        obtain ⟨us', h3, h4⟩ := fillN_spec (σ := σ) (ι := ι) (a := a) (places := (ps.toArray[·]?)) (fun i fd hi k hk => by simpa using h2 i fd hi k hk) parts.toList z zv.cells cs hb ((hzL σ).mono fun _ _ h => .base _ _ h) (fun p hp => hx p.2 (by rw [ho]; simp only [Op.operands]; simpa using ⟨p.1, by simpa using hp⟩))
        have hm : (fs.mapM fun f => (do pure (f.offset, ← sizeOf f.type) : Sem (Nat × Nat))).run P w = .ok ps.toArray w := by
          rw [Array.mapM_eq_mapM_toList]
          simp only [Sem.run_bind, Sem.run_map, h1]
          rfl
        refine ⟨.agg us', ?_, .agg _ us'.toList h4.1 h4.2⟩
        have hm' : (fs.mapM fun f => (Prod.mk f.offset <$> sizeOf f.type : Sem (Nat × Nat))).run P w = .ok ps.toArray w := by
          have e : (fun f : Field => (Prod.mk f.offset <$> sizeOf f.type : Sem (Nat × Nat))) = fun f => (do pure (f.offset, ← sizeOf f.type)) := by funext f; simp
          rw [e]; exact hm
        have h6 : (Instr.build t (parts.map fun (i, x) => (i, a.eval x))).run P w = .ok (.agg us') w := by
          simp only [Instr.build, Sem.run_bind, zeroValue, typeInfo, Sem.run_pure, Result.andThen_ok]
          have h3' : Instr.fill (fun x => ps[x]?) zv.cells (parts.toList.map fun p => (p.1, a.eval p.2)) = some us' := by simpa using h3
          simp [hzi, hzz, run_underlying hu, hm', h3']
        simp only [execOp, ho, Sem.run_bind, h6, Result.andThen_ok, Sem.run_pure]
    · cases hb
  · cases hb
/-- The same, of an array. -/
def fillR (sz : Nat) (s : Slots) : List (Nat × Operand) → List AV → Option (List AV)
  | [], cs => some cs
  | (i, x) :: r, cs => bif celQ (evA s x) && Nat.beq (celA (evA s x)).length sz && Nat.ble (i * sz + (celA (evA s x)).length) cs.length then fillR sz s r (splN cs (i * sz) (celA (evA s x))) else none
def buildR (P : Program) (s : Slots) (t : TypeId) (parts : List (Nat × Operand)) : Option (List AV) :=
  match P.underlying t with
  | some (.array _ e) => match zeroA P t, P.info? e with
    | some z, some i => fillR i.size s parts z
    | _, _ => none
  | _ => none
end
end Go.Proofs.Ytffciebjpiljgaa
