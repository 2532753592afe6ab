/- Stores, rows, appends over abstract values. No condition. -/
import Derived.Test.YtfjoaeghnfkdlaaAvMem
namespace Go.Proofs.Ytfjoaeghnfkdlaa
set_option linter.unusedSimpArgs false
set_option linter.unusedVariables false
set_option maxRecDepth 100000
set_option linter.unusedVariables false
set_option linter.unusedSimpArgs false
open Go.RowKit
section
variable {P : Program} {n : Md} {Q : Exit → Slots → Heap → Prop} {s : Slots} {h : Heap} {ops : Array Oper} {rest : List Oper} {o : Oper} {K : Slots → Prop}
/-! ## Stores -/
/-- Cells with others in their place, from one on. -/
def spl : List AV → Nat → List AV → List AV
  | cs, 0, [] => cs
  | [], _, _ => []
  | c :: cs, k + 1, ws => c :: spl cs k ws
  | _ :: cs, 0, w :: ws => w :: spl cs 0 ws
theorem spl_eq : ∀ (cs : List AV) (k : Nat) (ws : List AV), k + ws.length ≤ cs.length → spl cs k ws = cs.take k ++ ws ++ cs.drop (k + ws.length)
  | cs, 0, [], _ => by unfold spl; simp
  | [], k + 1, ws, h => by simp at h
  | [], 0, w :: ws, h => by simp at h
  | c :: cs, k + 1, ws, h => by
    rw [spl, spl_eq cs k ws (by simp at h; omega)]
    rw [show k + 1 + ws.length = (k + ws.length) + 1 by omega]; simp
  | c :: cs, 0, w :: ws, h => by
    rw [spl, spl_eq cs 0 ws (by simp at h ⊢; omega)]
    simp
def sizeQ (P : Program) (t : TypeId) (k : Nat) : Bool := match P.info? t with | some i => Nat.beq i.size k | none => false
theorem sizeQ_run {t : TypeId} {k : Nat} (h : sizeQ P t k = true) (w : World) : (sizeOf t).run P w = .ok k w := by
  unfold sizeQ at h
  split at h
  · rename_i i hi
    have := Nat.eq_of_beq_eq_true h
    subst this
    simp [sizeOf, typeInfo, hi]
  · cases h
theorem run_store_at {t ty : TypeId} {g off : Nat} {v : Value} {cur : Array Value} {w : World} (hg : w.heap[g]? = some (.cells cur ty (0, 0))) (hz : sizeQ P t v.cells.size = true) (hl : off + v.cells.size ≤ cur.size) (h1 : ∀ u ∈ v.cells.toList, u.oneCell' = true) :
    (storeVar t ⟨g, off, none⟩ v).run P w = .ok () (w.setRow g (cur.toList.take off ++ v.cells.toList ++ cur.toList.drop (off + v.cells.size)).toArray) := by
  have h := run_storeCells_at P g off ty v.cells.toList 0 cur w hg (by simpa using hl) h1
  simp only [Nat.add_zero, Array.length_toList] at h
  simp only [storeVar, Sem.run_bind, sizeQ_run hz, Result.andThen_ok, ne_eq, not_true_eq_false, if_false]
  exact h
/-- A store into a block of the call's own. -/
theorem a1_store {t : TypeId} {x y : Operand} (ho : o.op = .store t x y) {id off : Nat} (hx : evA s x = .ptr id off) {ty : TypeId} {cs : List AV} (hg : hget h id = some (.blk ty cs)) {v : AV} (hv : evA s y = v)
    (hq : celQ v = true) (hz : sizeQ P t (celA v).length = true) (hl : off + (celA v).length ≤ cs.length) (hco : constsOk o = true) (hd : o.dst = none)
    (hk : AOps P n ops Q rest s ((id, .blk ty (spl cs off (celA v))) :: h)) : A1 P n ops Q o rest s h := fun E σ ι a w hr ht => by
  subst hv
  have hX : VR σ ι (evA s x) (a.eval x) := evA_sound (List.all_eq_true.1 hco x (by rw [ho]; simp [Op.operands])) fun t _ => ht.at_ t
  have hY : VR σ ι (evA s y) (a.eval y) := evA_sound (List.all_eq_true.1 hco y (by rw [ho]; simp [Op.operands])) fun t _ => ht.at_ t
  rw [hx] at hX
  obtain ⟨g, h1, h2⟩ := hX.ptr_inv
  obtain ⟨g', cur, h3, h4, h5⟩ := hr.ch id _ hg
  rw [h3] at h1
  simp only [footOf, Option.some.injEq] at h1
  subst h1
  obtain ⟨hL, hone⟩ := hY.cel hq
  have hlen : (a.eval y).cells.size = (celA (evA s y)).length := by rw [← Array.length_toList]; exact hL.1.symm
  have hcur : cs.length = cur.size := by rw [← Array.length_toList]; exact h5.1
  have hrun := run_store_at (P := P) (t := t) (off := off) (v := a.eval y) h4 (by rw [hlen]; exact hz) (by rw [hlen]; omega) hone
  unfold Oper.wp
  have hrun' : (execOp a.eval o).run P w = .ok .skip (w.setRow g' (cur.toList.take off ++ (a.eval y).cells.toList ++ cur.toList.drop (off + (a.eval y).cells.size)).toArray) := by
    simp only [execOp, ho, h2, Instr.storeAt, Instr.sureAddr, Sem.run_bind, Sem.run_pure, Result.andThen_ok, hrun]
  rw [hrun', Oper.upon_skip, hd]
  have hsame : upd ι id (ι id) = ι := by funext i; unfold upd; split <;> simp_all
  have hnew := hr.turn (id := id) (u := ι id) (h' := (id, .blk ty (spl cs off (celA (evA s y)))) :: h) (c' := .blk ty (spl cs off (celA (evA s y)))) (w' := w.setRow g' (cur.toList.take off ++ (a.eval y).cells.toList ++ cur.toList.drop (off + (a.eval y).cells.size)).toArray)
    (fun i c hi hc => by rw [hget_cons, if_neg (fun e => hi e.symm)] at hc; exact ⟨hc, .inl rfl⟩) (by rw [hget_cons, if_pos rfl])
    ⟨g', _, by rw [hsame]; exact h3, setRow_heap w g' cur _ ty (0, 0) h4, by
      rw [hsame, spl_eq _ _ _ hl, List.toList_toArray, hlen]
      exact ((h5.take off).append hL).append (h5.drop _)⟩
    rfl rfl rfl (by simp) (fun k hk hne => setRow_other w g' k _ fun e => hne _ hg (by rw [e, h3]; rfl))
    (fun g2 hg2 => .inl ⟨_, hg, hg2⟩) (.inr rfl)
  rw [hsame] at hnew
  exact hk E σ ι _ _ hnew ht
/-! ## Lists that a function of their elements gives -/
theorem VR.lst_inv {σ : Sig} {ι : Nat → Value} {sz : Nat} {xs : List (List AV)} {v : Value} (hv : VR σ ι (.lst sz xs) v) : ∃ A cap, v = .slice A xs.length cap ∧ xs.length ≤ cap ∧ cap ≤ maxLen ∧
    (xs = [] ∨ ∃ (b off : Nat) (g : Nat → Value), A = some ⟨b, off, none⟩ ∧ (∀ c ∈ xs, c.length = sz) ∧ (∀ (j : Nat) (c : AV), xs.flatten[j]? = some c → σ ⟨b, off + j, none⟩ = some (g j)) ∧ ∀ (j : Nat) (c : AV), xs.flatten[j]? = some c → VR0 σ c (g j)) := by
  cases hv with
  | base _ _ h0 => cases h0 with
    | empty _ A cap h => exact ⟨A, cap, rfl, Nat.zero_le _, h, .inl rfl⟩
    | lst _ _ b off cap g h1 h2 h3 h4 h5 => exact ⟨_, cap, rfl, h1, h2, .inr ⟨b, off, g, rfl, h3, h4, h5⟩⟩
theorem flatten_get {sz : Nat} : ∀ {xs : List (List AV)} {i j : Nat} {c : List AV} {x : AV}, (∀ c ∈ xs, c.length = sz) → xs[i]? = some c → c[j]? = some x → xs.flatten[i * sz + j]? = some x
  | [], i, j, c, x, _, h, _ => by simp at h
  | y :: ys, 0, j, c, x, hs, h, hx => by
    simp at h; subst h
    rw [List.flatten_cons, Nat.zero_mul, Nat.zero_add, List.getElem?_append_left (List.getElem?_eq_some_iff.1 hx).1]; exact hx
  | y :: ys, i + 1, j, c, x, hs, h, hx => by
    have h1 := flatten_get (xs := ys) (fun c hc => hs c (List.mem_cons_of_mem _ hc)) (by simpa using h) hx
    have h2 := hs y List.mem_cons_self
    rw [List.flatten_cons, List.getElem?_append_right (by rw [h2, Nat.add_mul]; omega), h2, Nat.add_mul, show i * sz + 1 * sz + j - sz = i * sz + j by omega]
    exact h1
theorem flatten_length {sz : Nat} : ∀ {xs : List (List AV)}, (∀ c ∈ xs, c.length = sz) → xs.flatten.length = xs.length * sz
  | [], _ => by simp
  | y :: ys, hs => by
    rw [List.flatten_cons, List.length_append, hs y List.mem_cons_self, flatten_length fun c hc => hs c (List.mem_cons_of_mem _ hc), List.length_cons, Nat.add_mul]; omega
/-- An element of a list, as an address. -/
theorem elem_ref {σ : Sig} {ι : Nat → Value} {sz : Nat} {xs : List (List AV)} {A : Option Addr} {len cap i : Nat} {c : List AV} (hv : VR σ ι (.lst sz xs) (.slice A len cap)) (hi : xs[i]? = some c) :
    ∃ b off, A = some ⟨b, off, none⟩ ∧ len = xs.length ∧ VR σ ι (.ref c) (.pointer (some ⟨b, off + i * sz, none⟩)) := by
  obtain ⟨A', cap', e, _, _, h⟩ := hv.lst_inv
  injection e with e1 e2 e3
  subst e1
  rcases h with h | ⟨b, off, g, hA, h3, h4, h5⟩
  · subst h; simp at hi
  · refine ⟨b, off, hA, e2, .base _ _ (.ref _ _ _ (fun j => g (i * sz + j)) (fun j x hx => ?_) fun j x hx => ?_)⟩
    · rw [Nat.add_assoc]; exact h4 _ x (flatten_get h3 hi hx)
    · exact h5 _ x (flatten_get h3 hi hx)
def sliceE (P : Program) (t : TypeId) : Option TypeId := match P.underlying t with | some (.slice e) => some e | _ => none
theorem sliceE_spec {t e : TypeId} (h : sliceE P t = some e) : P.underlying t = some (.slice e) := by
  unfold sliceE at h
  split at h
  · cases h; assumption
  · cases h
/-- len -/
theorem ok_len {α : Type} {sz : Nat} {l : List α} {f : α → List AV} {t e : TypeId} {x : Operand} (ho : o.op = .call { callee := .builtin .len, args := #[x], argTypes := #[t] }) (ht : sliceE P t = some e) (hx : evA s x = .lst sz (l.map f)) :
    OkO P o s h (.int .i64 l.length) := by
  refine ok_of_run fun E σ ι a w hr hv => ?_
  have hv := hv x (by rw [ho]; simp [Op.operands, Call.operands])
  rw [hx] at hv
  obtain ⟨A, cap, e1, e2, e3, _⟩ := hv.lst_inv
  refine ⟨.int .i64 l.length, ?_, .base _ _ (.int _ _ ?_)⟩
  · simp [execOp, ho, resolve, invoke, builtin, Builtin.len_, run_underlying (sliceE_spec ht), e1, goInt]
  · simp only [maxLen, List.length_map] at e2 e3; simp only [rangeP]; omega
theorem ok_len_nils {t e : TypeId} {x : Operand} (ho : o.op = .call { callee := .builtin .len, args := #[x], argTypes := #[t] }) (ht : sliceE P t = some e) (hx : evA s x = .nils) :
    OkO P o s h (.int .i64 0) := by
  refine ok_of_run fun E σ ι a w hr hv => ?_
  have hv := hv x (by rw [ho]; simp [Op.operands, Call.operands])
  rw [hx] at hv
  have e1 : a.eval x = .slice none 0 0 := by
    generalize a.eval x = q at hv
    cases hv with
    | base _ _ h0 => cases h0; rfl
  refine ⟨.int .i64 0, ?_, .base _ _ (.int _ _ (by simp [rangeP]))⟩
  simp [execOp, ho, resolve, invoke, builtin, Builtin.len_, run_underlying (sliceE_spec ht), e1, goInt]
/-- x[i] -/
theorem ok_index {α : Type} [Inhabited α] {l : List α} {f : α → List AV} {t e : TypeId} {x y : Operand} {sz : Nat} {ik : IntKind} {i : Nat} (ho : o.op = .indexAddr t x y) (ht : sliceE P t = some e) (hz : sizeQ P e sz = true) (hx : evA s x = .lst sz (l.map f))
    (hy : evA s y = .int ik i) (hi : i < l.length) : OkO P o s h (.ref (f (l.getD i default))) := by
  refine ok_of_run fun E σ ι a w hr hv => ?_
  have hX := hv x (by rw [ho]; simp [Op.operands])
  have hY := hv y (by rw [ho]; simp [Op.operands])
  rw [hx] at hX
  rw [hy] at hY
  obtain ⟨A, cap, e1, e2, e3, _⟩ := hX.lst_inv
  rw [e1] at hX
  obtain ⟨b, off, h1, _, h3⟩ := elem_ref (i := i) (c := f (l.getD i default)) hX (by simp [hi])
  refine ⟨_, ?_, h3⟩
  simp only [execOp, ho, e1, h1, hY.int_inv.1, Instr.indexAt, asIntOf, Sem.run_bind, Sem.run_pure, Result.andThen_ok, run_underlying (sliceE_spec ht), sizeQ_run hz]
  have h4 : (0 : Int) ≤ (i : Int) ∧ (i : Int) < ((l.map f).length : Int) := by simp; omega
  simp only [h4, and_self, if_true, Sem.run_bind, sizeQ_run hz, Result.andThen_ok, Sem.run_pure, Int.toNat_natCast, Go.WideShapes.add_plain]
theorem ok_indexZ {α : Type} [Inhabited α] {l : List α} {f : α → List AV} {t e : TypeId} {x y : Operand} {sz : Nat} {ik : IntKind} {i : Int} (ho : o.op = .indexAddr t x y) (ht : sliceE P t = some e) (hz : sizeQ P e sz = true) (hx : evA s x = .lst sz (l.map f))
    (hy : evA s y = .int ik i) (h0 : 0 ≤ i) (hi : i < l.length) : OkO P o s h (.ref (f (l.getD i.toNat default))) := by
  obtain ⟨k, rfl⟩ := Int.eq_ofNat_of_zero_le h0
  exact ok_index ho ht hz hx hy (by omega)
def boundQ (s : Slots) (x : Option Operand) (d m : Nat) : Prop := match x with | some y => ∃ k, evA s y = .int k m | none => m = d
/-- x[lo:hi] -/
theorem ok_slice {α : Type} {l : List α} {f : α → List AV} {t e : TypeId} {x : Operand} {lo hi : Option Operand} {sz : Nat} {a b : Nat} (ho : o.op = .slice t x lo hi none) (ht : sliceE P t = some e) (hz : sizeQ P e sz = true) (hx : evA s x = .lst sz (l.map f))
    (hlo : boundQ s lo 0 a) (hhi : boundQ s hi l.length b) (hab : a ≤ b) (hb : b ≤ l.length) :
    OkO P o s h (.lst sz (((l.take b).drop a).map f)) := by
  refine ok_of_run fun E σ ι act w hr hv => ?_
  have hX := hv x (by rw [ho]; simp [Op.operands])
  rw [hx] at hX
  obtain ⟨A, cap, e1, e2, e3, e4⟩ := hX.lst_inv
  have e2' : l.length ≤ cap := by simpa using e2
  have rb : ∀ (v : Value) (k : IntKind) (m y : Nat) (c : BoundsCode), v = .int k m → m ≤ y → (Instr.sliceBound v y c).run P w = .ok m w := fun v k m y c hv hm => by
    have h4 : (0 : Int) ≤ (m : Int) ∧ (m : Int) ≤ (y : Int) := by omega
    simp only [Instr.sliceBound, hv, asIntOf, Sem.run_bind, Sem.run_pure, Result.andThen_ok, h4, and_self, if_true, Int.toNat_natCast]
  have rs : (Instr.sliceBounds true l.length cap (lo.map act.eval) (hi.map act.eval) none).run P w = .ok (a, b, cap) w := by
    have hlo' : ∀ y, lo = some y → ∃ k, act.eval y = .int k a := fun y e => by
      subst e
      obtain ⟨k, hk⟩ := hlo
      have hY := hv y (by rw [ho]; simp [Op.operands])
      rw [hk] at hY
      exact ⟨k, hY.int_inv.1⟩
    have hhi' : ∀ y, hi = some y → ∃ k, act.eval y = .int k b := fun y e => by
      subst e
      obtain ⟨k, hk⟩ := hhi
      have hY := hv y (by rw [ho]; cases lo <;> simp [Op.operands])
      rw [hk] at hY
      exact ⟨k, hY.int_inv.1⟩
    unfold Instr.sliceBounds
    cases lo with
    | none =>
      simp only [boundQ] at hlo; subst hlo
      cases hi with
      | none => simp only [boundQ] at hhi; subst hhi; simp
      | some z =>
        obtain ⟨k, hk⟩ := hhi' z rfl
        have r2 := fun c => rb (act.eval z) k b cap c hk (by omega)
        simp [r2]
    | some y =>
      obtain ⟨k, hk⟩ := hlo' y rfl
      have r1 := fun c => rb (act.eval y) k a b c hk hab
      cases hi with
      | none => simp only [boundQ] at hhi; subst hhi; simp [r1]
      | some z =>
        obtain ⟨k', hk'⟩ := hhi' z rfl
        have r2 := fun c => rb (act.eval z) k' b cap c hk' (by omega)
        simp [r1, r2]
  have hs := sliceE_spec ht
  have hrun : (execOp act.eval o).run P w = .ok (.value (.slice (if cap = a then A else A.map (·.add (a * sz))) (b - a) (cap - a))) w := by
    simp [execOp, ho, Instr.sliceAt, run_underlying hs, Instr.slice, e1, rs, sizeQ_run hz]
  refine ⟨_, hrun, ?_⟩
  by_cases hab' : a = b
  · subst hab'
    have : ((l.take a).drop a) = [] := by simp
    rw [this, Nat.sub_self]
    exact .base _ _ (.empty _ _ _ (by simp only [maxLen] at *; omega))
  · rw [if_neg (by omega)]
    rcases e4 with e4 | ⟨b', off, g, rfl, h3, h4, h5⟩
    · have : l = [] := by simpa using e4
      subst this; simp at hb; omega
    have hlen : b - a = (((l.take b).drop a).map f).length := by simp; omega
    have hle : (((l.take b).drop a).map f).length ≤ cap - a := by simp; omega
    rw [hlen]
    have hfl : ∀ (j : Nat) (c : AV), (((l.take b).drop a).map f).flatten[j]? = some c → (l.map f).flatten[a * sz + j]? = some c := by
      have hpart : (l.map f).flatten = ((l.take a).map f).flatten ++ ((((l.take b).drop a).map f).flatten ++ ((l.drop b).map f).flatten) := by
        have h6 : l = l.take a ++ ((l.take b).drop a ++ l.drop b) := by
          have h7 : (l.take b).take a = l.take a := by rw [List.take_take, Nat.min_eq_left hab]
          calc l = l.take b ++ l.drop b := (List.take_append_drop b l).symm
            _ = ((l.take b).take a ++ (l.take b).drop a) ++ l.drop b := by rw [List.take_append_drop a (l.take b)]
            _ = _ := by rw [h7, List.append_assoc]
        conv => lhs; rw [h6]
        simp
      intro j c hj
      have hla : ((l.take a).map f).flatten.length = a * sz := by
        rw [flatten_length (sz := sz)]
        · simp; rw [Nat.min_eq_left (by omega)]
        · intro c hc
          obtain ⟨x, hx1, rfl⟩ := List.mem_map.1 hc
          exact h3 _ (List.mem_map.2 ⟨x, List.mem_of_mem_take hx1, rfl⟩)
      rw [hpart, List.getElem?_append_right (by omega), hla, Nat.add_sub_cancel_left, List.getElem?_append_left (List.getElem?_eq_some_iff.1 hj).1]
      exact hj
    have hadd : (some (⟨b', off, none⟩ : Addr)).map (·.add (a * sz)) = some ⟨b', off + a * sz, none⟩ := by simp [Go.WideShapes.add_plain]
    rw [hadd]
    refine .base _ _ (.lst _ _ _ _ _ (fun j => g (a * sz + j)) hle (by omega) (fun c hc => ?_) (fun j c hj => ?_) fun j c hj => ?_)
    · obtain ⟨x, hx1, rfl⟩ := List.mem_map.1 hc
      exact h3 _ (List.mem_map.2 ⟨x, List.mem_of_mem_take (List.mem_of_mem_drop hx1), rfl⟩)
    · rw [Nat.add_assoc]; exact h4 _ c (hfl j c hj)
    · exact h5 _ c (hfl j c hj)
end
end Go.Proofs.Ytfjoaeghnfkdlaa
