/- Ghost steps, making rows, calls. No condition. -/
import Derived.Test.YtfjoaeghnfkdlaaAvRow
namespace Go.Proofs.Ytfjoaeghnfkdlaa
set_option linter.unusedSimpArgs false
set_option linter.unusedVariables false
set_option maxRecDepth 100000
set_option linter.unusedVariables false
set_option linter.unusedSimpArgs false
open Go.RowKit
section
variable {P : Program} {n : Md} {Q : Exit → Slots → Heap → Prop} {s : Slots} {h : Heap} {ops : Array Oper} {rest : List Oper} {o : Oper} {K : Slots → Prop}
/-- A state may be said in other words where the one says no less than the other. -/
def Turns (n : Md) (s : Slots) (h : Heap) (s' : Slots) (h' : Heap) : Prop :=
  ∀ (E : Env) (σ : Sig) (ι : Nat → Value) (a : Act) (w : World), Rel E σ ι h w → TR n σ ι s a → ∃ σ' ι', Rel E σ' ι' h' w ∧ TR n σ' ι' s' a
theorem awp_turn {c : Code} {s' : Slots} {h' : Heap} (ht : Turns n s h s' h') (hc : AWp P n c Q s' h') : AWp P n c Q s h := fun E σ ι a w hr hs =>
  let ⟨σ', ι', h1, h2⟩ := ht E σ ι a w hr hs; hc E σ' ι' a w h1 h2
theorem aops_turn {s' : Slots} {h' : Heap} (ht : Turns n s h s' h') (hc : AOps P n ops Q rest s' h') : AOps P n ops Q rest s h := fun E σ ι a w hr hs =>
  let ⟨σ', ι', h1, h2⟩ := ht E σ ι a w hr hs; hc E σ' ι' a w h1 h2
theorem hget_fresh {id : Nat} (hf : freshH id h = true) : hget h id = none := by
  cases hg : hget h id with
  | none => rfl
  | some c => exact absurd rfl (freshH_get hf id c hg).1
/-- A nil slice is a row of the call's own without elements. -/
theorem turn_own {α : Type} (f : α → List AV) {t : Nat} (hn : get s t = .nils) (id : Nat) (e : TypeId) (sz : Nat) (hsz : 0 < sz) (hf : freshAll id s h = true) : Turns n s h ((t, .own id) :: s) ((id, .row e sz (([] : List α).map f)) :: h) := by
  intro E σ ι a w hr ht
  simp only [freshAll, Bool.and_eq_true, Nat.ble_eq] at hf
  refine ⟨σ, upd ι id (.slice none 0 0), ?_, ?_⟩
  · refine hr.turn (c' := .row e sz []) ?_ (by rw [hget_cons, if_pos rfl]; rfl) ⟨hsz, by simp, [], by rw [upd_eq]; exact World.ownsRow_nil w 0 e sz, L2.nil _⟩ rfl rfl rfl (Nat.le_refl _) (fun _ _ _ => rfl) (fun g hg => by cases hg) (.inl hf.1.1)
    intro i c hi hc
    rw [hget_cons, if_neg (fun e => hi e.symm)] at hc
    exact ⟨hc, .inr (freshH_get hf.2 i c hc).2⟩
  · have h1 := ht.upd hf.1.1 hf.1.2 (.slice none 0 0)
    refine ⟨h1.size, h1.defers, fun u => ?_⟩
    rw [get_cons]
    split
    · rename_i e; subst e
      have h2 := ht.at_ t
      rw [hn] at h2
      have h3 : a.tmps.getD t undef = .slice none 0 0 := by
        generalize a.tmps.getD t undef = q at h2
        cases h2 with
        | base _ _ h0 => cases h0; rfl
      rw [h3]
      have h4 := VR.own (σ := σ) (ι := upd ι id (.slice none 0 0)) id (by rw [upd_eq]; rfl)
      rwa [upd_eq] at h4
    · exact h1.at_ u
def hdel (id : Nat) : Heap → Heap
  | [] => []
  | (i, c) :: r => bif Nat.beq i id then hdel id r else (i, c) :: hdel id r
theorem hget_hdel (id : Nat) : ∀ (h : Heap) (i : Nat), hget (hdel id h) i = if i = id then none else hget h i
  | [], i => by simp [hdel, hget]
  | (j, c) :: r, i => by
    rw [hdel]
    by_cases hj : j = id
    · subst hj
      rw [show Nat.beq j j = true by simp, cond_true, hget_hdel, hget_cons]
      by_cases hi : i = j
      · simp [hi]
      · rw [if_neg hi, if_neg hi, if_neg (fun e => hi e.symm)]
    · rw [show Nat.beq j id = false from Bool.eq_false_iff.2 fun e => hj (Nat.eq_of_beq_eq_true e), cond_false, hget_cons, hget_cons, hget_hdel]
      by_cases hi : j = i
      · subst hi; simp [hj]
      · simp [hi]
/-- What is known once a block is let go. -/
def sigRow (σ : Sig) (w : World) (g k : Nat) : Sig := fun a => if a.block = g ∧ a.spot = none ∧ a.off < k then w.cell? a else σ a
theorem Rel.letGo {E : Env} {σ : Sig} {ι : Nat → Value} {w : World} (hr : Rel E σ ι h w) {id g : Nat} {c : Chunk} (hg : hget h id = some c) (hf : footOf (ι id) = some g) (h10 : 10 ≤ id) (k : Nat) :
    Sig.le σ (sigRow σ w g k) ∧ Rel E (sigRow σ w g k) ι (hdel id h) w := by
  have hge : E.w.heap.size ≤ g := by
    rcases (hr.foot id c hg g hf).1 with h1 | h1
    · have := hr.low _ h1; simp only at this; omega
    · exact h1
  have hnone := (hr.foot id c hg g hf).2
  have hle : Sig.le σ (sigRow σ w g k) := fun a v ha => by
    unfold sigRow
    split
    · exact hr.sub a v ha
    · exact ha
  refine ⟨hle, ⟨hr.os, hr.tape, hr.output, hr.size, hr.old, ?_, ?_, ?_, ?_, ?_, hr.pin, hr.low, fun p hp => ⟨(hr.xo p hp).1, (hr.xo p hp).2.1, fun i d hd => by
    rw [hget_hdel] at hd
    split at hd
    · cases hd
    · exact (hr.xo p hp).2.2 i d hd⟩⟩⟩
  · intro a ha
    unfold sigRow; rw [if_neg (fun e => by omega)]; exact hr.sigOld a ha
  · intro a v ha
    unfold sigRow at ha
    split at ha
    · exact ha
    · exact hr.sub a v ha
  · intro i d hd
    rw [hget_hdel] at hd
    split at hd
    · cases hd
    · exact (hr.ch i d hd).keep hle fun _ _ => rfl
  · intro i d hd g' hg'
    rw [hget_hdel] at hd
    split at hd
    · cases hd
    · rename_i hne
      obtain ⟨h1, h2⟩ := hr.foot i d hd g' hg'
      refine ⟨h1, fun o => ?_⟩
      unfold sigRow
      rw [if_neg (fun e => hne (hr.dj i id d c hd hg g' hg' (by rw [hf]; exact congrArg some e.1.symm)))]
      exact h2 o
  · intro i j c' d' hc hd
    rw [hget_hdel] at hc hd
    split at hc
    · cases hc
    · split at hd
      · cases hd
      · exact hr.dj i j c' d' hc hd
/-- A row of the call's own that is turned no more. -/
theorem turn_freeze {t id sz : Nat} {e : TypeId} {xs : List (List AV)} (hs : get s t = .own id) (hg : hget h id = some (.row e sz xs)) (h10 : Nat.ble 10 id = true) : Turns n s h ((t, .lst sz xs) :: s) (hdel id h) := by
  intro E σ ι a w hr ht
  have h10' : 10 ≤ id := Nat.ble_eq ▸ h10
  obtain ⟨hsz0, hsz, vs, hown, hL⟩ := hr.ch id _ hg
  have hv := ht.at_ t
  rw [hs] at hv
  have hv := hv.own_inv
  rcases hown.2 with ⟨h1, h2⟩ | ⟨g, cap, cur, h1, _, h2, h3, h4, h5, h6⟩
  · have hnil : xs = [] := List.eq_nil_of_length_eq_zero h2
    subst hnil
    refine ⟨σ, ι, hr.le fun i c hc => ?_, ⟨ht.size, ht.defers, fun u => ?_⟩⟩
    · rw [hget_hdel] at hc
      split at hc
      · cases hc
      · exact hc
    · rw [get_cons]; split
      · rename_i e; subst e
        rw [hv, h1]; exact .base _ _ (.empty _ _ _ (by simp))
      · exact ht.at_ u
  · obtain ⟨h7, h8⟩ := hr.letGo hg (g := g) (by rw [h1]; rfl) h10' (xs.length * sz)
    refine ⟨_, ι, h8, ⟨ht.size, ht.defers, fun u => ?_⟩⟩
    rw [get_cons]; split
    · rename_i e; subst e
      rw [hv, h1]
      have hfl := flatten_length hsz
      refine .base _ _ (.lst _ _ _ 0 _ (fun j => (vs[j]?).getD undef) h3 h4 hsz (fun j c hc => ?_) fun j c hc => ?_)
      · obtain ⟨u, hu, _⟩ := hL.get hc
        have hj : j < xs.length * sz := by rw [← hfl]; exact (List.getElem?_eq_some_iff.1 hc).1
        unfold sigRow
        rw [if_pos ⟨rfl, rfl, by simpa using hj⟩]
        rw [hu]
        rw [← h6, List.getElem?_take] at hu
        rw [if_pos hj] at hu
        simp only [World.cell?, h2, Option.isSome_none, Bool.false_eq_true, if_false, Nat.zero_add, Option.getD_some]
        rw [← Array.getElem?_toList]; exact hu
      · obtain ⟨u, hu, hR⟩ := hL.get hc
        rw [hu]; exact hR.mono h7
    · exact (ht.at_ u).mono h7
/-- A variable of the call's own that is turned no more. -/
theorem turn_freezeB {t id off : Nat} {ty : TypeId} {cs : List AV} (hs : get s t = .ptr id off) (hg : hget h id = some (.blk ty cs)) (h10 : Nat.ble 10 id = true) (hp : pureL cs = true) : Turns n s h ((t, .ref (cs.drop off)) :: s) (hdel id h) := by
  intro E σ ι a w hr ht
  have h10' : 10 ≤ id := Nat.ble_eq ▸ h10
  obtain ⟨g, cur, h1, h2, h3⟩ := hr.ch id _ hg
  obtain ⟨h7, h8⟩ := hr.letGo hg (g := g) (by rw [h1]; rfl) h10' cs.length
  refine ⟨_, ι, h8, ⟨ht.size, ht.defers, fun u => ?_⟩⟩
  rw [get_cons]; split
  · rename_i e; subst e
    have hv := ht.at_ t
    rw [hs] at hv
    obtain ⟨g', h4, h5⟩ := hv.ptr_inv
    rw [h1] at h4
    simp only [footOf, Option.some.injEq] at h4
    subst h4
    rw [h5]
    have hL := (l2_pure h3 hp).drop off
    refine .base _ _ (.ref _ _ _ (fun j => ((cur.toList.drop off)[j]?).getD undef) (fun j c hc => ?_) fun j c hc => ?_)
    · obtain ⟨u, hu, _⟩ := hL.get hc
      have hj : off + j < cs.length := by have := (List.getElem?_eq_some_iff.1 hc).1; simp at this; omega
      unfold sigRow
      rw [if_pos ⟨rfl, rfl, hj⟩, hu]
      simp only [World.cell?, h2, Option.isSome_none, Bool.false_eq_true, if_false, Option.getD_some]
      rw [← Array.getElem?_toList]; simpa using hu
    · obtain ⟨u, hu, hR⟩ := hL.get hc
      rw [hu]; exact hR.mono h7
  · exact (ht.at_ u).mono h7
/-- make -/
theorem a1_make {α : Type} {f : α → List AV} {d : α} {t e : TypeId} {x y : Operand} {sz by_ m : Nat} {k k' : IntKind} (ho : o.op = .makeSlice t x y) (id : Nat) (ht : sliceE P t = some e) (hz : sizeQ P e sz = true) {z0 : List AV} (h0 : zeroA P e = some z0) (hz0 : z0 = f d) (hzl : z0.length = sz) (hsz : 0 < sz) (hby : bytesQ P e by_ = true)
    (hx : evA s x = .int k m) (hy : evA s y = .int k' m) (hb : m * by_ ≤ 140737488355328) (hm : m ≤ 9223372036854775807) (hco : constsOk o = true) (hd : dstOk n o.dst = true) (hf : freshAll id s h = true)
    (hk : AOps P n ops Q rest (putS s o.dst (.own id)) ((id, .row e sz ((List.replicate m d).map f)) :: h)) : A1 P n ops Q o rest s h := fun E σ ι a w hr ht' => by
  simp only [freshAll, Bool.and_eq_true, Nat.ble_eq] at hf
  have hX : VR σ ι (evA s x) (a.eval x) := evA_sound (List.all_eq_true.1 hco x (by rw [ho]; simp [Op.operands])) fun t _ => ht'.at_ t
  have hY : VR σ ι (evA s y) (a.eval y) := evA_sound (List.all_eq_true.1 hco y (by rw [ho]; simp [Op.operands])) fun t _ => ht'.at_ t
  rw [hx] at hX
  rw [hy] at hY
  obtain ⟨zi, z, hzi, hzz, hzL⟩ := zeroA_spec h0
  have hisz : zi.size = sz := by unfold sizeQ at hz; rw [hzi] at hz; exact Nat.eq_of_beq_eq_true hz
  have hiby : zi.bytes = by_ := by unfold bytesQ at hby; rw [hzi] at hby; exact Nat.eq_of_beq_eq_true hby
  have hzs : z.cells.size = sz := by rw [← Array.length_toList, ← (hzL σ).1, hzl]
  obtain ⟨w', h1, h2, h3⟩ := run_make_full (P := P) w 0 t e zi z sz (sliceE_spec ht) hzi hzz hisz k k' m (by rw [hiby, Nat.mul_comm]; omega) (by simp only [maxLen]; omega) (Nat.zero_le _)
  unfold Oper.wp
  have hrun : (execOp a.eval o).run P w = .ok (.value (.slice (some ⟨w.heap.size, 0, none⟩) m m)) w' := by
    simp only [execOp, ho, hX.int_inv.1, hY.int_inv.1, Sem.run_bind, Sem.run_pure, h1, Result.andThen_ok]
  rw [hrun]
  have hL : L2 (VR0 σ) ((List.replicate m d).map f).flatten (madeCells z.cells (m * sz)).toList := by
    have hlen : ((List.replicate m d).map f).flatten.length = m * sz := by
      rw [flatten_length (sz := sz)]
      · simp
      · intro c hc
        obtain ⟨q, hq, rfl⟩ := List.mem_map.1 hc
        rw [List.eq_of_mem_replicate hq, ← hz0]; exact hzl
    refine ⟨by rw [hlen, Array.length_toList, size_madeCells], fun j c u hc hu => ?_⟩
    have hj : j < m * sz := by rw [← hlen]; exact (List.getElem?_eq_some_iff.1 hc).1
    have hjs : j % sz < sz := Nat.mod_lt _ hsz
    have hjm : j / sz < m := Nat.div_lt_of_lt_mul (by rw [Nat.mul_comm]; exact hj)
    have hc2 : ((List.replicate m d).map f).flatten[j]? = some (z0[j % sz]'(by omega)) := by
      have := flatten_get (sz := sz) (xs := (List.replicate m d).map f) (i := j / sz) (j := j % sz) (c := z0) (x := z0[j % sz]'(by omega)) (fun c hc => by
        obtain ⟨q, hq, rfl⟩ := List.mem_map.1 hc
        rw [List.eq_of_mem_replicate hq, ← hz0]; exact hzl) (by simp [hjm, hz0]) (List.getElem?_eq_getElem _)
      rwa [Nat.mul_comm, Nat.div_add_mod] at this
    rw [hc2] at hc
    cases hc
    have hu2 : (z.cells.toList)[j % sz]? = some u := by
      rw [Array.getElem?_toList] at hu
      simp only [madeCells, Array.getElem?_map, Array.getElem?_range, hj, if_true, Option.map_some, Option.some.injEq, hzs] at hu
      rw [Array.getElem?_toList, ← hu]
      have : j % sz < z.cells.size := by omega
      simp [this]
    exact (hzL σ).2 _ _ u (List.getElem?_eq_getElem _) hu2
  have hnew := hr.turn (id := id) (u := .slice (some ⟨w.heap.size, 0, none⟩) m m) (h' := (id, .row e sz ((List.replicate m d).map f)) :: h) (c' := .row e sz ((List.replicate m d).map f)) (w' := w')
    (fun i c hi hc => by
      rw [hget_cons, if_neg (fun e => hi e.symm)] at hc
      exact ⟨hc, .inr (freshH_get hf.2 i c hc).2⟩)
    (by rw [hget_cons, if_pos rfl])
    ⟨hsz, fun c hc => by
      obtain ⟨q, hq, rfl⟩ := List.mem_map.1 hc
      rw [List.eq_of_mem_replicate hq, ← hz0]; exact hzl, _, by rw [upd_eq, List.length_map, List.length_replicate]; exact h2, hL⟩
    h3.os h3.tape h3.output h3.size (fun k hk _ => h3.block k hk (by simp)) (fun g hv => by cases hv; exact .inr (Nat.le_refl _)) (.inl hf.1.1)
  refine hk E σ _ _ _ hnew ((ht'.upd hf.1.1 hf.1.2 _).putS hd ?_)
  have h5 := VR.own (σ := σ) (ι := upd ι id (.slice (some ⟨w.heap.size, 0, none⟩) m m)) id (by rw [upd_eq]; rfl)
  rwa [upd_eq] at h5
end
end Go.Proofs.Ytfjoaeghnfkdlaa
