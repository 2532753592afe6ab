/- Loops over a function, anywhere in a text: what they have put off stands in the environment. No condition. -/
import Derived.Test.YtfjoaeghnfkdlaaAvGl
namespace Go.Proofs.Ytfjoaeghnfkdlaa
set_option linter.unusedSimpArgs false
set_option linter.unusedVariables false
set_option maxRecDepth 100000
set_option linter.unusedVariables false
set_option linter.unusedSimpArgs false
open Go.RowKit
section
variable {P : Program} {k : Nat} {Q : Exit → Slots → Heap → Prop} {s : Slots} {h : Heap}
def mX (Ds : List Nat) : List (Nat × Obj) := Ds.map fun D => (D, .deferred (some []))
theorem Rel.allocAny {E : Env} {σ : Sig} {ι : Nat → Value} {w : World} (hr : Rel E σ ι h w) (ob : Obj) : Rel E σ ι h (w.alloc ob) := by
  have hkeep : ∀ g, g < w.heap.size → (w.alloc ob).heap[g]? = w.heap[g]? := fun g hg => Below.heap_alloc _ _ _ hg
  have hs := hr.size
  refine ⟨hr.os, hr.tape, hr.output, by simp; omega, fun b hb hm => (hkeep b (by omega)).trans (hr.old b hb hm), hr.sigOld, fun a v ha => Ext_alloc w ob a v (hr.sub a v ha), fun i c hc => (hr.ch i c hc).keep (Sig.le.refl σ) fun g hg => hkeep g (hr.foot_lt hc hg), hr.foot, hr.dj, hr.pin, hr.low, fun p hp => ?_⟩
  obtain ⟨h1, h2, h3⟩ := hr.xo p hp
  exact ⟨h1, (hkeep p.1 (Array.getElem?_eq_some_iff.1 h2).1).trans h2, h3⟩
theorem Rel.xnew {E : Env} {σ : Sig} {ι : Nat → Value} {w : World} {Ds : List Nat} (hr : Rel { E with xold := mX Ds } σ ι h w) :
    Rel { E with xold := mX (w.heap.size :: Ds) } σ ι h (w.alloc (.deferred (some []))) := by
  have h1 := hr.allocAny (.deferred (some []))
  refine ⟨h1.os, h1.tape, h1.output, h1.size, h1.old, h1.sigOld, h1.sub, h1.ch, h1.foot, h1.dj, h1.pin, h1.low, fun p hp => ?_⟩
  rcases List.mem_cons.1 hp with rfl | hp
  · exact ⟨hr.size, heap_alloc_new w _, fun i c hc e => Nat.lt_irrefl _ (hr.foot_lt hc e)⟩
  · exact h1.xo p hp
theorem Rel.xlt {E : Env} {σ : Sig} {ι : Nat → Value} {w : World} {Ds : List Nat} (hr : Rel { E with xold := mX Ds } σ ι h w) : w.heap.size ∉ Ds := fun hm => by
  have := (hr.xo (w.heap.size, .deferred (some [])) (List.mem_map.2 ⟨_, hm, rfl⟩)).2.1
  have := (Array.getElem?_eq_some_iff.1 this).1
  omega
theorem Rel.xput {E : Env} {σ : Sig} {ι : Nat → Value} {w : World} {D : Nat} {Ds : List Nat} (hr : Rel { E with xold := mX (D :: Ds) } σ ι h w) (hD : D ∉ Ds) (ob : Obj) :
    Rel { E with xold := mX Ds } σ ι h (w.putObj D ob) := by
  obtain ⟨h1, h2, h3⟩ := hr.xo (D, .deferred (some [])) (by simp [mX])
  simp only at h1 h2 h3
  have hkeep : ∀ g, g ≠ D → (w.putObj D ob).heap[g]? = w.heap[g]? := fun g hg => World.putObj_heap_other hg
  refine ⟨hr.os, hr.tape, hr.output, by have := hr.size; simpa using this, fun b hb hm => (hkeep b (fun e => Nat.lt_irrefl _ (Nat.lt_of_lt_of_le (e ▸ hb) h1))).trans (hr.old b hb hm), hr.sigOld, fun a v ha => ?_, fun i c hc => (hr.ch i c hc).keep (Sig.le.refl σ) fun g hg => hkeep g fun e => h3 i c hc (by rw [hg, e]), hr.foot, hr.dj, hr.pin, hr.low, fun p hp => ?_⟩
  · have hs := hr.sub a v ha
    rw [World.cell?_of_block (hkeep a.block fun e => ?_)]
    · exact hs
    · unfold World.cell? at hs
      rw [e, h2] at hs
      simp at hs
  · obtain ⟨D', hD', rfl⟩ := List.mem_map.1 hp
    obtain ⟨h4, h5, h6⟩ := hr.xo (D', .deferred (some [])) (List.mem_map.2 ⟨D', List.mem_cons_of_mem _ hD', rfl⟩)
    exact ⟨h4, (hkeep D' fun e => hD (e ▸ hD')).trans h5, h6⟩
/-- A walk in which loops over functions put off what they leave. -/
structure M (P : Program) (k : Nat) (c : Code) (Q : Exit → Slots → Heap → Prop) (s : Slots) (h : Heap) : Prop where
  out : ∀ (E : Env) (σ : Sig) (ι : Nat → Value) (a : Act) (w : World) (Ds : List Nat), Ds.Nodup → Rel { E with xold := mX Ds } σ ι h w → TR { n := k, ds := Ds.map mark } σ ι s a →
    c.wpIn (wideR none) 0 P (fun e a' w' => ∃ Ds' s' h' σ' ι', Ds'.Nodup ∧ Q e s' h' ∧ Rel { E with xold := mX Ds' } σ' ι' h' w' ∧ TR { n := k, ds := Ds'.map mark } σ' ι' s' a') a w
theorem m_w {c : Code} (hw : ∀ ds, W P { n := k, ds := ds } c Q s h) : M P k c Q s h :=
  ⟨fun E σ ι a w Ds hn hr ht => Go.wpIn_mono ((hw (Ds.map mark)).out _ σ ι a w hr ht) (fun e a' w' ⟨s', h', σ', ι', q, r, t⟩ => ⟨Ds, s', h', σ', ι', hn, q, r, t⟩)⟩
theorem mregion {id : Nat} {l : Array Oper} {b : Bool} (hw : ∀ ds, W P { n := k, ds := ds } (.region id l b) Q s h) : M P k (.region id l b) Q s h := m_w hw
theorem mskip (hq : Q .normal s h) : M P k .skip Q s h := m_w fun _ => wskip hq
theorem mret (hq : Q .ret s h) : M P k .ret Q s h := m_w fun _ => wret hq
theorem mexit {id : Nat} (hq : Q (.exit id) s h) : M P k (.exit id) Q s h := m_w fun _ => wexit hq
theorem mseq {x y : Code} (hx : M P k x (BThen (fun s h => M P k y Q s h) Q) s h) : M P k (.seq x y) Q s h := ⟨fun E σ ι a w Ds hn hr ht => by
  refine wpIn_seq (Go.wpIn_mono (hx.out E σ ι a w Ds hn hr ht) ?_)
  rintro e a w ⟨Ds', s', h', σ', ι', hn', q, r, t⟩
  have q := q.out
  cases e with
  | normal => exact q.out E σ' ι' a w Ds' hn' r t
  | _ => exact ⟨Ds', s', h', σ', ι', hn', q, r, t⟩⟩
theorem mblock {id : Nat} {c : Code} (hc : M P k c (BIn id Q) s h) : M P k (.block id c) Q s h := ⟨fun E σ ι a w Ds hn hr ht => by
  refine wpIn_block (Go.wpIn_mono (hc.out E σ ι a w Ds hn hr ht) ?_)
  rintro e a w ⟨Ds', s', h', σ', ι', hn', q, r, t⟩
  have q := q.out
  cases e with
  | exit id' =>
    simp only [AIn] at q
    simp only [Exit.inBlock]
    by_cases hid : id' = id
    · rw [if_pos hid]; exact ⟨Ds', s', h', σ', ι', hn', by simpa [hid] using q, r, t⟩
    · rw [if_neg hid]
      have : Nat.beq id' id = false := Bool.eq_false_iff.2 fun e => hid (Nat.eq_of_beq_eq_true e)
      rw [this] at q
      exact ⟨Ds', s', h', σ', ι', hn', q, r, t⟩
  | _ => exact ⟨Ds', s', h', σ', ι', hn', q, r, t⟩⟩
theorem mle {c : Code} {s' : Slots} {h' : Heap} (hs : LeS s s') (hh : LeH h h') (hc : M P k c Q s' h') : M P k c Q s h := ⟨fun E σ ι a w Ds hn hr ht => hc.out E σ ι a w Ds hn (hr.le hh) (ht.le hs)⟩
theorem mturn {c : Code} {s' : Slots} {h' : Heap} (ht : ∀ n, Turns n s h s' h') (hc : M P k c Q s' h') : M P k c Q s h := ⟨fun E σ ι a w Ds hn hr t =>
  let ⟨σ1, ι1, hr1, ht1⟩ := ht _ _ σ ι a w hr t
  hc.out E σ1 ι1 a w Ds hn hr1 ht1⟩
theorem mcond {c : Operand} {x y : Code} {b : Bool} (hk : cOk c = true) (hc : evA s c = .bool b) (hx : b = true → M P k x Q s h) (hy : b = false → M P k y Q s h) : M P k (.cond c x y) Q s h := ⟨fun E σ ι a w Ds hn hr ht => by
  have hv : VR σ ι (evA s c) (a.eval c) := evA_sound hk (fun t _ => ht.at_ t)
  rw [hc] at hv
  refine wpIn_cond hv.bool_inv ?_
  cases b
  · exact (hy rfl).out E σ ι a w Ds hn hr ht
  · exact (hx rfl).out E σ ι a w Ds hn hr ht⟩
theorem mcondT {c : Operand} {x y : Code} (hk : cOk c = true) (hc : evA s c = .bool true) (hx : M P k x Q s h) : M P k (.cond c x y) Q s h := mcond hk hc (fun _ => hx) fun e => by cases e
theorem mcondF {c : Operand} {x y : Code} (hk : cOk c = true) (hc : evA s c = .bool false) (hy : M P k y Q s h) : M P k (.cond c x y) Q s h := mcond hk hc (fun e => by cases e) fun _ => hy
theorem mmid {α : Type} {x y : Code} (st : α → Slots × Heap) (hx : M P k x (BThen (fun s' h' => ∃ a, LeS s' (st a).1 ∧ LeH h' (st a).2) Q) s h) (hy : ∀ a, M P k y Q (st a).1 (st a).2) : M P k (.seq x y) Q s h :=
  mseq ⟨fun E σ ι a w Ds hn hr ht => Go.wpIn_mono (hx.out E σ ι a w Ds hn hr ht) (by
    rintro e a' w' ⟨Ds', s', h', σ', ι', hn', q, r, t⟩
    refine ⟨Ds', s', h', σ', ι', hn', ⟨?_⟩, r, t⟩
    have q := q.out
    cases e with
    | normal => obtain ⟨a, h2, h3⟩ := q; exact mle h2 h3 (hy a)
    | _ => exact q)⟩
theorem mloop {α : Type} {c : Code} (st : α → Slots × Heap) (inv : α → Prop) (μ : α → Nat) (x0 : α) (h0 : inv x0) (hs : LeS s (st x0).1) (hh : LeH h (st x0).2)
    (round : ∀ x, inv x → M P k c (BThen (fun s' h' => ∃ x', inv x' ∧ μ x' < μ x ∧ LeS s' (st x').1 ∧ LeH h' (st x').2) Q) (st x).1 (st x).2) : M P k (.loop c) Q s h := ⟨fun E σ ι a w Ds hn hr ht => by
  refine Go.wpIn_loop_ghost (fun m a w => ∃ x σ ι Ds, inv x ∧ μ x = m ∧ Ds.Nodup ∧ Rel { E with xold := mX Ds } σ ι (st x).2 w ∧ TR { n := k, ds := Ds.map mark } σ ι (st x).1 a) (μ x0) ⟨x0, σ, ι, Ds, h0, rfl, hn, hr.le hh, ht.le hs⟩ ?_
  rintro m a w ⟨x, σ, ι, Ds, hi, rfl, hn, hr, ht⟩
  refine Go.wpIn_mono ((round x hi).out E σ ι a w Ds hn hr ht) ?_
  rintro e a' w' ⟨Ds', s', h', σ', ι', hn', q, r, t⟩
  have q := q.out
  cases e with
  | normal =>
    obtain ⟨x', hi', hlt, hs', hh'⟩ := q
    exact ⟨μ x', hlt, x', σ', ι', Ds', hi', rfl, hn', r.le hh', t.le hs'⟩
  | _ => exact ⟨Ds', s', h', σ', ι', hn', q, r, t⟩⟩
def heldM (idK idL l : Nat) (r : Loop) (σ0 : Sig) (h : Heap) : Heap := (idK, .sem (knowC σ0)) :: (idL, .sem (objC l (.loop r))) :: h
theorem mrange (ρ : Nat → Nat) {g : Operand} {ps : Array Tmp} {assign body : Code} {f : FuncId} {caps caps0 : List AV} {s0 : Slots} {hin0 : Heap} (idL idK : Nat) {R : Nat → Loop → AV → Heap → Prop}
    (hg : evA s g = .fn (.func f) [] caps) (hcg : cOk g = true) (hcaps : caps = renL ρ caps0)
    (hfL : freshAll idL s h = true) (hfK : ∀ l r, freshAll idK s ((idL, .sem (objC l (.loop r))) :: h) = true)
    (hsub : ∀ l r σ0, LeH (heldM idK idL l r σ0 h) (renH ρ (lentH l r σ0 hin0))) (hlow : lowQ (8 :: 9 :: hids hin0) = true) (hinj : injQ ρ (8 :: 9 :: hids hin0) = true) (hrow : (rowsR ρ (8 :: 9 :: hids hin0)).all (Nat.ble 5) = true)
    (hlone : ∀ l r σ0, loneL (rowsR ρ (8 :: 9 :: hids hin0)) (hdelL ((8 :: 9 :: hids hin0).map ρ) (heldM idK idL l r σ0 h)) = true) (hs0 : LeS s (renS ρ s0)) (hcl : closedS ((hids hin0).filter (Nat.blt · 5)) s0 = true)
    (hit : ∀ (l : Nat) (r : Loop) (σ0 : Sig) (pins : List (Nat × Value)), r.state = .ready → r.pending = none → r.params = ps → r.assign = assign → r.body = body → r.tmps.size = k → SlotsOk σ0 pins s0 r.tmps → (∀ p ∈ pins, p.1 < 5) →
      FnHp P pins f (.fn (.yield l) [] [] :: caps0) (lentH l r σ0 hin0) (R l r))
    (hk : ∀ (l : Nat) (r : Loop) (σ0 : Sig) v h', R l r v h' → closedH (8 :: 9 :: hids hin0) h' = true ∧ ∃ r', hget h' 8 = some (.sem (objC l (.loop r'))) ∧ r'.state ≠ .busy ∧
      (r'.pending = none → Q .normal (killL (rowsR ρ (8 :: 9 :: hids hin0)) s) ((idL, .sem (objC l (.loop { r' with state := .exhausted }))) :: (renH ρ h' ++ hdelL ((8 :: 9 :: hids hin0).map ρ) (heldM idK idL l r σ0 h)))) ∧
      ∀ c, r'.pending = some c → M P k c Q (killL (rowsR ρ (8 :: 9 :: hids hin0)) s) ((idL, .sem (objC l (.loop { r' with state := .exhausted }))) :: (renH ρ h' ++ hdelL ((8 :: 9 :: hids hin0).map ρ) (heldM idK idL l r σ0 h))))
    (h8 : ρ 8 = idL) : M P k (.rangeFunc g ps assign body) Q s h := ⟨fun E σ ι a w Ds hn hr ht => by
  have hv := evA_sound (σ := σ) (ι := ι) (a := a) (s := s) (x := g) hcg fun t _ => ht.at_ t
  rw [hg] at hv
  obtain ⟨us, cv, h1, h2, h3⟩ := hv.fn_inv
  rw [L2.nil_iff] at h2
  subst h2
  refine wpIn_rangeFunc ?_
  intro fn _
  obtain ⟨r, hrr⟩ : ∃ r : Loop, r = { state := .ready, pending := none, fn, tmps := a.tmps, params := ps, assign, body, defers := w.heap.size } := ⟨_, rfl⟩
  obtain ⟨W1, hW1⟩ : ∃ W1, W1 = (w.alloc (.deferred (some []))).alloc (.loop r) := ⟨_, rfl⟩
  have hfL' := hfL
  simp only [freshAll, Bool.and_eq_true, Nat.ble_eq] at hfL'
  have hfK' := hfK (w.heap.size + 1) r
  simp only [freshAll, Bool.and_eq_true, Nat.ble_eq] at hfK'
  have hnD := hr.xlt
  have r1 := hr.xnew
  have r2 := r1.objNew idL (.loop r) hfL'.2 hfL'.1.1
  rw [show (w.alloc (.deferred (some []))).heap.size = w.heap.size + 1 by simp, ← hW1] at r2
  have r3 := r2.knowNew idK hfK'.2 hfK'.1.1
  have t2 := ht.upd hfL'.1.1 hfL'.1.2 (.map (some (w.heap.size + 1)))
  have t3 := t2.upd hfK'.1.1 hfK'.1.2 .nilFunc
  obtain ⟨ι3, hι3⟩ : ∃ ι3, ι3 = upd (upd ι idL (.map (some (w.heap.size + 1)))) idK .nilFunc := ⟨_, rfl⟩
  rw [← hι3] at r3 t3
  obtain ⟨may, pin, hr1, back⟩ := r3.lend ρ (hin := lentH (w.heap.size + 1) r σ hin0) (hsub _ _ _) hlow hinj hrow (hlone _ _ _)
  obtain ⟨pins, hpins⟩ : ∃ pins, pins = ((hids hin0).filter (Nat.blt · 5)).map fun i => (i, ι3 (ρ i)) := ⟨_, rfl⟩
  have hp5 : ∀ p ∈ pins, p.1 < 5 := fun p hp => by
    rw [hpins] at hp
    obtain ⟨i, hi, rfl⟩ := List.mem_map.1 hp
    have := (List.mem_filter.1 hi).2
    simpa [Nat.blt_eq] using this
  have hpin : Pinned pins (fun i => ι3 (ρ i)) := fun p hp => ⟨hp5 p hp, by
    rw [hpins] at hp
    obtain ⟨i, hi, rfl⟩ := List.mem_map.1 hp
    rfl⟩
  have hslots : SlotsOk σ pins s0 r.tmps := fun σ' ι' hle hpi t => by
    have e1 := (t3.le hs0).at_ t
    rw [get_renS] at e1
    have e2 := (e1.unren _ rfl).mono hle
    have e3 : r.tmps = a.tmps := by rw [hrr]
    rw [e3]
    refine e2.agree (ids := (hids hin0).filter (Nat.blt · 5)) (fun i hi => ?_) (closedS_get hcl t)
    have := (hpi (i, ι3 (ρ i)) (by rw [hpins]; exact List.mem_map.2 ⟨i, hi, rfl⟩)).2
    exact this.symm
  obtain ⟨he, hit⟩ := hit (w.heap.size + 1) r σ pins (by rw [hrr]) (by rw [hrr]) (by rw [hrr]) (by rw [hrr]) (by rw [hrr]) (by rw [hrr]; exact ht.size) hslots hp5
  have hyv : VR σ (fun i => ι3 (ρ i)) (.fn (.yield (w.heap.size + 1)) [] []) (.func (.yield (w.heap.size + 1)) #[] #[]) := .base _ _ (.fn _ [] [] [] [] rfl (fun j c v hc => by simp at hc) rfl (fun j c v hc => by simp at hc))
  have hv3 := evA_sound (σ := σ) (ι := ι3) (a := a) (s := s) (x := g) hcg fun t _ => t3.at_ t
  rw [hg] at hv3
  obtain ⟨us3, cv3, k1, k2, k3⟩ := hv3.fn_inv
  rw [L2.nil_iff] at k2
  subst k2
  have ecv : cv3 = cv := by
    rw [h1] at k1
    injection k1 with _ _ q
    exact (List.toArray_inj q).symm
  subst ecv
  have hcv : L2 (VR σ (fun i => ι3 (ρ i))) caps0 cv3 := by
    refine ⟨by rw [← renL_length ρ caps0, ← hcaps]; exact k3.1, fun j c v hc hv => ?_⟩
    refine (k3.2 j (ren ρ c) v ?_ hv).unren c rfl
    rw [hcaps, renL_get, hc]; rfl
  have hcall := hit may pin σ _ W1 ([.func (.yield (w.heap.size + 1)) #[] #[]] ++ cv3) hr1 hpin (hcv.cons hyv)
  refine ⟨w.heap.size + 1, [mark w.heap.size], W1, { target := .fn (.func f) cv3.toArray, args := #[.func (.yield (w.heap.size + 1)) #[] #[]] }, W1, f,
    #[.func (.yield (w.heap.size + 1)) #[] #[]] ++ cv3.toArray, W1, ?_, ?_, ?_, ?_, fun hd => absurd hd (by simp [wideR, Fence.wide]), ?_⟩
  · rw [hW1, hrr]; exact run_enterLoop_outer _ _ _ _ _
  · simp only [resolve, rangeCall, h1]
    simp [go_sem]
  · intro f' _; trivial
  · simp [invoke, go_sem, he _]
  · have e : ([Value.func (.yield (w.heap.size + 1)) #[] #[]] ++ cv3).toArray = #[.func (.yield (w.heap.size + 1)) #[] #[]] ++ cv3.toArray := by apply Array.toList_inj.1; simp
    rw [e] at hcall
    refine (calls_R (ro := none) (m := 0 - 1) hcall).mono ?_
    rintro e w' ⟨u, v, h', σ', ι', rfl, g1, g2, g3⟩
    obtain ⟨c1, r', c2, c3, c4, c5⟩ := hk _ _ σ _ _ g1
    obtain ⟨ι4, b1, b2, b3, b4⟩ := back w' h' σ' ι' g3 c1
    have hget : hget (renH ρ h' ++ hdelL ((8 :: 9 :: hids hin0).map ρ) (heldM idK idL (w.heap.size + 1) r σ h)) idL = some (.sem (objC (w.heap.size + 1) (.loop r'))) := by
      rw [hget_append]
      have hmem : ∀ i ∈ hids h', i ∈ (8 :: 9 :: hids hin0) := closed_ids c1
      have hinj' : ∀ i ∈ (8 :: 9 :: hids hin0), ∀ j ∈ (8 :: 9 :: hids hin0), ρ i = ρ j → i = j := fun i hi j hj e => injQ_spec hinj hi hj e
      rw [← h8, hget_renH hmem hinj' 8 (by simp), c2]
      rfl
    obtain ⟨_, d2⟩ := b1.obj hget
    have b5 := b1.objTurn hget (.loop { r' with state := .exhausted })
    have t4 := b4 _ _ _ t3
    have t5 : TR { n := k, ds := (w.heap.size :: Ds).map mark } σ' ι4 (killL (rowsR ρ (8 :: 9 :: hids hin0)) s) { a with defers := [mark w.heap.size] ++ a.defers } :=
      ⟨t4.size, ⟨by show [mark w.heap.size] ++ a.defers = _; rw [t4.defers.1]; rfl, fun p hp => by cases hp⟩, t4.at_⟩
    have hn2 : (w.heap.size :: Ds).Nodup := List.nodup_cons.2 ⟨hnD, hn⟩
    refine ⟨r'.pending, _, run_endLoop d2 c3, ?_⟩
    have fin : ∀ pd, pd = r'.pending → (match pd with
        | none => (fun e a' w' => ∃ Ds' s' h' σ' ι', Ds'.Nodup ∧ Q e s' h' ∧ Rel { E with xold := mX Ds' } σ' ι' h' w' ∧ TR { n := k, ds := Ds'.map mark } σ' ι' s' a') .normal { a with defers := [mark w.heap.size] ++ a.defers } (w'.putObj (w.heap.size + 1) (.loop { r' with state := .exhausted }))
        | some c => c.wpIn (wideR none) 0 P (fun e a' w' => ∃ Ds' s' h' σ' ι', Ds'.Nodup ∧ Q e s' h' ∧ Rel { E with xold := mX Ds' } σ' ι' h' w' ∧ TR { n := k, ds := Ds'.map mark } σ' ι' s' a') { a with defers := [mark w.heap.size] ++ a.defers } (w'.putObj (w.heap.size + 1) (.loop { r' with state := .exhausted }))) := fun pd hpd => by
      cases pd with
      | none => exact ⟨_, _, _, _, _, hn2, c4 hpd.symm, b5, t5⟩
      | some c => exact (c5 c hpd.symm).out E σ' ι4 _ _ _ hn2 b5 t5
    exact fin _ rfl⟩
theorem leavesM {fn : Func} {E : Env} {σ : Sig} {ι : Nat → Value} {n : Md} {s : Slots} {a : Act} {h : Heap} {v : AV} {R : AV → Heap → Prop} (ht : TR n σ ι s a) (hres : resA P s h fn.results.toList = some v) (hR : R v h) :
    ∀ (Ds : List Nat) (w : World), Ds.Nodup → Rel { E with xold := mX Ds } σ ι h w →
      LeavesInM (wideR none) 0 P fn a.tmps (fun e w' => ∃ u r h' σ' ι', e = .returned u ∧ R r h' ∧ VR σ' ι' r u ∧ Rel { E with xold := [] } σ' ι' h' w') (Ds.map mark) .returning w
  | [], w, _, hr => by
    obtain ⟨u, h3, h4⟩ := resA_run (P := P) hr ht hres
    exact ⟨u, h3, u, v, h, σ, ι, rfl, hR, h4, hr⟩
  | D :: Ds, w, hn, hr => by
    rw [List.nodup_cons] at hn
    have e2 := (hr.xo (D, .deferred (some [])) (by simp [mX])).2.1
    exact ⟨by simp, .inl ⟨D, _, rfl, run_takeDeferred e2, leavesM ht hres hR Ds _ hn.2 (hr.xput hn.1 _)⟩⟩
theorem fn_of_M {fn : Func} {c : Code} {E : Env} {args : List AV} {vs : List Value} {σ : Sig} {ι : Nat → Value} {w : World} {f : FuncId} {R : AV → Heap → Prop} (hf : P.funcs[f]? = some fn) (hb : fn.body = some c) (hl : args.length ≤ fn.ntmps)
    (hwp : M P fn.ntmps c (RetQ P fn.results.toList R) (slots0 args 0) h) (hr : Rel { E with xold := [] } σ ι h w) (hv : L2 (VR σ ι) args vs) :
    Calls P f vs.toArray w (fun e w' => ∃ u r h' σ' ι', e = .returned u ∧ R r h' ∧ VR σ' ι' r u ∧ Rel { E with xold := [] } σ' ι' h' w') := by
  have t0 := start_TR hl hv
  have h0 := hwp.out E σ ι _ w [] (by simp) hr t0
  have h1 : CallsIn (wideR none) 0 P f vs.toArray w (fun e w' => ∃ u r h' σ' ι', e = .returned u ∧ R r h' ∧ VR σ' ι' r u ∧ Rel { E with xold := [] } σ' ι' h' w') := by
    refine callsIn_of_wp_marks hf hb trivial (Go.wpIn_mono h0 ?_) rfl
    rintro e a w' ⟨Ds, s', h', σ', ι', hn, q, r, t⟩
    have fin : (∃ v s'' h'', (∀ n, Turns n s' h' s'' h'') ∧ resA P s'' h'' fn.results.toList = some v ∧ R v h'') →
        LeavesInM (wideR none) 0 P fn a.tmps (fun e w' => ∃ u r h' σ' ι', e = .returned u ∧ R r h' ∧ VR σ' ι' r u ∧ Rel { E with xold := [] } σ' ι' h' w') a.defers .returning w' := fun ⟨v, s'', h'', q1, q7, q8⟩ => by
      obtain ⟨σ2, ι2, r2, t2⟩ := q1 _ _ σ' ι' a w' r t
      rw [t.defers.1]
      exact leavesM t2 q7 q8 Ds w' hn r2
    cases e with
    | ret => exact fin q
    | normal => exact fin q
    | _ => exact q.elim
  exact callsIn_wide.1 h1
theorem fnhm {f : FuncId} {fn : Func} {c : Code} {args : List AV} {hin : Heap} {R : AV → Heap → Prop} (hf : P.funcs[f]? = some fn) (he : Entered P f) (hb : fn.body = some c) (hl : Nat.ble args.length fn.ntmps = true)
    (hwp : M P fn.ntmps c (RetQ P fn.results.toList R) (slots0 args 0) hin) : FnH P f args hin R :=
  ⟨he, fun may pin σ ι w vs hr hv => fn_of_M (E := ⟨w, σ, may, pin, []⟩) hf hb (Nat.ble_eq ▸ hl) hwp hr hv⟩
theorem fnm {f : FuncId} {fn : Func} {c : Code} {args : List AV} {r : AV} (hf : P.funcs[f]? = some fn) (he : Entered P f) (hb : fn.body = some c) (hl : Nat.ble args.length fn.ntmps = true) (hp : pureA r = true)
    (hwp : M P fn.ntmps c (RetQ P fn.results.toList (fun v _ => v = r)) (slots0 args 0) []) : Fn P f args r := by
  refine ⟨he, fun σ ι w vs hsub hv => (fn_of_M (E := ⟨w, σ, [], [], []⟩) hf hb (Nat.ble_eq ▸ hl) hwp (Rel.start σ ι w hsub) hv).mono ?_⟩
  rintro e w' ⟨u, r', h', σ', ι', rfl, rfl, h2, h3⟩
  refine ⟨u, σ', rfl, h2.pure hp, ?_⟩
  exact ⟨h3.os, h3.tape, h3.output, h3.size, h3.old, h3.sigOld, h3.sub, fun i c hc => (by cases hc), fun i c hc => (by cases hc), fun i j c d hc => (by cases hc), fun p hp => (by cases hp), fun p hp => (by cases hp), fun p hp => (by cases hp)⟩
end
end Go.Proofs.Ytfjoaeghnfkdlaa
