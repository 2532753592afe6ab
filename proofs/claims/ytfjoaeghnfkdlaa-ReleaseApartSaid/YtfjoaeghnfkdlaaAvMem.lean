/- What makes memory, what turns it, and calls, over abstract values. No condition. -/
import Derived.Test.YtfjoaeghnfkdlaaAvOps
import Derived.OwnWalk
namespace Go.Proofs.Ytfjoaeghnfkdlaa
set_option linter.unusedSimpArgs false
set_option linter.unusedVariables false
set_option maxRecDepth 100000
set_option linter.unusedVariables false
set_option linter.unusedSimpArgs false
open Go.RowKit

mutual
/-- No block of the call's own is named. -/
def pureA : AV → Bool
  | .own _ | .ptr _ _ | .eptr _ _ _ _ => false
  | .agg cs => pureL cs
  | .tup cs => pureL cs
  | .fn _ xs ys => pureL xs && pureL ys
  | _ => true
def pureL : List AV → Bool
  | [] => true
  | x :: xs => pureA x && pureL xs
end
mutual
def hasId (id : Nat) : AV → Bool
  | .own i => Nat.beq i id
  | .ptr i _ => Nat.beq i id
  | .eptr i _ _ _ => Nat.beq i id
  | .agg cs => hasIdL id cs
  | .tup cs => hasIdL id cs
  | .fn _ xs ys => hasIdL id xs || hasIdL id ys
  | _ => false
def hasIdL (id : Nat) : List AV → Bool
  | [] => false
  | x :: xs => hasId id x || hasIdL id xs
end
theorem pureL_get : ∀ {cs : List AV}, pureL cs = true → ∀ (j : Nat) (c : AV), cs[j]? = some c → pureA c = true
  | [], _, j, c, h => by simp at h
  | x :: xs, hp, 0, c, h => by simp at h; subst h; simp only [pureL, Bool.and_eq_true] at hp; exact hp.1
  | x :: xs, hp, j + 1, c, h => by simp only [pureL, Bool.and_eq_true] at hp; exact pureL_get hp.2 j c (by simpa using h)
theorem hasIdL_get {id : Nat} : ∀ {cs : List AV}, hasIdL id cs = false → ∀ (j : Nat) (c : AV), cs[j]? = some c → hasId id c = false
  | [], _, j, c, h => by simp at h
  | x :: xs, hp, 0, c, h => by simp at h; subst h; simp only [hasIdL, Bool.or_eq_false_iff] at hp; exact hp.1
  | x :: xs, hp, j + 1, c, h => by simp only [hasIdL, Bool.or_eq_false_iff] at hp; exact hasIdL_get hp.2 j c (by simpa using h)
theorem VR.pure {σ : Sig} {ι : Nat → Value} {x : AV} {v : Value} (h : VR σ ι x v) : pureA x = true → VR0 σ x v := by
  induction h with
  | base x v h => exact fun _ => h
  | own id h1 => intro h; simp [pureA] at h
  | ptr id off g h => intro h; simp [pureA] at h
  | eptr id sz i j g h => intro h; simp [pureA] at h
  | agg cs vs h1 h2 ih => intro h; exact .agg cs vs h1 fun j c v hc hv => ih j c v hc hv (pureL_get (by simpa [pureA] using h) j c hc)
  | tup cs vs h1 h2 ih => intro h; exact .tup cs vs h1 fun j c v hc hv => ih j c v hc hv (pureL_get (by simpa [pureA] using h) j c hc)
  | fn f xs ys us vs h1 h2 h3 h4 ih1 ih2 =>
    intro h
    simp only [pureA, Bool.and_eq_true] at h
    exact .fn f xs ys us vs h1 (fun j c v hc hv => ih1 j c v hc hv (pureL_get h.1 j c hc)) h3 fun j c v hc hv => ih2 j c v hc hv (pureL_get h.2 j c hc)
def upd (ι : Nat → Value) (id : Nat) (u : Value) : Nat → Value := fun i => if i = id then u else ι i
theorem upd_ne {ι : Nat → Value} {id : Nat} {u : Value} {i : Nat} (h : i ≠ id) : upd ι id u i = ι i := by simp [upd, h]
theorem upd_eq (ι : Nat → Value) (id : Nat) (u : Value) : upd ι id u id = u := by simp [upd]
theorem VR.upd {σ : Sig} {ι : Nat → Value} {id : Nat} {u : Value} {x : AV} {v : Value} (h : VR σ ι x v) : hasId id x = false → VR σ (upd ι id u) x v := by
  have ne : ∀ {i : Nat}, Nat.beq i id = false → i ≠ id := fun hb e => by subst e; simp at hb
  induction h with
  | base x v h => exact fun _ => .base _ _ h
  | own i h1 =>
    intro h
    have h2 := VR.own (σ := σ) (ι := Ytfjoaeghnfkdlaa.upd ι id u) i (by rw [upd_ne (ne (by simpa [hasId] using h))]; exact h1)
    rwa [upd_ne (ne (by simpa [hasId] using h))] at h2
  | ptr i off g h => intro hb; exact .ptr i off g (by rw [upd_ne (ne (by simpa [hasId] using hb))]; exact h)
  | eptr i sz a b g h => intro hb; exact .eptr i sz a b g (by rw [upd_ne (ne (by simpa [hasId] using hb))]; exact h)
  | agg cs vs h1 h2 ih => intro h; exact .agg cs vs h1 fun j c v hc hv => ih j c v hc hv (hasIdL_get (by simpa [hasId] using h) j c hc)
  | tup cs vs h1 h2 ih => intro h; exact .tup cs vs h1 fun j c v hc hv => ih j c v hc hv (hasIdL_get (by simpa [hasId] using h) j c hc)
  | fn f xs ys us vs h1 h2 h3 h4 ih1 ih2 =>
    intro h
    simp only [hasId, Bool.or_eq_false_iff] at h
    exact .fn f xs ys us vs h1 (fun j c v hc hv => ih1 j c v hc hv (hasIdL_get h.1 j c hc)) h3 fun j c v hc hv => ih2 j c v hc hv (hasIdL_get h.2 j c hc)
/-- An id that neither a slot nor a block names. -/
def freshS (id : Nat) : Slots → Bool
  | [] => true
  | (_, v) :: r => !hasId id v && freshS id r
def freshH (id : Nat) : Heap → Bool
  | [] => true
  | (i, .blk _ cs) :: r => !Nat.beq i id && !hasIdL id cs && freshH id r
  | (i, .row _ _ _) :: r => !Nat.beq i id && freshH id r
  | (i, .sem _) :: r => !Nat.beq i id && freshH id r
theorem freshS_get {id : Nat} : ∀ {s : Slots}, freshS id s = true → ∀ t, hasId id (get s t) = false
  | [], _, t => rfl
  | (i, v) :: r, h, t => by
    simp only [freshS, Bool.and_eq_true, Bool.not_eq_true'] at h
    rw [get_cons]; split
    · exact h.1
    · exact freshS_get h.2 t
theorem freshH_get {id : Nat} : ∀ {h : Heap}, freshH id h = true → ∀ i c, hget h i = some c → i ≠ id ∧ match c with | .blk _ cs => hasIdL id cs = false | _ => True
  | [], _, i, c, hc => by cases hc
  | (i', .blk ty cs) :: r, hf, i, c, hc => by
    simp only [freshH, Bool.and_eq_true, Bool.not_eq_true'] at hf
    rw [hget_cons] at hc
    split at hc
    · rename_i e; subst e; cases hc
      exact ⟨fun e => by subst e; simp at hf, hf.1.2⟩
    · exact freshH_get hf.2 i c hc
  | (i', .row e sz xs) :: r, hf, i, c, hc => by
    simp only [freshH, Bool.and_eq_true, Bool.not_eq_true'] at hf
    rw [hget_cons] at hc
    split at hc
    · rename_i e; subst e; cases hc
      exact ⟨fun e => by subst e; simp at hf, trivial⟩
    · exact freshH_get hf.2 i c hc
  | (i', .sem _) :: r, hf, i, c, hc => by
    simp only [freshH, Bool.and_eq_true, Bool.not_eq_true'] at hf
    rw [hget_cons] at hc
    split at hc
    · rename_i e; subst e; cases hc
      exact ⟨fun e => by subst e; simp at hf, trivial⟩
    · exact freshH_get hf.2 i c hc

section
variable {P : Program} {n : Md} {Q : Exit → Slots → Heap → Prop} {s : Slots} {h : Heap} {ops : Array Oper} {rest : List Oper} {o : Oper} {K : Slots → Prop}
theorem Rel.foot_lt {E : Env} {σ : Sig} {ι : Nat → Value} {w : World} (hr : Rel E σ ι h w) {i : Nat} {c : Chunk} (hc : hget h i = some c) {g : Nat} (hg : footOf (ι i) = some g) : g < w.heap.size := by
  have hch := hr.ch i c hc
  cases c with
  | blk ty cs =>
    obtain ⟨g', cur, h1, h2, _⟩ := hch
    rw [h1] at hg; simp only [footOf, Option.some.injEq] at hg; subst hg
    exact (Array.getElem?_eq_some_iff.1 h2).1
  | row e sz xs =>
    obtain ⟨_, _, vs, h1, _⟩ := hch
    rcases h1.2 with ⟨h2, _⟩ | ⟨g', cap, cur, h2, _, h3, _⟩
    · rw [h2] at hg; cases hg
    · rw [h2] at hg; simp only [footOf, Option.some.injEq] at hg; subst hg
      exact (Array.getElem?_eq_some_iff.1 h3).1
  | sem c => exact c.lt _ _ _ _ hch hg
theorem Rel.sig_lt {E : Env} {σ : Sig} {ι : Nat → Value} {w : World} (hr : Rel E σ ι h w) {a : Addr} {v : Value} (ha : σ a = some v) : a.block < w.heap.size := World.block_lt_of_cell? w a (hr.sub _ _ ha)
/-- A block stays as it is, in a world in which its block is as it was, or in whatever world for what is in no block. -/
theorem CR.keep {σ σ' : Sig} {ι : Nat → Value} {w w' : World} {i : Nat} {c : Chunk} (hc : CR σ ι w i c) (hs : Sig.le σ σ') (hw : ∀ g, footOf (ι i) = some g → w'.heap[g]? = w.heap[g]?) : CR σ' ι w' i c := by
  cases c with
  | blk ty cs =>
    obtain ⟨g, cur, h1, h2, h3⟩ := hc
    exact ⟨g, cur, h1, by rw [hw g (by rw [h1]; rfl)]; exact h2, h3.mono fun _ _ h => h.mono hs⟩
  | row e sz xs =>
    obtain ⟨h0, h1, vs, ⟨h2, h3⟩, h4⟩ := hc
    refine ⟨h0, h1, vs, ⟨h2, ?_⟩, h4.mono fun _ _ h => h.mono hs⟩
    rcases h3 with h3 | ⟨g, cap, cur, hv, hb, hg, r⟩
    · exact .inl h3
    · exact .inr ⟨g, cap, cur, hv, hb, by rw [hw g (by rw [hv]; rfl)]; exact hg, r⟩
  | sem c => exact c.keep _ _ _ _ _ hc hs hw
/-- What is known once these cells have been laid. -/
def sigNew (σ : Sig) (b : Nat) (vs : List Value) : Sig := fun a => if a.block = b then (if a.spot = none then vs[a.off]? else none) else σ a
theorem Ext_alloc (w : World) (o : Obj) (a : Addr) (v : Value) (hv : w.cell? a = some v) : (w.alloc o).cell? a = some v := by
  rw [World.cell?_alloc_lt _ _ _ (World.block_lt_of_cell? w a hv)]; exact hv
theorem Rel.newImm {E : Env} {σ : Sig} {ι : Nat → Value} {w : World} (hr : Rel E σ ι h w) (vs : List Value) (ty : TypeId) :
    Sig.le σ (sigNew σ w.heap.size vs) ∧ Rel E (sigNew σ w.heap.size vs) ι h (w.alloc (.cells vs.toArray ty)) ∧ ∀ j, sigNew σ w.heap.size vs ⟨w.heap.size, 0 + j, none⟩ = vs[j]? := by
  have hle : Sig.le σ (sigNew σ w.heap.size vs) := fun a v ha => by
    have := hr.sig_lt ha
    unfold sigNew; rw [if_neg (by omega)]; exact ha
  have hkeep : ∀ g, g < w.heap.size → (w.alloc (.cells vs.toArray ty)).heap[g]? = w.heap[g]? := fun g hg => Below.heap_alloc _ _ _ hg
  refine ⟨hle, ⟨hr.os, hr.tape, hr.output, ?_, ?_, ?_, ?_, ?_, ?_, hr.dj, hr.pin, hr.low, fun p hp => ⟨(hr.xo p hp).1, (hkeep p.1 (Array.getElem?_eq_some_iff.1 (hr.xo p hp).2.1).1).trans (hr.xo p hp).2.1, (hr.xo p hp).2.2⟩⟩, fun j => by simp [sigNew]⟩
  · have := hr.size; simp; omega
  · intro b hb hm; rw [hkeep b (by have := hr.size; omega)]; exact hr.old b hb hm
  · intro a ha
    have := hr.size
    unfold sigNew; rw [if_neg (by omega)]; exact hr.sigOld a ha
  · intro a v ha
    unfold sigNew at ha
    split at ha
    · rename_i e
      split at ha
      · rename_i e2
        obtain ⟨b, off, spot⟩ := a
        simp only at e e2 ha; subst e; subst e2
        rw [World.cell?_alloc_at _ _ _ _ rfl]
        simpa using ha
      · cases ha
    · exact (Ext_alloc w _ a v (hr.sub _ _ ha))
  · intro i c hc
    exact (hr.ch i c hc).keep hle fun g hg => hkeep g (hr.foot_lt hc hg)
  · intro i c hc g hg
    obtain ⟨h1, h2⟩ := hr.foot i c hc g hg
    refine ⟨h1, fun o => ?_⟩
    have := hr.foot_lt hc hg
    unfold sigNew; rw [if_neg (by simp; omega)]; exact h2 o
def oneQ : AV → Bool
  | .undef | .agg _ | .tup _ => false
  | _ => true
theorem VR.one {σ : Sig} {ι : Nat → Value} {x : AV} {v : Value} (h : VR σ ι x v) (hx : oneQ x = true) : v.oneCell' = true := by
  cases h with
  | base _ _ h0 => cases h0 <;> first | (cases hx; done) | rfl
  | own id h => exact h
  | ptr => rfl
  | eptr => rfl
  | agg => cases hx
  | tup => cases hx
  | fn => rfl
theorem cells_one {v : Value} (h : v.oneCell' = true) : v.cells = #[v] := by cases v <;> first | (cases h; done) | rfl
/-- A value's cells. -/
def celA : AV → List AV
  | .agg cs => cs
  | x => [x]
def celQ : AV → Bool
  | .agg cs => cs.all oneQ
  | x => oneQ x
theorem VR.cel {σ : Sig} {ι : Nat → Value} {x : AV} {v : Value} (h : VR σ ι x v) (hx : celQ x = true) : L2 (VR σ ι) (celA x) v.cells.toList ∧ ∀ u ∈ v.cells.toList, u.oneCell' = true := by
  have base : oneQ x = true → celA x = [x] → L2 (VR σ ι) (celA x) v.cells.toList ∧ ∀ u ∈ v.cells.toList, u.oneCell' = true := fun h1 h2 => by
    have := h.one h1
    rw [cells_one this, h2]
    exact ⟨(L2.nil _).cons h, fun u hu => by simp at hu; subst hu; exact this⟩
  cases x with
  | agg cs =>
    obtain ⟨vs, rfl, h2⟩ := h.agg_inv
    refine ⟨by simpa [celA, Value.cells] using h2, fun u hu => ?_⟩
    have hu' : u ∈ vs := by simpa [Value.cells] using hu
    obtain ⟨j, hj⟩ := List.getElem?_of_mem hu'
    have hjl : j < cs.length := by rw [h2.1]; exact (List.getElem?_eq_some_iff.1 hj).1
    exact (h2.2 j cs[j] u (List.getElem?_eq_getElem hjl) hj).one (List.all_eq_true.1 hx _ (List.getElem_mem hjl))
  | undef => cases hx
  | tup vs => cases hx
  | _ => exact base hx rfl
theorem l2_pure {σ : Sig} {ι : Nat → Value} {cs : List AV} {vs : List Value} (h : L2 (VR σ ι) cs vs) (hp : pureL cs = true) : L2 (VR0 σ) cs vs := ⟨h.1, fun j x y a b => (h.2 j x y a b).pure (pureL_get hp j x a)⟩
theorem Rel.turn {E : Env} {σ : Sig} {ι : Nat → Value} {w w' : World} (hr : Rel E σ ι h w) {id : Nat} {u : Value} {h' : Heap} {c' : Chunk}
    (hh : ∀ i c, i ≠ id → hget h' i = some c → hget h i = some c ∧ (u = ι id ∨ match c with | .blk _ cs => hasIdL id cs = false | _ => True)) (hc' : hget h' id = some c') (hcr : CR σ (upd ι id u) w' id c')
    (hos : w'.os = w.os) (htape : w'.tape = w.tape) (hout : w'.output = w.output) (hsz : w.heap.size ≤ w'.heap.size)
    (hblk : ∀ k, k < w.heap.size → (∀ c, hget h id = some c → footOf (ι id) ≠ some k) → w'.heap[k]? = w.heap[k]?)
    (hfoot : ∀ g, footOf u = some g → (∃ c, hget h id = some c ∧ footOf (ι id) = some g) ∨ w.heap.size ≤ g) (hpin : 5 ≤ id ∨ u = ι id) : Rel E σ (upd ι id u) h' w' := by
  have heq : u = ι id → upd ι id u = ι := fun e => by funext i; unfold upd; split <;> simp_all
  have hsig : ∀ g, w.heap.size ≤ g → ∀ o, σ ⟨g, o, none⟩ = none := fun g hg o => by
    cases hs : σ ⟨g, o, none⟩ with
    | none => rfl
    | some v => have := hr.sig_lt hs; simp only at this; omega
  have hfar : ∀ k, (∃ v o, σ ⟨k, o, none⟩ = some v) → w'.heap[k]? = w.heap[k]? := fun k ⟨v, o, hk⟩ => hblk k (hr.sig_lt hk) fun c hc e => by
    rw [(hr.foot id c hc k e).2 o] at hk; cases hk
  refine ⟨hos.trans hr.os, htape.trans hr.tape, hout.trans hr.output, Nat.le_trans hr.size hsz, ?_, hr.sigOld, ?_, ?_, ?_, ?_, ?_, hr.low, ?_⟩
  · intro b hb hm
    rw [hblk b (by have := hr.size; omega) fun c hc e => by rcases (hr.foot id c hc b e).1 with h1 | h1; exact hm _ h1; omega]
    exact hr.old b hb hm
  · intro a v ha
    have hs := World.cell?_spot (hr.sub a v ha)
    obtain ⟨b, off, spot⟩ := a
    simp only at hs; subst hs
    rw [World.cell?_of_block (hfar b ⟨v, off, ha⟩)]
    exact hr.sub _ _ ha
  · intro i c hc
    by_cases hi : i = id
    · subst hi; rw [hc'] at hc; cases hc; exact hcr
    · obtain ⟨h1, h2⟩ := hh i c hi hc
      have h3 := hr.ch i c h1
      have h4 : CR σ ι w' i c := h3.keep (Sig.le.refl σ) fun g hg => hblk g (hr.foot_lt h1 hg) fun d hd e => hi (hr.dj i id c d h1 hd g hg e)
      rcases h2 with h2 | h2
      · rw [heq h2]; exact h4
      · cases c with
        | blk ty cs =>
          obtain ⟨g, cur, h5, h6, h7⟩ := h4
          exact ⟨g, cur, by rw [upd_ne hi]; exact h5, h6, h7.1, fun j x y a b => (h7.2 j x y a b).upd (hasIdL_get h2 j x a)⟩
        | row e sz xs =>
          obtain ⟨h0, h5, vs, h6, h7⟩ := h4
          exact ⟨h0, h5, vs, by rw [upd_ne hi]; exact h6, h7⟩
        | sem c => show c.rel _ _ _; rw [upd_ne hi]; exact h4
  · intro i c hc g hg
    by_cases hi : i = id
    · subst hi; rw [upd_eq] at hg
      rcases hfoot g hg with ⟨d, h1, h2⟩ | h1
      · exact hr.foot _ d h1 g h2
      · exact ⟨.inr (by have := hr.size; omega), hsig g h1⟩
    · rw [upd_ne hi] at hg
      exact hr.foot i c (hh i c hi hc).1 g hg
  · have hone : ∀ i c g, i ≠ id → hget h' i = some c → footOf (ι i) = some g → footOf u = some g → False := fun i c g hi hc hg hu => by
      have h1 := (hh i c hi hc).1
      rcases hfoot g hu with ⟨d, h2, h3⟩ | h2
      · exact hi (hr.dj i id c d h1 h2 g hg h3)
      · have := hr.foot_lt h1 hg; omega
    intro i j c d hc hd g hi hj
    by_cases hii : i = id
    · by_cases hjj : j = id
      · rw [hii, hjj]
      · subst hii; rw [upd_eq] at hi; rw [upd_ne hjj] at hj; exact (hone j d g hjj hd hj hi).elim
    · by_cases hjj : j = id
      · subst hjj; rw [upd_eq] at hj; rw [upd_ne hii] at hi; exact (hone i c g hii hc hi hj).elim
      · rw [upd_ne hii] at hi; rw [upd_ne hjj] at hj
        exact hr.dj i j c d (hh i c hii hc).1 (hh j d hjj hd).1 g hi hj
  · intro p hp
    obtain ⟨h1, h2⟩ := hr.pin p hp
    refine ⟨h1, ?_⟩
    by_cases hi : p.1 = id
    · rcases hpin with h3 | h3
      · omega
      · rw [heq h3]; exact h2
    · rw [upd_ne hi]; exact h2
  · intro p hp
    obtain ⟨h1, h2, h3⟩ := hr.xo p hp
    have hlt := (Array.getElem?_eq_some_iff.1 h2).1
    refine ⟨h1, (hblk p.1 hlt fun c hc e => h3 id c hc e).trans h2, fun i c hc e => ?_⟩
    by_cases hi : i = id
    · subst hi; rw [upd_eq] at e
      rcases hfoot p.1 e with ⟨d, h4, h5⟩ | h4
      · exact h3 _ d h4 h5
      · omega
    · rw [upd_ne hi] at e
      exact h3 i c (hh i c hi hc).1 e
theorem TR.upd {σ : Sig} {ι : Nat → Value} {a : Act} (ht : TR n σ ι s a) {id : Nat} (h5 : 5 ≤ id) (hf : freshS id s = true) (u : Value) : TR n σ (upd ι id u) s a :=
  ⟨ht.size, ⟨ht.defers.1, fun p hp => let ⟨h1, h2⟩ := ht.defers.2 p hp; ⟨h1, by rw [upd_ne (by omega)]; exact h2⟩⟩, fun t => (ht.at_ t).upd (freshS_get hf t)⟩
/-- A new block of the call's own. -/
def freshAll (id : Nat) (s : Slots) (h : Heap) : Bool := Nat.ble 5 id && freshS id s && freshH id h
theorem Rel.newBlk {E : Env} {σ : Sig} {ι : Nat → Value} {w : World} (hr : Rel E σ ι h w) {id : Nat} (hf : freshH id h = true) (h5 : 5 ≤ id) {cs : List AV} {vs : List Value} (hcs : L2 (VR σ ι) cs vs) (hids : hasIdL id cs = false) (ty : TypeId) :
    Rel E σ (upd ι id (.pointer (some ⟨w.heap.size, 0, none⟩))) ((id, .blk ty cs) :: h) (w.alloc (.cells vs.toArray ty)) := by
  have hnone : hget h id = none := by
    cases hg : hget h id with
    | none => rfl
    | some c => exact absurd rfl (freshH_get hf id c hg).1
  refine hr.turn (c' := .blk ty cs) ?_ (by rw [hget_cons, if_pos rfl]) ?_ rfl rfl rfl (by simp) ?_ ?_ (.inl h5)
  · intro i c hi hc
    rw [hget_cons, if_neg (fun e => hi e.symm)] at hc
    exact ⟨hc, .inr (freshH_get hf i c hc).2⟩
  · refine ⟨w.heap.size, vs.toArray, upd_eq _ _ _, heap_alloc_new w _, ?_⟩
    simp only [List.toList_toArray]
    exact ⟨hcs.1, fun j x y a b => (hcs.2 j x y a b).upd (hasIdL_get hids j x a)⟩
  · intro k hk _; exact Below.heap_alloc _ _ _ hk
  · intro g hg; simp only [footOf, Option.some.injEq] at hg; subst hg; exact .inr (Nat.le_refl _)
def zeroA (P : Program) (t : TypeId) : Option (List AV) := match P.info? t with
  | some i => match i.zero with
    | some z => bif z.cells.toList.all (fun v => cOk (.const v)) then some (z.cells.toList.map cA) else none
    | none => none
  | none => none
theorem zeroA_spec {t : TypeId} {cs : List AV} (h : zeroA P t = some cs) : ∃ i z, P.info? t = some i ∧ i.zero = some z ∧ ∀ σ, L2 (VR0 σ) cs z.cells.toList := by
  unfold zeroA at h
  split at h
  · rename_i i hi
    split at h
    · rename_i z hz
      cases hb : z.cells.toList.all (fun v => cOk (.const v)) with
      | false => rw [hb] at h; cases h
      | true =>
        rw [hb] at h; cases h
        refine ⟨i, z, hi, hz, fun σ => ⟨by simp, fun j x y hx hy => ?_⟩⟩
        rw [List.getElem?_map, hy] at hx
        cases hx
        exact cA_sound (List.all_eq_true.1 hb y (List.mem_of_getElem? hy))
    · cases h
  · cases h
theorem a1_alloc {t : TypeId} (ho : o.op = .alloc t) (id : Nat) {cs : List AV} (hz : zeroA P t = some cs) (hd : dstOk n o.dst = true) (hf : freshAll id s h = true) (hi : hasIdL id cs = false)
    (hk : AOps P n ops Q rest (putS s o.dst (.ptr id 0)) ((id, .blk t cs) :: h)) : A1 P n ops Q o rest s h := fun E σ ι a w hr ht => by
  simp only [freshAll, Bool.and_eq_true, Nat.ble_eq] at hf
  obtain ⟨i, z, h1, h2, h3⟩ := zeroA_spec hz
  unfold Oper.wp
  have hrun : (execOp a.eval o).run P w = .ok (.value (.pointer (some ⟨w.heap.size, 0, none⟩))) (w.alloc (.cells z.cells t)) := by
    simp [execOp, ho, Instr.alloc, zeroValue, typeInfo, h1, h2, newVar, newRow]
  rw [hrun]
  have hnew := hr.newBlk hf.2 hf.1.1 (cs := cs) (vs := z.cells.toList) ((h3 σ).mono fun _ _ h => .base _ _ h) hi t
  rw [Array.toArray_toList] at hnew
  exact hk E σ _ _ _ hnew ((ht.upd hf.1.1 hf.1.2 _).putS hd (.ptr id 0 w.heap.size (by rw [upd_eq]; rfl)))
theorem a1_box {t : TypeId} {x : Operand} (ho : o.op = .box t x) (id : Nat) {v : AV} (hv : evA s x = v) (hq : celQ v = true) (hco : constsOk o = true) (hd : dstOk n o.dst = true) (hf : freshAll id s h = true) (hi : hasIdL id (celA v) = false)
    (hk : AOps P n ops Q rest (putS s o.dst (.ptr id 0)) ((id, .blk t (celA v)) :: h)) : A1 P n ops Q o rest s h := fun E σ ι a w hr ht => by
  subst hv
  simp only [freshAll, Bool.and_eq_true, Nat.ble_eq] at hf
  have hx : VR σ ι (evA s x) (a.eval x) := evA_sound (List.all_eq_true.1 hco x (by rw [ho]; simp [Op.operands])) fun t _ => ht.at_ t
  unfold Oper.wp
  have hrun : (execOp a.eval o).run P w = .ok (.value (.pointer (some ⟨w.heap.size, 0, none⟩))) (w.alloc (.cells (a.eval x).cells t)) := by
    simp [execOp, ho, Instr.box, newVar, newRow]
  rw [hrun]
  have hnew := hr.newBlk hf.2 hf.1.1 (hx.cel hq).1 hi t
  rw [Array.toArray_toList] at hnew
  exact hk E σ _ _ _ hnew ((ht.upd hf.1.1 hf.1.2 _).putS hd (.ptr id 0 w.heap.size (by rw [upd_eq]; rfl)))
/-- A variable that nobody turns. -/
theorem ok_box {t : TypeId} {x : Operand} (ho : o.op = .box t x) {v : AV} (hv : evA s x = v) (hq : celQ v = true) (hp : pureL (celA v) = true) : OkO P o s h (.ref (celA v)) := by
  intro E σ ι a w hr hx K Q hK
  subst hv
  have hx := (hx x (by rw [ho]; simp [Op.operands]))
  unfold Oper.wp
  have hrun : (execOp a.eval o).run P w = .ok (.value (.pointer (some ⟨w.heap.size, 0, none⟩))) (w.alloc (.cells (a.eval x).cells t)) := by
    simp [execOp, ho, Instr.box, newVar, newRow]
  rw [hrun]
  have hL := l2_pure (hx.cel hq).1 hp
  obtain ⟨h1, h2, h3⟩ := hr.newImm (a.eval x).cells.toList t
  rw [Array.toArray_toList] at h2
  refine hK _ _ _ h1 h2 (.base _ _ (.ref _ _ 0 (fun j => ((a.eval x).cells.toList[j]?).getD undef) (fun j c hc => ?_) fun j c hc => ?_))
  · obtain ⟨u, hu, _⟩ := hL.get hc
    rw [h3, hu]; rfl
  · obtain ⟨u, hu, hR⟩ := hL.get hc
    rw [hu]; exact hR.mono h1
end
end Go.Proofs.Ytfjoaeghnfkdlaa
