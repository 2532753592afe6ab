/- What makes memory, what turns it, and calls, over abstract values. No condition. -/
import Derived.Test.YtfjoaeghnfkdlaaGreatDoorB3
import Derived.OwnWalk
import Derived.Great.FillDense
import Derived.Laws.MakeOwn
set_option linter.unusedSimpArgs false
set_option linter.unusedVariables false
set_option maxHeartbeats 1000000
set_option maxRecDepth 100000
namespace Go.Proofs.YtfjoaeghnfkdlaaGreatDoor
open Go.RowKit

mutual
def w9 : AV -> Bool
 | .own _ | .ptr _ _ | .eptr _ _ _ _ | .part _ _ | .pptr _ _ _ => false
 | .agg cs => wk cs
 | .tup cs => wk cs
 | .fn _ xs ys => wk xs && wk ys
 | _ => true
def wk : List AV -> Bool
 | [] => true
 | x :: xs => w9 x && wk xs
end
mutual
def jg (id : Nat) : AV -> Bool
 | .own i => Nat.beq i id
 | .ptr i _ => Nat.beq i id
 | .eptr i _ _ _ => Nat.beq i id
 | .part i _ => Nat.beq i id
 | .pptr i _ _ => Nat.beq i id
 | .agg cs => vD id cs
 | .tup cs => vD id cs
 | .fn _ xs ys => vD id xs || vD id ys
 | _ => false
def vD (id : Nat) : List AV -> Bool
 | [] => false
 | x :: xs => jg id x || vD id xs
end
theorem xG : ∀ {cs : List AV}, wk cs = true -> ∀ (j : Nat) (c : AV), cs[j]? = some c -> w9 c = true
 | [], _, j, c, h => by simp at h
 | x :: xs, hp, 0, c, h => by simp at h; subst h; simp only [wk, Bool.and_eq_true] at hp; exact hp.1
 | x :: xs, hp, j + 1, c, h => by simp only [wk, Bool.and_eq_true] at hp; exact xG hp.2 j c (by simpa using h)
theorem qA {id : Nat} : ∀ {cs : List AV}, vD id cs = false -> ∀ (j : Nat) (c : AV), cs[j]? = some c -> jg id c = false
 | [], _, j, c, h => by simp at h
 | x :: xs, hp, 0, c, h => by simp at h; subst h; simp only [vD, Bool.or_eq_false_iff] at hp; exact hp.1
 | x :: xs, hp, j + 1, c, h => by simp only [vD, Bool.or_eq_false_iff] at hp; exact qA hp.2 j c (by simpa using h)
theorem VR.pure {σ : Sig} {ι : Nat -> Value} {x : AV} {v : Value} (h : VR σ ι x v) : w9 x = true -> VR0 σ x v := by
 induction h with
 | base x v h => exact fun _ => h
 | own id h1 => intro h; simp [w9] at h
 | ptr id off g h => intro h; simp [w9] at h
 | eptr id sz i j g h => intro h; simp [w9] at h
 | part id j vs v h hj h1 => intro h; simp [w9] at h
 | pptr id j off g vs u h hj hg => intro h; simp [w9] at h
 | agg cs vs h1 h2 ih => intro h; exact .agg cs vs h1 fun j c v hc hv => ih j c v hc hv (xG (by simpa [w9] using h) j c hc)
 | tup cs vs h1 h2 ih => intro h; exact .tup cs vs h1 fun j c v hc hv => ih j c v hc hv (xG (by simpa [w9] using h) j c hc)
 | fn f xs ys us vs h1 h2 h3 h4 ih1 ih2 =>
  intro h
  simp only [w9, Bool.and_eq_true] at h
  exact .fn f xs ys us vs h1 (fun j c v hc hv => ih1 j c v hc hv (xG h.1 j c hc)) h3 fun j c v hc hv => ih2 j c v hc hv (xG h.2 j c hc)
def upd (ι : Nat -> Value) (id : Nat) (u : Value) : Nat -> Value := fun i => if i = id then u else ι i
theorem jW {ι : Nat -> Value} {id : Nat} {u : Value} {i : Nat} (h : i ≠ id) : upd ι id u i = ι i := by simp [upd, h]
theorem jM (ι : Nat -> Value) (id : Nat) (u : Value) : upd ι id u id = u := by simp [upd]
theorem VR.upd {σ : Sig} {ι : Nat -> Value} {id : Nat} {u : Value} {x : AV} {v : Value} (h : VR σ ι x v) : jg id x = false -> VR σ (upd ι id u) x v := by
 have ne : ∀ {i : Nat}, Nat.beq i id = false -> i ≠ id := fun hb e => by subst e; simp at hb
 induction h with
 | base x v h => exact fun _ => .base _ _ h
 | own i h1 =>
  intro h
  have h2 := VR.own (σ := σ) (ι := YtfjoaeghnfkdlaaGreatDoor.upd ι id u) i (by rw [jW (ne (by simpa [jg] using h))]; exact h1)
  rwa [jW (ne (by simpa [jg] using h))] at h2
 | ptr i off g h => intro hb; exact .ptr i off g (by rw [jW (ne (by simpa [jg] using hb))]; exact h)
 | eptr i sz a b g h => intro hb; exact .eptr i sz a b g (by rw [jW (ne (by simpa [jg] using hb))]; exact h)
 | part i j vs v h hj h1 => intro hb; exact .part i j vs v (by rw [jW (ne (by simpa [jg] using hb))]; exact h) hj h1
 | pptr i j off g vs u h hj hg => intro hb; exact .pptr i j off g vs u (by rw [jW (ne (by simpa [jg] using hb))]; exact h) hj hg
 | agg cs vs h1 h2 ih => intro h; exact .agg cs vs h1 fun j c v hc hv => ih j c v hc hv (qA (by simpa [jg] using h) j c hc)
 | tup cs vs h1 h2 ih => intro h; exact .tup cs vs h1 fun j c v hc hv => ih j c v hc hv (qA (by simpa [jg] using h) j c hc)
 | fn f xs ys us vs h1 h2 h3 h4 ih1 ih2 =>
  intro h
  simp only [jg, Bool.or_eq_false_iff] at h
  exact .fn f xs ys us vs h1 (fun j c v hc hv => ih1 j c v hc hv (qA h.1 j c hc)) h3 fun j c v hc hv => ih2 j c v hc hv (qA h.2 j c hc)
def zC (id : Nat) : j6 -> Bool
 | [] => true
 | (_, v) :: r => !jg id v && zC id r
def vo (id : Nat) : j8 -> Bool
 | [] => true
 | (i, .blk _ cs) :: r => !Nat.beq i id && !vD id cs && vo id r
 | (i, .row _ _ _) :: r => !Nat.beq i id && vo id r
 | (i, .sem _) :: r => !Nat.beq i id && vo id r
theorem xc {id : Nat} : ∀ {s : j6}, zC id s = true -> ∀ t, jg id (get s t) = false
 | [], _, t => rfl
 | (i, v) :: r, h, t => by
  simp only [zC, Bool.and_eq_true, Bool.not_eq_true'] at h
  rw [qO]; split
  ·exact h.1
  ·exact xc h.2 t
theorem ju {id : Nat} : ∀ {h : j8}, vo id h = true -> ∀ i c, j9 h i = some c -> i ≠ id ∧ match c with | .blk _ cs => vD id cs = false | _ => True
 | [], _, i, c, hc => by cases hc
 | (i', .blk ty cs) :: r, hf, i, c, hc => by
  simp only [vo, Bool.and_eq_true, Bool.not_eq_true'] at hf
  rw [j7] at hc
  split at hc
  ·rename_i e; subst e; cases hc
   exact ⟨fun e => by subst e; simp at hf, hf.1.2⟩
  ·exact ju hf.2 i c hc
 | (i', .row e sz xs) :: r, hf, i, c, hc => by
  simp only [vo, Bool.and_eq_true, Bool.not_eq_true'] at hf
  rw [j7] at hc
  split at hc
  ·rename_i e; subst e; cases hc
   exact ⟨fun e => by subst e; simp at hf, trivial⟩
  ·exact ju hf.2 i c hc
 | (i', .sem _) :: r, hf, i, c, hc => by
  simp only [vo, Bool.and_eq_true, Bool.not_eq_true'] at hf
  rw [j7] at hc
  split at hc
  ·rename_i e; subst e; cases hc
   exact ⟨fun e => by subst e; simp at hf, trivial⟩
  ·exact ju hf.2 i c hc

section
variable {P : Program} {n : Md} {Q : Exit -> j6 -> j8 -> Prop} {s : j6} {h : j8} {ops : Array Oper} {rest : List Oper} {o : Oper} {K : j6 -> Prop}
theorem Rel.foot_lt {E : Env} {σ : Sig} {ι : Nat -> Value} {w : World} (hr : Rel E σ ι h w) {i : Nat} {c : Chunk} (hc : j9 h i = some c) {g : Nat} (hg : Feet (ι i) g) : g < w.heap.size := by
 have hch := hr.ch i c hc
 cases c with
 | blk ty cs =>
  obtain ⟨g', cur, h1, h2, _⟩ := hch
  rw [h1] at hg
  have hg := hg.one fun vs e => by cases e
  simp only [jC, Option.some.injEq] at hg; subst hg
  exact (Array.getElem?_eq_some_iff.1 h2).1
 | row e sz xs =>
  obtain ⟨_, _, vs, h1, _⟩ := hch
  rcases h1.2 with ⟨h2, _⟩ | ⟨g', cap, cur, h2, _, h3, _⟩
  ·rw [h2] at hg; cases hg.one fun vs e => by cases e
  ·rw [h2] at hg
   have hg := hg.one fun vs e => by cases e
   simp only [jC, Option.some.injEq] at hg; subst hg
   exact (Array.getElem?_eq_some_iff.1 h3).1
 | sem c => exact c.lt _ _ _ _ hch hg
theorem Rel.sig_lt {E : Env} {σ : Sig} {ι : Nat -> Value} {w : World} (hr : Rel E σ ι h w) {a : Addr} {v : Value} (ha : σ a = some v) : a.block < w.heap.size := World.block_lt_of_cell? w a (hr.sub _ _ ha)
theorem CR.keep {σ σ' : Sig} {ι : Nat -> Value} {w w' : World} {i : Nat} {c : Chunk} (hc : CR σ ι w i c) (hs : Sig.le σ σ') (hw : ∀ g, Feet (ι i) g -> w'.heap[g]? = w.heap[g]?) : CR σ' ι w' i c := by
 cases c with
 | blk ty cs =>
  obtain ⟨g, cur, h1, h2, h3⟩ := hc
  exact ⟨g, cur, h1, by rw [hw g (by rw [h1]; exact .inl rfl)]; exact h2, h3.mono fun _ _ h => h.mono hs⟩
 | row e sz xs =>
  obtain ⟨h0, h1, vs, ⟨h2, h3⟩, h4⟩ := hc
  refine ⟨h0, h1, vs, ⟨h2, ?_⟩, h4.mono fun _ _ h => h.mono hs⟩
  rcases h3 with h3 | ⟨g, cap, cur, hv, hb, hg, r⟩
  ·exact .inl h3
  ·exact .inr ⟨g, cap, cur, hv, hb, by rw [hw g (by rw [hv]; exact .inl rfl)]; exact hg, r⟩
 | sem c => exact c.keep _ _ _ _ _ hc hs hw
def xz (σ : Sig) (b : Nat) (vs : List Value) : Sig := fun a => if a.block = b then (if a.spot = none then vs[a.off]? else none) else σ a
theorem XE (w : World) (o : Obj) (a : Addr) (v : Value) (hv : w.cell? a = some v) : (w.alloc o).cell? a = some v := by
 rw [World.cell?_alloc_lt _ _ _ (World.block_lt_of_cell? w a hv)]; exact hv
theorem Rel.newImm {E : Env} {σ : Sig} {ι : Nat -> Value} {w : World} (hr : Rel E σ ι h w) (vs : List Value) (ty : TypeId) :
  Sig.le σ (xz σ w.heap.size vs) ∧ Rel E (xz σ w.heap.size vs) ι h (w.alloc (.cells vs.toArray ty)) ∧ ∀ j, xz σ w.heap.size vs ⟨w.heap.size, 0 + j, none⟩ = vs[j]? := by
 have hle : Sig.le σ (xz σ w.heap.size vs) := fun a v ha => by
  have := hr.sig_lt ha
  unfold xz; rw [if_neg (by omega)]; exact ha
 have hkeep : ∀ g, g < w.heap.size -> (w.alloc (.cells vs.toArray ty)).heap[g]? = w.heap[g]? := fun g hg => Below.heap_alloc _ _ _ hg
 refine ⟨hle, ⟨hr.os, hr.tape, hr.output, ?_, ?_, ?_, ?_, ?_, ?_, hr.dj, hr.pin, hr.low, fun p hp => ⟨(hr.xo p hp).1, (hkeep p.1 (Array.getElem?_eq_some_iff.1 (hr.xo p hp).2.1).1).trans (hr.xo p hp).2.1, (hr.xo p hp).2.2⟩⟩, fun j => by simp [xz]⟩
 ·have := hr.size; simp; omega
 ·intro b hb hm; rw [hkeep b (by have := hr.size; omega)]; exact hr.old b hb hm
 ·intro a ha
  have := hr.size
  unfold xz; rw [if_neg (by omega)]; exact hr.sigOld a ha
 ·intro a v ha
  unfold xz at ha
  split at ha
  ·rename_i e
   split at ha
   ·rename_i e2
    obtain ⟨b, off, spot⟩ := a
    simp only at e e2 ha; subst e; subst e2
    rw [World.cell?_alloc_at _ _ _ _ rfl]
    simpa using ha
   ·cases ha
  ·exact (XE w _ a v (hr.sub _ _ ha))
 ·intro i c hc
  exact (hr.ch i c hc).keep hle fun g hg => hkeep g (hr.foot_lt hc hg)
 ·intro i c hc g hg
  obtain ⟨h1, h2⟩ := hr.foot i c hc g hg
  refine ⟨h1, fun o => ?_⟩
  have := hr.foot_lt hc hg
  unfold xz; rw [if_neg (by simp; omega)]; exact h2 o
def Ql : AV -> Bool
 | .undef | .agg _ | .tup _ => false
 | _ => true
theorem VR.one {σ : Sig} {ι : Nat -> Value} {x : AV} {v : Value} (h : VR σ ι x v) (hx : Ql x = true) : v.oneCell' = true := by
 cases h with
 | base _ _ h0 => cases h0 <;> first | (cases hx; done) | rfl
 | own id h => exact h
 | ptr => rfl
 | eptr => rfl
 | part _ _ _ _ _ _ h1 => exact h1
 | pptr => rfl
 | agg => cases hx
 | tup => cases hx
 | fn => rfl
theorem XM {v : Value} (h : v.oneCell' = true) : v.cells = #[v] := by cases v <;> first | (cases h; done) | rfl
def qk : AV -> List AV
 | .agg cs => cs
 | x => [x]
def J2 : AV -> Bool
 | .agg cs => cs.all Ql
 | x => Ql x
theorem VR.cel {σ : Sig} {ι : Nat -> Value} {x : AV} {v : Value} (h : VR σ ι x v) (hx : J2 x = true) : L2 (VR σ ι) (qk x) v.cells.toList ∧ ∀ u ∈ v.cells.toList, u.oneCell' = true := by
 have base : Ql x = true -> qk x = [x] -> L2 (VR σ ι) (qk x) v.cells.toList ∧ ∀ u ∈ v.cells.toList, u.oneCell' = true := fun h1 h2 => by
  have := h.one h1
  rw [XM this, h2]
  exact ⟨(L2.nil _).cons h, fun u hu => by simp at hu; subst hu; exact this⟩
 cases x with
 | agg cs =>
  obtain ⟨vs, rfl, h2⟩ := h.agg_inv
  refine ⟨by simpa [qk, Value.cells] using h2, fun u hu => ?_⟩
  have hu' : u ∈ vs := by simpa [Value.cells] using hu
  obtain ⟨j, hj⟩ := List.getElem?_of_mem hu'
  have hjl : j < cs.length := by rw [h2.1]; exact (List.getElem?_eq_some_iff.1 hj).1
  exact (h2.2 j cs[j] u (List.getElem?_eq_getElem hjl) hj).one (List.all_eq_true.1 hx _ (List.getElem_mem hjl))
 | undef => cases hx
 | tup vs => cases hx
 | _ => exact base hx rfl
theorem QR {σ : Sig} {ι : Nat -> Value} {cs : List AV} {vs : List Value} (h : L2 (VR σ ι) cs vs) (hp : wk cs = true) : L2 (VR0 σ) cs vs := ⟨h.1, fun j x y a b => (h.2 j x y a b).pure (xG hp j x a)⟩
theorem Rel.turnF {E : Env} {σ : Sig} {ι : Nat -> Value} {w w' : World} (hr : Rel E σ ι h w) {id : Nat} {u : Value} {h' : j8} {c' : Chunk}
  (hh : ∀ i c, i ≠ id -> j9 h' i = some c -> j9 h i = some c ∧ (u = ι id ∨ match c with | .blk _ cs => vD id cs = false | _ => True)) (hc' : j9 h' id = some c') (hcr : CR σ (upd ι id u) w' id c')
  (hos : w'.os = w.os) (htape : w'.tape = w.tape) (hout : w'.output = w.output) (hsz : w.heap.size <= w'.heap.size)
  (hblk : ∀ k, k < w.heap.size -> (∀ c, j9 h id = some c -> ¬ Feet (ι id) k) -> w'.heap[k]? = w.heap[k]?)
  (hfoot : ∀ g, Feet u g -> (∃ c, j9 h id = some c ∧ Feet (ι id) g) ∨ w.heap.size <= g) (hpin : 5 <= id ∨ u = ι id) : Rel E σ (upd ι id u) h' w' := by
 have heq : u = ι id -> upd ι id u = ι := fun e => by funext i; unfold upd; split <;> simp_all
 have hsig : ∀ g, w.heap.size <= g -> ∀ o, σ ⟨g, o, none⟩ = none := fun g hg o => by
  cases hs : σ ⟨g, o, none⟩ with
  | none => rfl
  | some v => have := hr.sig_lt hs; simp only at this; omega
 have hfar : ∀ k, (∃ v o, σ ⟨k, o, none⟩ = some v) -> w'.heap[k]? = w.heap[k]? := fun k ⟨v, o, hk⟩ => hblk k (hr.sig_lt hk) fun c hc e => by
  rw [(hr.foot id c hc k e).2 o] at hk; cases hk
 refine ⟨hos.trans hr.os, htape.trans hr.tape, hout.trans hr.output, Nat.le_trans hr.size hsz, ?_, hr.sigOld, ?_, ?_, ?_, ?_, ?_, hr.low, ?_⟩
 ·intro b hb hm
  rw [hblk b (by have := hr.size; omega) fun c hc e => by rcases (hr.foot id c hc b e).1 with h1 | h1; exact hm _ h1; omega]
  exact hr.old b hb hm
 ·intro a v ha
  have hs := World.cell?_spot (hr.sub a v ha)
  obtain ⟨b, off, spot⟩ := a
  simp only at hs; subst hs
  rw [World.cell?_of_block (hfar b ⟨v, off, ha⟩)]
  exact hr.sub _ _ ha
 ·intro i c hc
  by_cases hi : i = id
  ·subst hi; rw [hc'] at hc; cases hc; exact hcr
  ·obtain ⟨h1, h2⟩ := hh i c hi hc
   have h3 := hr.ch i c h1
   have h4 : CR σ ι w' i c := h3.keep (Sig.le.refl σ) fun g hg => hblk g (hr.foot_lt h1 hg) fun d hd e => hi (hr.dj i id c d h1 hd g hg e)
   rcases h2 with h2 | h2
   ·rw [heq h2]; exact h4
   ·cases c with
    | blk ty cs =>
     obtain ⟨g, cur, h5, h6, h7⟩ := h4
     exact ⟨g, cur, by rw [jW hi]; exact h5, h6, h7.1, fun j x y a b => (h7.2 j x y a b).upd (qA h2 j x a)⟩
    | row e sz xs =>
     obtain ⟨h0, h5, vs, h6, h7⟩ := h4
     exact ⟨h0, h5, vs, by rw [jW hi]; exact h6, h7⟩
    | sem c => show c.rel _ _ _; rw [jW hi]; exact h4
 ·intro i c hc g hg
  by_cases hi : i = id
  ·subst hi; rw [jM] at hg
   rcases hfoot g hg with ⟨d, h1, h2⟩ | h1
   ·exact hr.foot _ d h1 g h2
   ·exact ⟨.inr (by have := hr.size; omega), hsig g h1⟩
  ·rw [jW hi] at hg
   exact hr.foot i c (hh i c hi hc).1 g hg
 ·have hone : ∀ i c g, i ≠ id -> j9 h' i = some c -> Feet (ι i) g -> Feet u g -> False := fun i c g hi hc hg hu => by
   have h1 := (hh i c hi hc).1
   rcases hfoot g hu with ⟨d, h2, h3⟩ | h2
   ·exact hi (hr.dj i id c d h1 h2 g hg h3)
   ·have := hr.foot_lt h1 hg; omega
  intro i j c d hc hd g hi hj
  by_cases hii : i = id
  ·by_cases hjj : j = id
   ·rw [hii, hjj]
   ·subst hii; rw [jM] at hi; rw [jW hjj] at hj; exact (hone j d g hjj hd hj hi).elim
  ·by_cases hjj : j = id
   ·subst hjj; rw [jM] at hj; rw [jW hii] at hi; exact (hone i c g hii hc hi hj).elim
   ·rw [jW hii] at hi; rw [jW hjj] at hj
    exact hr.dj i j c d (hh i c hii hc).1 (hh j d hjj hd).1 g hi hj
 ·intro p hp
  obtain ⟨h1, h2⟩ := hr.pin p hp
  refine ⟨h1, ?_⟩
  by_cases hi : p.1 = id
  ·rcases hpin with h3 | h3
   ·omega
   ·rw [heq h3]; exact h2
  ·rw [jW hi]; exact h2
 ·intro p hp
  obtain ⟨h1, h2, h3⟩ := hr.xo p hp
  have hlt := (Array.getElem?_eq_some_iff.1 h2).1
  refine ⟨h1, (hblk p.1 hlt fun c hc e => h3 id c hc e).trans h2, fun i c hc e => ?_⟩
  by_cases hi : i = id
  ·subst hi; rw [jM] at e
   rcases hfoot p.1 e with ⟨d, h4, h5⟩ | h4
   ·exact h3 _ d h4 h5
   ·omega
  ·rw [jW hi] at e
   exact h3 i c (hh i c hi hc).1 e
theorem Rel.turn {E : Env} {σ : Sig} {ι : Nat -> Value} {w w' : World} (hr : Rel E σ ι h w) {id : Nat} {u : Value} {h' : j8} {c' : Chunk}
  (hh : ∀ i c, i ≠ id -> j9 h' i = some c -> j9 h i = some c ∧ (u = ι id ∨ match c with | .blk _ cs => vD id cs = false | _ => True)) (hc' : j9 h' id = some c') (hcr : CR σ (upd ι id u) w' id c')
  (hos : w'.os = w.os) (htape : w'.tape = w.tape) (hout : w'.output = w.output) (hsz : w.heap.size <= w'.heap.size)
  (hblk : ∀ k, k < w.heap.size -> (∀ c, j9 h id = some c -> jC (ι id) ≠ some k) -> w'.heap[k]? = w.heap[k]?)
  (hfoot : ∀ g, jC u = some g -> (∃ c, j9 h id = some c ∧ jC (ι id) = some g) ∨ w.heap.size <= g) (hpin : 5 <= id ∨ u = ι id) (hnt : ∀ vs, u ≠ .tuple vs := by intro vs e; first | (cases e; done) | (simp_all; done)) : Rel E σ (upd ι id u) h' w' :=
 hr.turnF hh hc' hcr hos htape hout hsz (fun k hk hn => hblk k hk fun c hc e => hn c hc (.inl e)) (fun g hg => (hfoot g (hg.one hnt)).imp (fun ⟨c, h1, h2⟩ => ⟨c, h1, .inl h2⟩) fun x => x) hpin
theorem TR.upd {σ : Sig} {ι : Nat -> Value} {a : Act} (ht : TR n σ ι s a) {id : Nat} (h5 : 5 <= id) (hf : zC id s = true) (u : Value) : TR n σ (upd ι id u) s a :=
 ⟨ht.size, ⟨ht.defers.1, fun p hp => let ⟨h1, h2⟩ := ht.defers.2 p hp; ⟨h1, by rw [jW (by omega)]; exact h2⟩⟩, fun t => (ht.at_ t).upd (xc hf t)⟩
def jd (id : Nat) (s : j6) (h : j8) : Bool := Nat.ble 5 id && zC id s && vo id h
theorem Rel.newBlk {E : Env} {σ : Sig} {ι : Nat -> Value} {w : World} (hr : Rel E σ ι h w) {id : Nat} (hf : vo id h = true) (h5 : 5 <= id) {cs : List AV} {vs : List Value} (hcs : L2 (VR σ ι) cs vs) (jI : vD id cs = false) (ty : TypeId) :
  Rel E σ (upd ι id (.pointer (some ⟨w.heap.size, 0, none⟩))) ((id, .blk ty cs) :: h) (w.alloc (.cells vs.toArray ty)) := by
 have hnone : j9 h id = none := by
  cases hg : j9 h id with
  | none => rfl
  | some c => exact absurd rfl (ju hf id c hg).1
 refine hr.turn (c' := .blk ty cs) ?_ (by rw [j7, if_pos rfl]) ?_ rfl rfl rfl (by simp) ?_ ?_ (.inl h5)
 ·intro i c hi hc
  rw [j7, if_neg (fun e => hi e.symm)] at hc
  exact ⟨hc, .inr (ju hf i c hc).2⟩
 ·refine ⟨w.heap.size, vs.toArray, jM _ _ _, heap_alloc_new w _, ?_⟩
  simp only [List.toList_toArray]
  exact ⟨hcs.1, fun j x y a b => (hcs.2 j x y a b).upd (qA jI j x a)⟩
 ·intro k hk _; exact Below.heap_alloc _ _ _ hk
 ·intro g hg; simp only [jC, Option.some.injEq] at hg; subst hg; exact .inr (Nat.le_refl _)
def wQ (P : Program) (t : TypeId) : Option (List AV) := match P.info? t with
 | some i => match i.zero with
  | some z => bif z.cells.toList.all (fun v => cOk (.const v)) then some (z.cells.toList.map cA) else none
  | none => none
 | none => none
theorem vI {t : TypeId} {cs : List AV} (h : wQ P t = some cs) : ∃ i z, P.info? t = some i ∧ i.zero = some z ∧ ∀ σ, L2 (VR0 σ) cs z.cells.toList := by
 unfold wQ at h
 split at h
 ·rename_i i hi
  split at h
  ·rename_i z hz
   cases hb : z.cells.toList.all (fun v => cOk (.const v)) with
   | false => rw [hb] at h; cases h
   | true =>
    rw [hb] at h; cases h
    refine ⟨i, z, hi, hz, fun σ => ⟨by simp, fun j x y hx hy => ?_⟩⟩
    rw [List.getElem?_map, hy] at hx
    cases hx
    exact YW (List.all_eq_true.1 hb y (List.mem_of_getElem? hy))
  ·cases h
 ·cases h
theorem j33 {t : TypeId} (ho : o.op = .alloc t) (id : Nat) {cs : List AV} (hz : wQ P t = some cs) (hd : qj n o.dst = true) (hf : jd id s h = true) (hi : vD id cs = false)
  (hk : xq P n ops Q rest (jX s o.dst (.ptr id 0)) ((id, .blk t cs) :: h)) : A1 P n ops Q o rest s h := fun E σ ι a w hr ht => by
 simp only [jd, Bool.and_eq_true, Nat.ble_eq] at hf
 obtain ⟨i, z, h1, h2, h3⟩ := vI hz
 unfold Oper.wp
 have hrun : (execOp a.eval o).run P w = .ok (.value (.pointer (some ⟨w.heap.size, 0, none⟩))) (w.alloc (.cells z.cells t)) := by
  simp [execOp, ho, Instr.alloc, zeroValue, typeInfo, h1, h2, newVar, newRow]
 rw [hrun]
 have hnew := hr.newBlk hf.2 hf.1.1 (cs := cs) (vs := z.cells.toList) ((h3 σ).mono fun _ _ h => .base _ _ h) hi t
 rw [Array.toArray_toList] at hnew
 exact hk E σ _ _ _ hnew ((ht.upd hf.1.1 hf.1.2 _).putS hd (.ptr id 0 w.heap.size (by rw [jM]; rfl)))
theorem j5Y {t : TypeId} {x : Operand} (ho : o.op = .box t x) (id : Nat) {v : AV} (hv : evA s x = v) (hq : J2 v = true) (hco : qC o = true) (hd : qj n o.dst = true) (hf : jd id s h = true) (hi : vD id (qk v) = false)
  (hk : xq P n ops Q rest (jX s o.dst (.ptr id 0)) ((id, .blk t (qk v)) :: h)) : A1 P n ops Q o rest s h := fun E σ ι a w hr ht => by
 subst hv
 simp only [jd, Bool.and_eq_true, Nat.ble_eq] at hf
 have hx : VR σ ι (evA s x) (a.eval x) := jZ (List.all_eq_true.1 hco x (by rw [ho]; simp [Op.operands])) fun t _ => ht.at_ t
 unfold Oper.wp
 have hrun : (execOp a.eval o).run P w = .ok (.value (.pointer (some ⟨w.heap.size, 0, none⟩))) (w.alloc (.cells (a.eval x).cells t)) := by
  simp [execOp, ho, Instr.box, newVar, newRow]
 rw [hrun]
 have hnew := hr.newBlk hf.2 hf.1.1 (hx.cel hq).1 hi t
 rw [Array.toArray_toList] at hnew
 exact hk E σ _ _ _ hnew ((ht.upd hf.1.1 hf.1.2 _).putS hd (.ptr id 0 w.heap.size (by rw [jM]; rfl)))
theorem j5m {t : TypeId} {x : Operand} (ho : o.op = .box t x) {v : AV} (hv : evA s x = v) (hq : J2 v = true) (hp : wk (qk v) = true) : OkO P o s h (.ref (qk v)) := by
 intro E σ ι a w hr hx K Q hK
 subst hv
 have hx := (hx x (by rw [ho]; simp [Op.operands]))
 unfold Oper.wp
 have hrun : (execOp a.eval o).run P w = .ok (.value (.pointer (some ⟨w.heap.size, 0, none⟩))) (w.alloc (.cells (a.eval x).cells t)) := by
  simp [execOp, ho, Instr.box, newVar, newRow]
 rw [hrun]
 have hL := QR (hx.cel hq).1 hp
 obtain ⟨h1, h2, h3⟩ := hr.newImm (a.eval x).cells.toList t
 rw [Array.toArray_toList] at h2
 refine hK _ _ _ h1 h2 (.base _ _ (.ref _ _ 0 (fun j => ((a.eval x).cells.toList[j]?).getD undef) (fun j c hc => ?_) fun j c hc => ?_))
 ·obtain ⟨u, hu, _⟩ := hL.get hc
  rw [h3, hu]; rfl
 ·obtain ⟨u, hu, hR⟩ := hL.get hc
  rw [hu]; exact hR.mono h1
end
section
variable {P : Program} {n : Md} {Q : Exit -> j6 -> j8 -> Prop} {s : j6} {h : j8} {ops : Array Oper} {rest : List Oper} {o : Oper} {K : j6 -> Prop}
/-! ## Stores -/
def spl : List AV -> Nat -> List AV -> List AV
 | cs, 0, [] => cs
 | [], _, _ => []
 | c :: cs, k + 1, ws => c :: spl cs k ws
 | _ :: cs, 0, w :: ws => w :: spl cs 0 ws
theorem Ji : ∀ (cs : List AV) (k : Nat) (ws : List AV), k + ws.length <= cs.length -> spl cs k ws = cs.take k ++ ws ++ cs.drop (k + ws.length)
 | cs, 0, [], _ => by unfold spl; simp
 | [], k + 1, ws, h => by simp at h
 | [], 0, w :: ws, h => by simp at h
 | c :: cs, k + 1, ws, h => by
  rw [spl, Ji cs k ws (by simp at h; omega)]
  rw [show k + 1 + ws.length = (k + ws.length) + 1 by omega]; simp
 | c :: cs, 0, w :: ws, h => by
  rw [spl, Ji cs 0 ws (by simp at h ⊢; omega)]
  simp
def q9 (P : Program) (t : TypeId) (k : Nat) : Bool := match P.info? t with | some i => Nat.beq i.size k | none => false
theorem vV {t : TypeId} {k : Nat} (h : q9 P t k = true) (w : World) : (sizeOf t).run P w = .ok k w := by
 unfold q9 at h
 split at h
 ·rename_i i hi
  have := Nat.eq_of_beq_eq_true h
  subst this
  simp [sizeOf, typeInfo, hi]
 ·cases h
theorem xC {t ty : TypeId} {g off : Nat} {v : Value} {cur : Array Value} {w : World} (hg : w.heap[g]? = some (.cells cur ty (0, 0))) (hz : q9 P t v.cells.size = true) (hl : off + v.cells.size <= cur.size) (h1 : ∀ u ∈ v.cells.toList, u.oneCell' = true) :
  (storeVar t ⟨g, off, none⟩ v).run P w = .ok () (w.setRow g (cur.toList.take off ++ v.cells.toList ++ cur.toList.drop (off + v.cells.size)).toArray) := by
 have h := run_storeCells_at P g off ty v.cells.toList 0 cur w hg (by simpa using hl) h1
 simp only [Nat.add_zero, Array.length_toList] at h
 simp only [storeVar, Sem.run_bind, vV hz, Result.andThen_ok, ne_eq, not_true_eq_false, if_false]
 exact h
theorem j3Q {t : TypeId} {x y : Operand} (ho : o.op = .store t x y) {id off : Nat} (hx : evA s x = .ptr id off) {ty : TypeId} {cs : List AV} (hg : j9 h id = some (.blk ty cs)) {v : AV} (hv : evA s y = v)
  (hq : J2 v = true) (hz : q9 P t (qk v).length = true) (hl : off + (qk v).length <= cs.length) (hco : qC o = true) (hd : o.dst = none)
  (hk : xq P n ops Q rest s ((id, .blk ty (spl cs off (qk v))) :: h)) : A1 P n ops Q o rest s h := fun E σ ι a w hr ht => by
 subst hv
 have hX : VR σ ι (evA s x) (a.eval x) := jZ (List.all_eq_true.1 hco x (by rw [ho]; simp [Op.operands])) fun t _ => ht.at_ t
 have hY : VR σ ι (evA s y) (a.eval y) := jZ (List.all_eq_true.1 hco y (by rw [ho]; simp [Op.operands])) fun t _ => ht.at_ t
 rw [hx] at hX
 obtain ⟨g, h1, h2⟩ := hX.ptr_inv
 obtain ⟨g', cur, h3, h4, h5⟩ := hr.ch id _ hg
 rw [h3] at h1
 simp only [jC, Option.some.injEq] at h1
 subst h1
 obtain ⟨hL, hone⟩ := hY.cel hq
 have hlen : (a.eval y).cells.size = (qk (evA s y)).length := by rw [<- Array.length_toList]; exact hL.1.symm
 have hcur : cs.length = cur.size := by rw [<- Array.length_toList]; exact h5.1
 have hrun := xC (P := P) (t := t) (off := off) (v := a.eval y) h4 (by rw [hlen]; exact hz) (by rw [hlen]; omega) hone
 unfold Oper.wp
 have hrun' : (execOp a.eval o).run P w = .ok .skip (w.setRow g' (cur.toList.take off ++ (a.eval y).cells.toList ++ cur.toList.drop (off + (a.eval y).cells.size)).toArray) := by
  simp only [execOp, ho, h2, Instr.storeAt, Instr.sureAddr, Sem.run_bind, Sem.run_pure, Result.andThen_ok, hrun]
 rw [hrun', Oper.upon_skip, hd]
 have hsame : upd ι id (ι id) = ι := by funext i; unfold upd; split <;> simp_all
 have hnew := hr.turn (id := id) (u := ι id) (h' := (id, .blk ty (spl cs off (qk (evA s y)))) :: h) (c' := .blk ty (spl cs off (qk (evA s y)))) (w' := w.setRow g' (cur.toList.take off ++ (a.eval y).cells.toList ++ cur.toList.drop (off + (a.eval y).cells.size)).toArray)
  (fun i c hi hc => by rw [j7, if_neg (fun e => hi e.symm)] at hc; exact ⟨hc, .inl rfl⟩) (by rw [j7, if_pos rfl])
  ⟨g', _, by rw [hsame]; exact h3, setRow_heap w g' cur _ ty (0, 0) h4, by
   rw [hsame, Ji _ _ _ hl, List.toList_toArray, hlen]
   exact ((h5.take off).append hL).append (h5.drop _)⟩
  rfl rfl rfl (by simp) (fun k hk hne => setRow_other w g' k _ fun e => hne _ hg (by rw [e, h3]; rfl))
  (fun g2 hg2 => .inl ⟨_, hg, hg2⟩) (.inr rfl)
 rw [hsame] at hnew
 exact hk E σ ι _ _ hnew ht
/-! ## Lists that a function of their elements gives -/
theorem VR.lst_inv {σ : Sig} {ι : Nat -> Value} {sz : Nat} {xs : List (List AV)} {v : Value} (hv : VR σ ι (.lst sz xs) v) : ∃ A cap, v = .slice A xs.length cap ∧ xs.length <= cap ∧ cap <= maxLen ∧
  (xs = [] ∨ ∃ (b off : Nat) (g : Nat -> Value), A = some ⟨b, off, none⟩ ∧ (∀ c ∈ xs, c.length = sz) ∧ (∀ (j : Nat) (c : AV), xs.flatten[j]? = some c -> σ ⟨b, off + j, none⟩ = some (g j)) ∧ ∀ (j : Nat) (c : AV), xs.flatten[j]? = some c -> VR0 σ c (g j)) := by
 cases hv with
 | base _ _ h0 => cases h0 with
  | empty _ A cap h => exact ⟨A, cap, rfl, Nat.zero_le _, h, .inl rfl⟩
  | lst _ _ b off cap g h1 h2 h3 h4 h5 => exact ⟨_, cap, rfl, h1, h2, .inr ⟨b, off, g, rfl, h3, h4, h5⟩⟩
theorem wA {sz : Nat} : ∀ {xs : List (List AV)} {i j : Nat} {c : List AV} {x : AV}, (∀ c ∈ xs, c.length = sz) -> xs[i]? = some c -> c[j]? = some x -> xs.flatten[i * sz + j]? = some x
 | [], i, j, c, x, _, h, _ => by simp at h
 | y :: ys, 0, j, c, x, hs, h, hx => by
  simp at h; subst h
  rw [List.flatten_cons, Nat.zero_mul, Nat.zero_add, List.getElem?_append_left (List.getElem?_eq_some_iff.1 hx).1]; exact hx
 | y :: ys, i + 1, j, c, x, hs, h, hx => by
  have h1 := wA (xs := ys) (fun c hc => hs c (List.mem_cons_of_mem _ hc)) (by simpa using h) hx
  have h2 := hs y List.mem_cons_self
  rw [List.flatten_cons, List.getElem?_append_right (by rw [h2, Nat.add_mul]; omega), h2, Nat.add_mul, show i * sz + 1 * sz + j - sz = i * sz + j by omega]
  exact h1
theorem qM {sz : Nat} : ∀ {xs : List (List AV)}, (∀ c ∈ xs, c.length = sz) -> xs.flatten.length = xs.length * sz
 | [], _ => by simp
 | y :: ys, hs => by
  rw [List.flatten_cons, List.length_append, hs y List.mem_cons_self, qM fun c hc => hs c (List.mem_cons_of_mem _ hc), List.length_cons, Nat.add_mul]; omega
theorem j3L {σ : Sig} {ι : Nat -> Value} {sz : Nat} {xs : List (List AV)} {A : Option Addr} {len cap i : Nat} {c : List AV} (hv : VR σ ι (.lst sz xs) (.slice A len cap)) (hi : xs[i]? = some c) :
  ∃ b off, A = some ⟨b, off, none⟩ ∧ len = xs.length ∧ VR σ ι (.ref c) (.pointer (some ⟨b, off + i * sz, none⟩)) := by
 obtain ⟨A', cap', e, _, _, h⟩ := hv.lst_inv
 injection e with e1 e2 e3
 subst e1
 rcases h with h | ⟨b, off, g, hA, h3, h4, h5⟩
 ·subst h; simp at hi
 ·refine ⟨b, off, hA, e2, .base _ _ (.ref _ _ _ (fun j => g (i * sz + j)) (fun j x hx => ?_) fun j x hx => ?_)⟩
  ·rw [Nat.add_assoc]; exact h4 _ x (wA h3 hi hx)
  ·exact h5 _ x (wA h3 hi hx)
def qD (P : Program) (t : TypeId) : Option TypeId := match P.underlying t with | some (.slice e) => some e | _ => none
theorem qF {t e : TypeId} (h : qD P t = some e) : P.underlying t = some (.slice e) := by
 unfold qD at h
 split at h
 ·cases h; assumption
 ·cases h
theorem j6N {α : Type} {sz : Nat} {l : List α} {f : α -> List AV} {t e : TypeId} {x : Operand} (ho : o.op = .call { callee := .builtin .len, args := #[x], argTypes := #[t] }) (ht : qD P t = some e) (hx : evA s x = .lst sz (l.map f)) :
  OkO P o s h (.int .i64 l.length) := by
 refine ja fun E σ ι a w hr hv => ?_
 have hv := hv x (by rw [ho]; simp [Op.operands, Call.operands])
 rw [hx] at hv
 obtain ⟨A, cap, e1, e2, e3, _⟩ := hv.lst_inv
 refine ⟨.int .i64 l.length, ?_, .base _ _ (.int _ _ ?_)⟩
 ·simp [execOp, ho, resolve, invoke, builtin, Builtin.len_, run_underlying (qF ht), e1, goInt]
 ·simp only [maxLen, List.length_map] at e2 e3; simp only [jS]; omega
theorem Yq {t e : TypeId} {x : Operand} (ho : o.op = .call { callee := .builtin .len, args := #[x], argTypes := #[t] }) (ht : qD P t = some e) (hx : evA s x = .nils) :
  OkO P o s h (.int .i64 0) := by
 refine ja fun E σ ι a w hr hv => ?_
 have hv := hv x (by rw [ho]; simp [Op.operands, Call.operands])
 rw [hx] at hv
 have e1 : a.eval x = .slice none 0 0 := by
  generalize a.eval x = q at hv
  cases hv with
  | base _ _ h0 => cases h0; rfl
 refine ⟨.int .i64 0, ?_, .base _ _ (.int _ _ (by simp [jS]))⟩
 simp [execOp, ho, resolve, invoke, builtin, Builtin.len_, run_underlying (qF ht), e1, goInt]
theorem VT {α : Type} [Inhabited α] {l : List α} {f : α -> List AV} {t e : TypeId} {x y : Operand} {sz : Nat} {ik : IntKind} {i : Nat} (ho : o.op = .indexAddr t x y) (ht : qD P t = some e) (hz : q9 P e sz = true) (hx : evA s x = .lst sz (l.map f))
  (hy : evA s y = .int ik i) (hi : i < l.length) : OkO P o s h (.ref (f (l.getD i default))) := by
 refine ja fun E σ ι a w hr hv => ?_
 have hX := hv x (by rw [ho]; simp [Op.operands])
 have hY := hv y (by rw [ho]; simp [Op.operands])
 rw [hx] at hX
 rw [hy] at hY
 obtain ⟨A, cap, e1, e2, e3, _⟩ := hX.lst_inv
 rw [e1] at hX
 obtain ⟨b, off, h1, _, h3⟩ := j3L (i := i) (c := f (l.getD i default)) hX (by simp [hi])
 refine ⟨_, ?_, h3⟩
 simp only [execOp, ho, e1, h1, hY.int_inv.1, Instr.indexAt, asIntOf, Sem.run_bind, Sem.run_pure, Result.andThen_ok, run_underlying (qF ht), vV hz]
 have h4 : (0 : Int) <= (i : Int) ∧ (i : Int) < ((l.map f).length : Int) := by simp; omega
 simp only [h4, and_self, if_true, Sem.run_bind, vV hz, Result.andThen_ok, Sem.run_pure, Int.toNat_natCast, Go.WideShapes.add_plain]
theorem j1N {α : Type} [Inhabited α] {l : List α} {f : α -> List AV} {t e : TypeId} {x y : Operand} {sz : Nat} {ik : IntKind} {i : Int} (ho : o.op = .indexAddr t x y) (ht : qD P t = some e) (hz : q9 P e sz = true) (hx : evA s x = .lst sz (l.map f))
  (hy : evA s y = .int ik i) (h0 : 0 <= i) (hi : i < l.length) : OkO P o s h (.ref (f (l.getD i.toNat default))) := by
 obtain ⟨k, rfl⟩ := Int.eq_ofNat_of_zero_le h0
 exact VT ho ht hz hx hy (by omega)
def zn (s : j6) (x : Option Operand) (d m : Nat) : Prop := match x with | some y => ∃ k, evA s y = .int k m | none => m = d
theorem j2A {α : Type} {l : List α} {f : α -> List AV} {t e : TypeId} {x : Operand} {lo hi : Option Operand} {sz : Nat} {a b : Nat} (ho : o.op = .slice t x lo hi none) (ht : qD P t = some e) (hz : q9 P e sz = true) (hx : evA s x = .lst sz (l.map f))
  (hlo : zn s lo 0 a) (hhi : zn s hi l.length b) (hab : a <= b) (hb : b <= l.length) :
  OkO P o s h (.lst sz (((l.take b).drop a).map f)) := by
 refine ja fun E σ ι act w hr hv => ?_
 have hX := hv x (by rw [ho]; simp [Op.operands])
 rw [hx] at hX
 obtain ⟨A, cap, e1, e2, e3, e4⟩ := hX.lst_inv
 have e2' : l.length <= cap := by simpa using e2
 have rb : ∀ (v : Value) (k : IntKind) (m y : Nat) (c : BoundsCode), v = .int k m -> m <= y -> (Instr.sliceBound v y c).run P w = .ok m w := fun v k m y c hv hm => by
  have h4 : (0 : Int) <= (m : Int) ∧ (m : Int) <= (y : Int) := by omega
  simp only [Instr.sliceBound, hv, asIntOf, Sem.run_bind, Sem.run_pure, Result.andThen_ok, h4, and_self, if_true, Int.toNat_natCast]
 have rs : (Instr.sliceBounds true l.length cap (lo.map act.eval) (hi.map act.eval) none).run P w = .ok (a, b, cap) w := by
  have hlo' : ∀ y, lo = some y -> ∃ k, act.eval y = .int k a := fun y e => by
   subst e
   obtain ⟨k, hk⟩ := hlo
   have hY := hv y (by rw [ho]; simp [Op.operands])
   rw [hk] at hY
   exact ⟨k, hY.int_inv.1⟩
  have hhi' : ∀ y, hi = some y -> ∃ k, act.eval y = .int k b := fun y e => by
   subst e
   obtain ⟨k, hk⟩ := hhi
   have hY := hv y (by rw [ho]; cases lo <;> simp [Op.operands])
   rw [hk] at hY
   exact ⟨k, hY.int_inv.1⟩
  unfold Instr.sliceBounds
  cases lo with
  | none =>
   simp only [zn] at hlo; subst hlo
   cases hi with
   | none => simp only [zn] at hhi; subst hhi; simp
   | some z =>
    obtain ⟨k, hk⟩ := hhi' z rfl
    have r2 := fun c => rb (act.eval z) k b cap c hk (by omega)
    simp [r2]
  | some y =>
   obtain ⟨k, hk⟩ := hlo' y rfl
   have r1 := fun c => rb (act.eval y) k a b c hk hab
   cases hi with
   | none => simp only [zn] at hhi; subst hhi; simp [r1]
   | some z =>
    obtain ⟨k', hk'⟩ := hhi' z rfl
    have r2 := fun c => rb (act.eval z) k' b cap c hk' (by omega)
    simp [r1, r2]
 have hs := qF ht
 have hrun : (execOp act.eval o).run P w = .ok (.value (.slice (if cap = a then A else A.map (·.add (a * sz))) (b - a) (cap - a))) w := by
  simp [execOp, ho, Instr.sliceAt, run_underlying hs, Instr.slice, e1, rs, vV hz]
 refine ⟨_, hrun, ?_⟩
 by_cases hab' : a = b
 ·subst hab'
  have : ((l.take a).drop a) = [] := by simp
  rw [this, Nat.sub_self]
  exact .base _ _ (.empty _ _ _ (by simp only [maxLen] at *; omega))
 ·rw [if_neg (by omega)]
  rcases e4 with e4 | ⟨b', off, g, rfl, h3, h4, h5⟩
  ·have : l = [] := by simpa using e4
   subst this; simp at hb; omega
  have hlen : b - a = (((l.take b).drop a).map f).length := by simp; omega
  have hle : (((l.take b).drop a).map f).length <= cap - a := by simp; omega
  rw [hlen]
  have hfl : ∀ (j : Nat) (c : AV), (((l.take b).drop a).map f).flatten[j]? = some c -> (l.map f).flatten[a * sz + j]? = some c := by
   have hpart : (l.map f).flatten = ((l.take a).map f).flatten ++ ((((l.take b).drop a).map f).flatten ++ ((l.drop b).map f).flatten) := by
    have h6 : l = l.take a ++ ((l.take b).drop a ++ l.drop b) := by
     have h7 : (l.take b).take a = l.take a := by rw [List.take_take, Nat.min_eq_left hab]
     calc l = l.take b ++ l.drop b := (List.take_append_drop b l).symm
      _ = ((l.take b).take a ++ (l.take b).drop a) ++ l.drop b := by rw [List.take_append_drop a (l.take b)]
      _ = _ := by rw [h7, List.append_assoc]
    conv => lhs; rw [h6]
    simp
   intro j c hj
   have hla : ((l.take a).map f).flatten.length = a * sz := by
    rw [qM (sz := sz)]
    ·simp; rw [Nat.min_eq_left (by omega)]
    ·intro c hc
     obtain ⟨x, hx1, rfl⟩ := List.mem_map.1 hc
     exact h3 _ (List.mem_map.2 ⟨x, List.mem_of_mem_take hx1, rfl⟩)
   rw [hpart, List.getElem?_append_right (by omega), hla, Nat.add_sub_cancel_left, List.getElem?_append_left (List.getElem?_eq_some_iff.1 hj).1]
   exact hj
  have hadd : (some (⟨b', off, none⟩ : Addr)).map (·.add (a * sz)) = some ⟨b', off + a * sz, none⟩ := by simp [Go.WideShapes.add_plain]
  rw [hadd]
  refine .base _ _ (.lst _ _ _ _ _ (fun j => g (a * sz + j)) hle (by omega) (fun c hc => ?_) (fun j c hj => ?_) fun j c hj => ?_)
  ·obtain ⟨x, hx1, rfl⟩ := List.mem_map.1 hc
   exact h3 _ (List.mem_map.2 ⟨x, List.mem_of_mem_take (List.mem_of_mem_drop hx1), rfl⟩)
  ·rw [Nat.add_assoc]; exact h4 _ c (hfl j c hj)
  ·exact h5 _ c (hfl j c hj)
end
section
variable {P : Program} {n : Md} {Q : Exit -> j6 -> j8 -> Prop} {s : j6} {h : j8} {ops : Array Oper} {rest : List Oper} {o : Oper} {K : j6 -> Prop}
def zx (s : j6) : List (Nat × Operand) -> Nat -> Option (List (List AV))
 | [], _ => some []
 | (i, x) :: r, k => bif Nat.beq i k then (VJ (evA s x) fun v => bif J2 v && wk (qk v) then (match zx s r (k + 1) with | some ys => some (qk v :: ys) | none => none) else none) else none
theorem zF {σ : Sig} {ι : Nat -> Value} {a : Act} : ∀ (parts : List (Nat × Operand)) (k : Nat) (xs : List (List AV)), zx s parts k = some xs -> (∀ p ∈ parts, VR σ ι (evA s p.2) (a.eval p.2)) ->
  parts.map (·.1) = List.range' k parts.length ∧ L2 (fun c v => L2 (VR0 σ) c v.cells.toList) xs (parts.map fun p => a.eval p.2)
 | [], k, xs, h, _ => by simp only [zx, Option.some.injEq] at h; subst h; exact ⟨rfl, L2.nil _⟩
 | (i, x) :: r, k, xs, h, hv => by
  unfold zx at h
  cases hb : Nat.beq i k with
  | false => rw [hb] at h; cases h
  | true =>
   have hik := Nat.eq_of_beq_eq_true hb
   subst hik
   rw [hb, cond_true, vz] at h
   cases hq : J2 (evA s x) && wk (qk (evA s x)) with
   | false => rw [hq] at h; cases h
   | true =>
    rw [hq, cond_true] at h
    split at h
    ·rename_i ys hys
     cases h
     obtain ⟨h1, h2⟩ := zF r (i + 1) ys hys fun p hp => hv p (List.mem_cons_of_mem _ hp)
     simp only [Bool.and_eq_true] at hq
     refine ⟨by simp [List.range'_succ, h1], h2.cons (QR ((hv (i, x) List.mem_cons_self).cel hq.1).1 hq.2)⟩
    ·cases h
theorem y4 {α : Type} : ∀ (l : List (Nat × α)) (k : Nat), l.map (·.1) = List.range' k l.length -> l = (((l.map (·.2)).zipIdx k).map fun x => (x.2, x.1))
 | [], k, _ => rfl
 | (i, x) :: r, k, h => by
  simp only [List.map_cons, List.length_cons, List.range'_succ, List.cons.injEq] at h
  obtain ⟨rfl, h2⟩ := h
  simp only [List.map_cons, List.zipIdx_cons, List.cons.injEq, true_and]
  exact y4 r _ h2
theorem Qg {sz : Nat} (hsz : 0 < sz) : ∀ (vs : List Value) (r : Array Value), (∀ v ∈ vs, v.cells.size = sz) -> r.size = vs.length * sz -> (∀ k, r[k]? = if k < vs.length * sz then (vs[k / sz]?).bind (fun v => v.cells[k % sz]?) else none) ->
  r.toList = (vs.map fun v => v.cells.toList).flatten := by
 intro vs r hv hr hk
 apply List.ext_getElem?
 intro k
 rw [Array.getElem?_toList, hk]
 have hlen : ∀ (vs : List Value), (∀ v ∈ vs, v.cells.size = sz) -> (vs.map fun v => v.cells.toList).flatten.length = vs.length * sz := by
  intro vs
  induction vs with
  | nil => intro _; simp
  | cons v vs ih => intro hv; rw [List.map_cons, List.flatten_cons, List.length_append, ih fun u hu => hv u (List.mem_cons_of_mem _ hu), Array.length_toList, hv v List.mem_cons_self, List.length_cons, Nat.add_mul]; omega
 by_cases hlt : k < vs.length * sz
 ·rw [if_pos hlt]
  have : ∀ (vs : List Value) (k : Nat), (∀ v ∈ vs, v.cells.size = sz) -> k < vs.length * sz -> (vs[k / sz]?).bind (fun v => v.cells[k % sz]?) = (vs.map fun v => v.cells.toList).flatten[k]? := by
   intro vs
   induction vs with
   | nil => intro k _ h; simp at h
   | cons v vs ih =>
    intro k hv hk
    have hvs : v.cells.toList.length = sz := by simp [hv v List.mem_cons_self]
    rw [List.map_cons, List.flatten_cons]
    by_cases h1 : k < sz
    ·rw [List.getElem?_append_left (by omega), Nat.div_eq_of_lt h1, Nat.mod_eq_of_lt h1]
     simp
    ·obtain ⟨m, rfl⟩ : ∃ m, k = m + sz := ⟨k - sz, by omega⟩
     rw [List.getElem?_append_right (by omega), hvs, Nat.add_sub_cancel, Nat.add_div_right _ hsz, Nat.add_mod_right, List.getElem?_cons_succ]
     exact ih m (fun u hu => hv u (List.mem_cons_of_mem _ hu)) (by simp only [List.length_cons, Nat.add_mul] at hk; omega)
  exact this vs k hv hlt
 ·rw [if_neg hlt, List.getElem?_eq_none (by rw [hlen vs hv]; omega)]
theorem zl {σ : Sig} : ∀ {xs : List (List AV)} {vs : List Value}, L2 (fun c v => L2 (VR0 σ) c v.cells.toList) xs vs -> L2 (VR0 σ) xs.flatten (vs.map fun v => v.cells.toList).flatten
 | [], vs, h => by rw [L2.nil_iff] at h; subst h; exact L2.nil _
 | c :: xs, vs, h => by
  obtain ⟨v, vs', rfl, h1, h2⟩ := h.cons_inv
  exact h1.append (zl h2)
def j1E (sz : Nat) : List (List AV) -> Bool
 | [] => true
 | c :: r => Nat.beq c.length sz && j1E sz r
theorem xF {sz : Nat} : ∀ {xs : List (List AV)}, j1E sz xs = true -> ∀ c ∈ xs, c.length = sz
 | c :: r, h, d, hd => by
  simp only [j1E, Bool.and_eq_true] at h
  rcases List.mem_cons.1 hd with rfl | hd
  ·exact Nat.eq_of_beq_eq_true h.1
  ·exact xF h.2 d hd
theorem zH {t e : TypeId} {len sz : Nat} {parts : Array (Nat × Value)} {zi : TypeInfo} {z : Value} {r : Array Value} (w : World) (ht : P.underlying t = some (.slice e)) (hz : q9 P e sz = true) (hzi : P.info? e = some zi) (hzz : zi.zero = some z) (hb : ¬ len * sz > 2 ^ 24)
  (hf : Instr.fill (fun i => some (i * sz, sz)) ((Array.range (len * sz)).map (z.cells[· % z.cells.size]!)) parts.toList = some r) :
  (Instr.buildSlice t len parts).run P w = .ok (.slice (some ⟨w.heap.size, 0, none⟩) len len) (w.alloc (.cells r e)) := by
 by_cases hzero : len * sz = 0
 ·rw [hzero, Array.range_zero', Array.map_empty] at hf
  simp only [Instr.buildSlice, Sem.run_bind, run_underlying ht, Result.andThen_ok, vV hz, hzero]
  simp [hf, newRow, Array.range_zero']
 ·simp only [Instr.buildSlice, Sem.run_bind, run_underlying ht, Result.andThen_ok, vV hz, hb, hzero, if_false]
  simp [zeroValue, typeInfo, hzi, hzz, hf, newRow]
theorem VX {t e : TypeId} {sz len : Nat} {parts : Array (Nat × Operand)} {xs : List (List AV)} (ho : o.op = .buildSlice t len parts) (ht : qD P t = some e) (hz : q9 P e sz = true) {z0 : List AV} (h0 : wQ P e = some z0) (hsz : 0 < sz) (hb : len * sz <= 16777216)
  (hp : zx s parts.toList 0 = some xs) (hl : parts.toList.length = len) (hs : j1E sz xs = true) : OkO P o s h (.lst sz xs) := by
 intro E σ ι a w hr hx K Q hK
 have hmem : ∀ p ∈ parts.toList, VR σ ι (evA s p.2) (a.eval p.2) := fun p hp => hx p.2 (by rw [ho]; simp only [Op.operands]; simpa using ⟨p.1, by simpa using hp⟩)
 obtain ⟨h1, h2⟩ := zF (a := a) parts.toList 0 xs hp hmem
 obtain ⟨zi, z, hzi, hzz, _⟩ := vI h0
 have hvs : ∀ v ∈ parts.toList.map (fun p => a.eval p.2), v.cells.size = sz := fun v hv => by
  obtain ⟨j, hj⟩ := List.getElem?_of_mem hv
  have hjl : j < xs.length := by rw [h2.1]; exact (List.getElem?_eq_some_iff.1 hj).1
  have h3 := h2.2 j xs[j] v (List.getElem?_eq_getElem hjl) hj
  rw [<- Array.length_toList, <- h3.1]
  exact xF hs _ (List.getElem_mem hjl)
 have hisz : zi.size = sz := by
  unfold q9 at hz; rw [hzi] at hz; exact Nat.eq_of_beq_eq_true hz
 have hxl : xs.length = len := by rw [h2.1, List.length_map, hl]
 have hml : (parts.toList.map (fun p => a.eval p.2)).length = len := by rw [List.length_map, hl]
 obtain ⟨r, hr1, hr2, hr3⟩ := Go.Great.fill_dense hsz (parts.toList.map (fun p => a.eval p.2)) 0 ((Array.range (len * sz)).map (z.cells[· % z.cells.size]!)) hvs (by rw [hml]; simp)
 have hparts : (parts.map fun (i, x) => (i, a.eval x)).toList = (((parts.toList.map (fun p => a.eval p.2)).zipIdx 0).map fun x => (x.2, x.1)) := by
  rw [Array.toList_map, y4 (parts.toList.map fun (i, x) => (i, a.eval x)) 0 (by simpa [Function.comp_def] using h1)]
  simp [Function.comp_def]
 have hrl : r.toList = ((parts.toList.map (fun p => a.eval p.2)).map fun v => v.cells.toList).flatten := by
  refine Qg hsz _ r hvs (by rw [hr2, hml]; simp) fun k => ?_
  rw [hr3 k]
  simp only [Nat.zero_mul, Nat.zero_le, true_and, Nat.zero_add, Nat.sub_zero]
  split
  ·rfl
  ·rename_i hk
   rw [hml] at hk
   apply Array.getElem?_eq_none; simp; omega
 have hrun : (execOp a.eval o).run P w = .ok (.value (.slice (some ⟨w.heap.size, 0, none⟩) len len)) (w.alloc (.cells r e)) := by
  have hr1' : Instr.fill (fun i => some (i * sz, sz)) ((Array.range (len * sz)).map (z.cells[· % z.cells.size]!)) (parts.map fun (i, x) => (i, a.eval x)).toList = some r := by rw [hparts]; exact hr1
  have h5 := zH (P := P) w (qF ht) hz hzi hzz (by omega) hr1'
  simp only [execOp, ho, Sem.run_bind, Sem.run_pure, h5, Result.andThen_ok]
 unfold Oper.wp
 rw [hrun]
 obtain ⟨g1, g2, g3⟩ := hr.newImm r.toList e
 rw [Array.toArray_toList] at g2
 have hL : L2 (VR0 σ) xs.flatten r.toList := by rw [hrl]; exact zl h2
 have hR : VR (xz σ w.heap.size r.toList) ι (.lst sz xs) (.slice (some ⟨w.heap.size, 0, none⟩) xs.length len) := by
  refine .base _ _ (.lst _ _ _ 0 _ (fun j => (r.toList[j]?).getD undef) (by omega) (by simp only [maxLen]; have : len <= len * sz := Nat.le_mul_of_pos_right _ hsz; omega) (xF hs) (fun j c hc => ?_) fun j c hc => ?_)
  ·obtain ⟨u, hu, _⟩ := hL.get hc
   rw [g3, hu]; rfl
  ·obtain ⟨u, hu, hR⟩ := hL.get hc
   rw [hu]; exact hR.mono g1
 rw [hxl] at hR
 exact hK _ _ _ g1 g2 hR
end
end Go.Proofs.YtfjoaeghnfkdlaaGreatDoor
