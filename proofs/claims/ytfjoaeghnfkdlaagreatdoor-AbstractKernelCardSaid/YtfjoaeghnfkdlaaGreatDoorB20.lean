/- Rows that a row or a map names, each of which may grow in its place. No condition. -/
import Derived.Test.YtfjoaeghnfkdlaaGreatDoorB18
import Derived.Test.YtfjoaeghnfkdlaaGreatDoorB16
import Derived.Test.YtfjoaeghnfkdlaaGreatDoorB19
set_option linter.unusedSimpArgs false
set_option linter.unusedVariables false
set_option maxHeartbeats 1000000
set_option maxRecDepth 100000
namespace Go.Proofs.YtfjoaeghnfkdlaaGreatDoor
open Go.RowKit
open Go.MapKept
def rowI (H : Array Obj) (e : TypeId) (u : Value) (l : List Int) : Prop :=
 ∃ w : World, w.heap = H ∧ w.ownsRow 0 e 1 u l.length (l.map fun x => Value.int .i64 x) ∧ ∀ x ∈ l, jS .i64 x
def rowC (H : Array Obj) (e : TypeId) (u : Value) (cs : List Value) : Prop := ∃ w : World, w.heap = H ∧ w.ownsRow 0 e 1 u cs.length cs
theorem zd {w : World} {e : TypeId} {sz : Nat} {v : Value} {k : Nat} {vs : List Value} (h : w.ownsRow 0 e sz v k vs) : (∃ A c, v = .slice A k c ∧ k <= c ∧ c <= maxLen) ∧ ∀ g, jC v = some g -> g < w.heap.size := by
 rcases h.2 with ⟨h3, h4⟩ | ⟨g, cap, cur, hv, hb, hg, h1, h2, r⟩
 ·subst h4; exact ⟨⟨none, 0, h3, by simp, by simp⟩, fun g hg => by rw [h3] at hg; cases hg⟩
 ·exact ⟨⟨_, _, hv, h1, h2⟩, fun g' hg' => by rw [hv] at hg'; simp only [jC, Option.some.injEq] at hg'; subst hg'; exact (Array.getElem?_eq_some_iff.1 hg).1⟩
theorem rowC.at_ {w : World} {e : TypeId} {u : Value} {cs : List Value} (h : rowC w.heap e u cs) : w.ownsRow 0 e 1 u cs.length cs := by
 obtain ⟨w', h1, h2⟩ := h
 exact xE h2 fun g _ => by rw [h1]
theorem rowC.keep {H H' : Array Obj} {e : TypeId} {u : Value} {cs : List Value} (h : rowC H e u cs) (hw : ∀ g, jC u = some g -> H'[g]? = H[g]?) : rowC H' e u cs := by
 obtain ⟨w', h1, h2⟩ := h
 obtain ⟨⟨A, c, e1, _⟩, _⟩ := zd h2
 exact ⟨{ w' with heap := H' }, rfl, xE h2 fun g hg => by rw [h1]; exact hw g (hg.one fun vs e => by rw [e1] at e; cases e)⟩
theorem rowC.lt {H : Array Obj} {e : TypeId} {u : Value} {cs : List Value} (h : rowC H e u cs) : (∃ A c, u = .slice A cs.length c ∧ cs.length <= c ∧ c <= maxLen) ∧ ∀ g, jC u = some g -> g < H.size := by
 obtain ⟨w', h1, h2⟩ := h
 rw [<- h1]; exact zd h2
theorem rowI.c {H : Array Obj} {e : TypeId} {u : Value} {l : List Int} (h : rowI H e u l) : rowC H e u (l.map fun x => Value.int .i64 x) := let ⟨w, h1, h2, _⟩ := h; ⟨w, h1, by rw [List.length_map]; exact h2⟩
theorem rowI.of {H : Array Obj} {e : TypeId} {u : Value} {l : List Int} (h : rowC H e u (l.map fun x => Value.int .i64 x)) (hl : ∀ x ∈ l, jS .i64 x) : rowI H e u l := let ⟨w, h1, h2⟩ := h; ⟨w, h1, by rw [List.length_map] at h2; exact h2, hl⟩
theorem rowI.rg {H : Array Obj} {e : TypeId} {u : Value} {l : List Int} (h : rowI H e u l) : ∀ x ∈ l, jS .i64 x := let ⟨_, _, _, h3⟩ := h; h3
inductive Cont where
 | arr (at_ : List Nat)
 | tab (at_ : List (Int × Nat))
structure Fo where
 k : Nat
 rows : List (Nat × List Int)
 cont : Cont
def MP (vs : Array Value) : List MapEntry -> List (Int × Nat) -> Prop
 | [], [] => True
 | e :: es, (k, i) :: m => e.key = .int .i64 k ∧ vs[i]? = some e.val ∧ MP vs es m
 | _, _ => False
def contR (H : Array Obj) (ec : TypeId) (vs : Array Value) (c : Value) : Cont -> Prop
 | .arr at_ => ∃ cs : List Value, cs.length = at_.length ∧ rowC H ec c cs ∧ ∀ (j i : Nat), at_[j]? = some i -> ∃ u, vs[i]? = some u ∧ cs[j]? = some u
 | .tab at_ => ∃ b es clock, c = .map (some b) ∧ H[b]? = some (.map es clock) ∧ MP vs es.toList at_
def apart (vs : Array Value) (p q : Nat × List Int) : Prop := p.1 ≠ q.1 ∧ ∀ u u' g, vs[p.1]? = some u -> vs[q.1]? = some u' -> jC u = some g -> jC u' ≠ some g
structure FoR (ec e : TypeId) (F : Fo) (H : Array Obj) (v : Value) (vs : Array Value) (c : Value) : Prop where
 tup : v = .tuple vs
 size : vs.size = F.k
 head : vs[0]? = some c
 one : ∀ u ∈ vs.toList, u.oneCell' = true ∧ ∀ g, jC u = some g -> g < H.size
 cont : contR H ec vs c F.cont
 rows : ∀ p ∈ F.rows, ∃ u, vs[p.1]? = some u ∧ rowI H e u p.2 ∧ ∀ g, jC u = some g -> jC c ≠ some g
 pw : F.rows.Pairwise (apart vs)
theorem yH {vs : Array Value} {u : Value} {i g : Nat} (h : vs[i]? = some u) (hg : jC u = some g) : Feet (.tuple vs) g := .inr ⟨vs, u, rfl, by rw [Array.mem_toList_iff]; exact Array.mem_of_getElem? h, hg⟩
theorem contR.keep {H H' : Array Obj} {ec : TypeId} {vs : Array Value} {c : Value} {C : Cont} (h : contR H ec vs c C) (hw : ∀ g, jC c = some g -> H'[g]? = H[g]?) : contR H' ec vs c C := by
 cases C with
 | arr at_ => obtain ⟨cs, h1, h2, h3⟩ := h; exact ⟨cs, h1, h2.keep hw, h3⟩
 | tab at_ => obtain ⟨b, es, clock, h1, h2, h3⟩ := h; exact ⟨b, es, clock, h1, by rw [hw b (by rw [h1]; rfl)]; exact h2, h3⟩
def foC (ec e : TypeId) (F : Fo) : SemC where
 rel := fun σ H v => ∃ vs c, FoR ec e F H v vs c
 keep := fun σ σ' H H' v ⟨vs, c, h⟩ hs hw => by
  have hw' : ∀ (i : Nat) u, vs[i]? = some u -> ∀ g, jC u = some g -> H'[g]? = H[g]? := fun i u hi g hg => hw g (by rw [h.tup]; exact yH hi hg)
  refine ⟨vs, c, h.tup, h.size, h.head, fun u hu => ⟨(h.one u hu).1, fun g hg => ?_⟩, h.cont.keep (hw' 0 c h.head), fun p hp => ?_, h.pw⟩
  ·obtain ⟨i, hi⟩ := List.getElem?_of_mem hu
   have h1 := hw' i u (by rw [<- Array.getElem?_toList]; exact hi) g hg
   have h2 := (h.one u hu).2 g hg
   have h3 : H[g]? = some H[g] := Array.getElem?_eq_getElem h2
   rw [h3] at h1
   exact (Array.getElem?_eq_some_iff.1 h1).1
  ·obtain ⟨u, h1, h2, h3⟩ := h.rows p hp
   exact ⟨u, h1, .of (h2.c.keep (hw' _ u h1)) h2.rg, h3⟩
 lt := fun σ H v g ⟨vs, c, h⟩ hg => by
  rw [h.tup] at hg
  rcases hg with hg | ⟨vs', u, e, hu, hg⟩
  ·cases hg
  ·cases e; exact (h.one u hu).2 g hg
section
variable {P : Program} {n : Md} {Q : Exit -> j6 -> j8 -> Prop} {s : j6} {h : j8} {ops : Array Oper} {rest : List Oper} {o : Oper}
theorem VR.part_inv {σ : Sig} {ι : Nat -> Value} {id j : Nat} {v : Value} (hv : VR σ ι (.part id j) v) : ∃ vs, ι id = .tuple vs ∧ vs[j]? = some v ∧ v.oneCell' = true := by
 cases hv with
 | base _ _ h0 => cases h0
 | part _ _ vs _ h hj h1 => exact ⟨vs, h, hj, h1⟩
theorem xK {u : Value} {k c : Nat} {A : Option Addr} (h : u = .slice A k c) : u.oneCell' = true := by rw [h]; rfl
theorem j2S {w : World} {e : TypeId} {u : Value} {cs : List Value} (h : rowC w.heap e u cs) {g : Nat} (hg : jC u = some g) {j : Nat} {x : Value} (hj : cs[j]? = some x) : w.cell? ⟨g, j, none⟩ = some x := by
 rcases h.at_.2 with ⟨h1, _⟩ | ⟨g', cap, cur, h1, _, h2, h3, h4, h5, h6⟩
 ·rw [h1] at hg; cases hg
 ·rw [h1] at hg; simp only [jC, Option.some.injEq] at hg; subst hg
  simp only [World.cell?, h2, Option.isSome_none, Bool.false_eq_true, if_false]
  rw [<- h6, List.getElem?_take] at hj
  split at hj
  ·rw [<- Array.getElem?_toList]; exact hj
  ·cases hj
theorem j3E {H : Array Obj} {e : TypeId} {u : Value} {cs : List Value} (h : rowC H e u cs) {j : Nat} {x : Value} (hj : cs[j]? = some x) : ∃ g, jC u = some g := by
 obtain ⟨w, _, h2⟩ := h
 rcases h2.2 with ⟨h1, h3⟩ | ⟨g', cap, cur, h1, _⟩
 ·have := (List.getElem?_eq_some_iff.1 hj).1; omega
 ·exact ⟨g', by rw [h1]; rfl⟩
theorem Rel.turnG {E : Env} {σ : Sig} {ι : Nat -> Value} {w w' : World} (hr : Rel E σ ι h w) {id : Nat} {u : Value} {h' : j8} {c' : Chunk}
  (hh : ∀ i c, i ≠ id -> j9 h' i = some c -> j9 h i = some c ∧ match c with | .blk _ cs => ∀ (j : Nat) (x : AV) (v : Value), cs[j]? = some x -> VR σ ι x v -> VR σ (upd ι id u) x v | _ => True) (hc' : j9 h' id = some c') (hcr : CR σ (upd ι id u) w' id c')
  (hos : w'.os = w.os) (htape : w'.tape = w.tape) (hout : w'.output = w.output) (hsz : w.heap.size <= w'.heap.size)
  (hblk : ∀ k, k < w.heap.size -> (∀ c, j9 h id = some c -> ¬ Feet (ι id) k) -> w'.heap[k]? = w.heap[k]?)
  (hfoot : ∀ g, Feet u g -> (∃ c, j9 h id = some c ∧ Feet (ι id) g) ∨ w.heap.size <= g) (hpin : 5 <= id ∨ u = ι id) : Rel E σ (upd ι id u) h' w' := by
 have heq : u = ι id -> upd ι id u = ι := fun e => by funext i; unfold upd; split <;> simp_all
 have hsig : ∀ g, w.heap.size <= g -> ∀ o, σ ⟨g, o, none⟩ = none := fun g hg o => by
  cases hs : σ ⟨g, o, none⟩ with
  | none => rfl
  | some v => have := hr.sig_lt hs; simp only at this; omega
 have hfar : ∀ k, (∃ v o, σ ⟨k, o, none⟩ = some v) -> w'.heap[k]? = w.heap[k]? := fun k ⟨v, o, hk⟩ => hblk k (hr.sig_lt hk) fun c hc e => by
  rw [(hr.foot id c hc k e).2 o] at hk; cases hk
 refine ⟨hos.trans hr.os, htape.trans hr.tape, hout.trans hr.output, Nat.le_trans hr.size hsz, ?_, hr.sigOld, ?_, ?_, ?_, ?_, ?_, hr.low, ?_⟩
 ·intro b hb hm
  rw [hblk b (by have := hr.size; omega) fun c hc e => by rcases (hr.foot id c hc b e).1 with h1 | h1; exact hm _ h1; omega]
  exact hr.old b hb hm
 ·intro a v ha
  have hs := World.cell?_spot (hr.sub a v ha)
  obtain ⟨b, off, spot⟩ := a
  simp only at hs; subst hs
  rw [World.cell?_of_block (hfar b ⟨v, off, ha⟩)]
  exact hr.sub _ _ ha
 ·intro i c hc
  by_cases hi : i = id
  ·subst hi; rw [hc'] at hc; cases hc; exact hcr
  ·obtain ⟨h1, h2⟩ := hh i c hi hc
   have h3 := hr.ch i c h1
   have h4 : CR σ ι w' i c := h3.keep (Sig.le.refl σ) fun g hg => hblk g (hr.foot_lt h1 hg) fun d hd e => hi (hr.dj i id c d h1 hd g hg e)
   cases c with
    | blk ty cs =>
     obtain ⟨g, cur, h5, h6, h7⟩ := h4
     exact ⟨g, cur, by rw [jW hi]; exact h5, h6, h7.1, fun j x y a b => h2 j x y a (h7.2 j x y a b)⟩
    | row e sz xs =>
     obtain ⟨h0, h5, vs, h6, h7⟩ := h4
     exact ⟨h0, h5, vs, by rw [jW hi]; exact h6, h7⟩
    | sem c => show c.rel _ _ _; rw [jW hi]; exact h4
 ·intro i c hc g hg
  by_cases hi : i = id
  ·subst hi; rw [jM] at hg
   rcases hfoot g hg with ⟨d, h1, h2⟩ | h1
   ·exact hr.foot _ d h1 g h2
   ·exact ⟨.inr (by have := hr.size; omega), hsig g h1⟩
  ·rw [jW hi] at hg
   exact hr.foot i c (hh i c hi hc).1 g hg
 ·have hone : ∀ i c g, i ≠ id -> j9 h' i = some c -> Feet (ι i) g -> Feet u g -> False := fun i c g hi hc hg hu => by
   have h1 := (hh i c hi hc).1
   rcases hfoot g hu with ⟨d, h2, h3⟩ | h2
   ·exact hi (hr.dj i id c d h1 h2 g hg h3)
   ·have := hr.foot_lt h1 hg; omega
  intro i j c d hc hd g hi hj
  by_cases hii : i = id
  ·by_cases hjj : j = id
   ·rw [hii, hjj]
   ·subst hii; rw [jM] at hi; rw [jW hjj] at hj; exact (hone j d g hjj hd hj hi).elim
  ·by_cases hjj : j = id
   ·subst hjj; rw [jM] at hj; rw [jW hii] at hi; exact (hone i c g hii hc hi hj).elim
   ·rw [jW hii] at hi; rw [jW hjj] at hj
    exact hr.dj i j c d (hh i c hii hc).1 (hh j d hjj hd).1 g hi hj
 ·intro p hp
  obtain ⟨h1, h2⟩ := hr.pin p hp
  refine ⟨h1, ?_⟩
  by_cases hi : p.1 = id
  ·rcases hpin with h3 | h3
   ·omega
   ·rw [heq h3]; exact h2
  ·rw [jW hi]; exact h2
 ·intro p hp
  obtain ⟨h1, h2, h3⟩ := hr.xo p hp
  have hlt := (Array.getElem?_eq_some_iff.1 h2).1
  refine ⟨h1, (hblk p.1 hlt fun c hc e => h3 id c hc e).trans h2, fun i c hc e => ?_⟩
  by_cases hi : i = id
  ·subst hi; rw [jM] at e
   rcases hfoot p.1 e with ⟨d, h4, h5⟩ | h4
   ·exact h3 _ d h4 h5
   ·omega
  ·rw [jW hi] at e
   exact h3 i c (hh i c hi hc).1 e
theorem VR.ext {σ : Sig} {ι : Nat -> Value} {N : Nat} {vs vs' : Array Value} (hι : ι N = .tuple vs) (hv : ∀ (j : Nat) x, vs[j]? = some x -> vs'[j]? = some x) {x : AV} {v : Value} (h : VR σ ι x v) : VR σ (YtfjoaeghnfkdlaaGreatDoor.upd ι N (.tuple vs')) x v := by
 induction h with
 | base x v h => exact .base _ _ h
 | own id h1 =>
  by_cases hi : id = N
  ·subst hi; rw [hι] at h1; cases h1
  ·have e := jW (ι := ι) (u := .tuple vs') hi
   rw [<- e] at h1 ⊢
   exact .own id h1
 | ptr id off g h =>
  by_cases hi : id = N
  ·subst hi; rw [hι] at h; cases h
  ·exact .ptr id off g (by rw [jW hi]; exact h)
 | eptr id sz i j g h =>
  by_cases hi : id = N
  ·subst hi; rw [hι] at h; cases h
  ·exact .eptr id sz i j g (by rw [jW hi]; exact h)
 | part id j ws v h hj h1 =>
  by_cases hi : id = N
  ·subst hi; rw [hι] at h; cases h
   exact .part id j vs' v (jM _ _ _) (hv j v hj) h1
  ·exact .part id j ws v (by rw [jW hi]; exact h) hj h1
 | pptr id j off g ws u h hj hg =>
  by_cases hi : id = N
  ·subst hi; rw [hι] at h; cases h
   exact .pptr id j off g vs' u (jM _ _ _) (hv j u hj) hg
  ·exact .pptr id j off g ws u (by rw [jW hi]; exact h) hj hg
 | agg cs vs h1 h2 ih => exact .agg cs vs h1 ih
 | tup cs vs h1 h2 ih => exact .tup cs vs h1 ih
 | fn f xs ys us vs h1 h2 h3 h4 ih1 ih2 => exact .fn f xs ys us vs h1 ih1 h3 ih2
theorem TR.ext {σ : Sig} {ι : Nat -> Value} {N : Nat} {vs vs' : Array Value} {n : Md} {s : j6} {a : Act} (ht : TR n σ ι s a) (h5 : 5 <= N) (hι : ι N = .tuple vs) (hv : ∀ (j : Nat) x, vs[j]? = some x -> vs'[j]? = some x) : TR n σ (YtfjoaeghnfkdlaaGreatDoor.upd ι N (.tuple vs')) s a :=
 ⟨ht.size, ⟨ht.defers.1, fun p hp => let ⟨h1, h2⟩ := ht.defers.2 p hp; ⟨h1, by rw [jW (by omega)]; exact h2⟩⟩, fun t => (ht.at_ t).ext hι hv⟩
theorem Rel.foTurn {E : Env} {σ : Sig} {ι : Nat -> Value} {w w' : World} (hr : Rel E σ ι h w) {N : Nat} {ec e : TypeId} {F F' : Fo} {vs vs' : Array Value} {c : Value} (hg : j9 h N = some (.sem (foC ec e F))) (h5 : 5 <= N) (hF : FoR ec e F w.heap (ι N) vs c) (hv : ∀ (j : Nat) x, vs[j]? = some x -> vs'[j]? = some x)
  (hF' : FoR ec e F' w'.heap (.tuple vs') vs' c) (hos : w'.os = w.os) (htape : w'.tape = w.tape) (hout : w'.output = w.output) (hsz : w.heap.size <= w'.heap.size) (hblk : ∀ k, k < w.heap.size -> ¬ Feet (ι N) k -> w'.heap[k]? = w.heap[k]?) (hfoot : ∀ g, Feet (.tuple vs') g -> Feet (ι N) g ∨ w.heap.size <= g) : Rel E σ (upd ι N (.tuple vs')) ((N, .sem (foC ec e F')) :: h) w' :=
 hr.turnG (id := N) (fun i d hi hd => by
   rw [j7, if_neg (fun e => hi e.symm)] at hd
   exact ⟨hd, by cases d with | blk ty cs => exact fun j x v _ hx => hx.ext hF.tup hv | row => trivial | sem => trivial⟩) (by rw [j7, if_pos rfl])
  (by show ∃ vs c, FoR ec e F' w'.heap (upd ι N (.tuple vs') N) vs c; rw [jM]; exact ⟨vs', c, hF'⟩) hos htape hout hsz (fun k hk hne => hblk k hk (hne _ hg)) (fun g hg' => (hfoot g hg').imp (fun x => ⟨_, hg, x⟩) id) (.inl h5)
theorem j0Q {σ : Sig} {ι : Nat -> Value} {w : World} (hsub : ∀ a v, σ a = some v -> w.cell? a = some v) {by_ : Nat} {t e ot : TypeId} (ht : qD P t = some e) (hz : q9 P e 1 = true) {z0 : List AV} (h0 : wQ P e = some z0) (hz0 : z0.length = 1) (hby : w0 P e by_ = true) {u vy : Value} {cs : List Value} {z : Int}
  (hu : rowC w.heap e u cs) (hY : VR σ ι (.lst 1 [[.int .i64 z]]) vy) (hlen : (cs.length + 1) * by_ <= 140737488355328) (hlen2 : cs.length + 1 <= 9223372036854775807) :
  ∃ u' w', (Builtin.append_ #[t, t] ot #[u, vy]).run P w = .ok u' w' ∧ rowC w'.heap e u' (cs ++ [.int .i64 z]) ∧ w.grownBy w' u.ownBlock ∧ (jC u' = jC u ∨ jC u' = some w.heap.size) ∧ jS .i64 z := by
 have hown := hu.at_
 obtain ⟨zi, z', hzi, hzz, hzL⟩ := vI h0
 have hisz : zi.size = 1 := by unfold q9 at hz; rw [hzi] at hz; exact Nat.eq_of_beq_eq_true hz
 have hiby : zi.bytes = by_ := by unfold w0 at hby; rw [hzi] at hby; exact Nat.eq_of_beq_eq_true hby
 have hzs : z'.cells.size = 1 := by rw [<- Array.length_toList, <- (hzL σ).1, hz0]
 have hu' := qF ht
 obtain ⟨A, cap, e2, e3, e4, e5⟩ := hY.lst_inv
 rcases e5 with e5 | ⟨b, off, g, rfl, h3, h4, h5'⟩
 ·cases e5
 have h50 := h5' 0 (.int .i64 z) rfl
 have hg0 : g 0 = .int .i64 z ∧ jS .i64 z := by
  generalize g 0 = q at h50
  cases h50 with
  | int _ _ hh => exact ⟨rfl, hh⟩
 have hnews : ∀ j u, ([.int .i64 z] : List Value)[j]? = some u -> w.cell? ((⟨b, off, none⟩ : Addr).add j) = some u := fun j u hj => by
  cases j with
  | zero =>
   simp only [List.getElem?_cons_zero, Option.some.injEq] at hj; subst hj
   rw [Go.WideShapes.add_plain]
   have := hsub _ _ (h4 0 (.int .i64 z) rfl)
   rw [hg0.1] at this; exact this
  | succ j => simp at hj
 have hone : ∀ u ∈ ([.int .i64 z] : List Value), u.oneCell' = true := fun u hu => by
  rw [List.mem_singleton] at hu; subst hu; rfl
 have hmax : cs.length + 1 <= maxLen := by simp only [maxLen]; omega
 obtain ⟨v', w', h6, h7, h8, _⟩ := run_append_own (P := P) w 0 t ot e zi z' 1 by_ hu' hzi hzz hisz hiby hzs (by omega) u cs.length cs hown ⟨b, off, none⟩ 1 cap [.int .i64 z] rfl hnews hone hmax hlen (Nat.zero_le _)
 have hft : jC v' = jC u ∨ jC v' = some w.heap.size := by
  rcases hown.2 with ⟨h2, h3'⟩ | ⟨g0, cap0, cur0, h2, _, hg0', hn0, hc0, hs0, htake⟩
  ·have hnr := run_append_nil (P := P) w t ot e zi z' hu' hzi hzz ⟨b, off, none⟩ 1 cap [.int .i64 z] (by rw [hisz]; rfl) hnews (by omega) (by omega) (by rw [h3'] at hlen; simp only [Nat.zero_add] at hlen; rw [hiby]; omega)
   rw [<- h2, h6] at hnr
   injection hnr with hnr _
   exact .inr (by rw [hnr]; rfl)
  ·by_cases hroom : cs.length + 1 <= cap0
   ·have hrr := run_append_room (P := P) w t ot e zi hu' hzi g0 cs.length cap0 cur0 hg0' ⟨b, off, none⟩ 1 cap [.int .i64 z] (by rw [hisz]; rfl) hnews hone hroom (by rw [hisz, hs0, Nat.mul_one, Nat.mul_one]; exact hroom)
    rw [<- h2, h6] at hrr
    injection hrr with hrr _
    exact .inl (by rw [hrr, h2]; rfl)
   ·have hgr := run_append_grow (P := P) w t ot e zi z' hu' hzi hzz ⟨g0, 0, none⟩ cs.length cap0 cs (by rw [hisz]; exact hown.1) (hown.cells (g := g0) (by rw [h2]; rfl)) ⟨b, off, none⟩ 1 cap [.int .i64 z] (by rw [hisz]; rfl) hnews (by omega) (by omega) (growslice_fits (by omega) (by rw [hiby]; exact hlen))
    rw [<- h2, h6] at hgr
    injection hgr with hgr _
    exact .inr (by rw [hgr]; rfl)
 rw [e2]
 exact ⟨v', w', h6, ⟨w', rfl, by rw [List.length_append]; exact h7⟩, h8, hft, hg0.2⟩

def Fo.app (F : Fo) (i : Nat) (l : List Int) (z : Int) : Fo := ⟨F.k + 1, F.rows.filter (fun p => p.1 != i) ++ [(F.k, l ++ [z])], F.cont⟩
def Fo.new (F : Fo) (z : Int) : Fo := ⟨F.k + 1, F.rows ++ [(F.k, [z])], F.cont⟩
theorem contR.mono {H : Array Obj} {ec : TypeId} {vs vs' : Array Value} {c : Value} {C : Cont} (h : contR H ec vs c C) (hv : ∀ (j : Nat) x, vs[j]? = some x -> vs'[j]? = some x) : contR H ec vs' c C := by
 cases C with
 | arr at_ => obtain ⟨cs, h1, h2, h3⟩ := h; exact ⟨cs, h1, h2, fun j i hj => let ⟨u, h4, h5⟩ := h3 j i hj; ⟨u, hv i u h4, h5⟩⟩
 | tab at_ =>
  obtain ⟨b, es, clock, h1, h2, h3⟩ := h
  refine ⟨b, es, clock, h1, h2, ?_⟩
  have : ∀ (es : List MapEntry) (m : List (Int × Nat)), MP vs es m -> MP vs' es m := by
   intro es
   induction es with
   | nil => intro m h; cases m with | nil => trivial | cons a m => exact h
   | cons e es ih =>
    intro m h
    cases m with
    | nil => exact h
    | cons a m => obtain ⟨k, i⟩ := a; exact ⟨h.1, hv i _ h.2.1, ih m h.2.2⟩
  exact this _ _ h3
theorem vv {vs : Array Value} {u : Value} : ∀ (j : Nat) x, vs[j]? = some x -> (vs.push u)[j]? = some x := fun j x hj => by
 have := (Array.getElem?_eq_some_iff.1 hj).1
 rw [Array.getElem?_push, if_neg (by omega)]; exact hj
theorem fo_grow {ec e : TypeId} {F : Fo} {w w' : World} {v : Value} {vs : Array Value} {c u' : Value} {fi : Option Nat} {rows0 : List (Nat × List Int)} {l' : List Int} (hF : FoR ec e F w.heap v vs c) (hgr : ∀ g, g < w.heap.size -> fi ≠ some g -> w'.heap[g]? = w.heap[g]?) (hft : jC u' = fi ∨ jC u' = some w.heap.size) (hsz : w.heap.size <= w'.heap.size)
  (hu' : rowI w'.heap e u' l') (hs0 : rows0.Sublist F.rows) (h1 : ∀ p ∈ rows0, ∀ u, vs[p.1]? = some u -> ∀ g, jC u = some g -> fi ≠ some g) (h2 : ∀ g, jC c = some g -> fi ≠ some g) : FoR ec e ⟨F.k + 1, rows0 ++ [(F.k, l')], F.cont⟩ w'.heap (.tuple (vs.push u')) (vs.push u') c := by
 have hc0 : ∀ g, jC c = some g -> g < w.heap.size := (hF.one c (by rw [Array.mem_toList_iff]; exact Array.mem_of_getElem? hF.head)).2
 have hold : ∀ p ∈ rows0, ∃ u, vs[p.1]? = some u ∧ rowI w.heap e u p.2 ∧ ∀ g, jC u = some g -> jC c ≠ some g := fun p hp => hF.rows p (hs0.subset hp)
 have hltk : ∀ p ∈ rows0, p.1 < F.k := fun p hp => by
  obtain ⟨u, hu, _⟩ := hold p hp
  rw [<- hF.size]; exact (Array.getElem?_eq_some_iff.1 hu).1
 have hnew : (vs.push u')[F.k]? = some u' := by rw [<- hF.size]; simp
 refine ⟨rfl, by simp [hF.size], vv 0 c hF.head, fun u hu => ?_, (hF.cont.keep fun g hg => hgr g (hc0 g hg) (h2 g hg)).mono vv, fun p hp => ?_, ?_⟩
 ·rw [Array.toList_push, List.mem_append, List.mem_singleton] at hu
  rcases hu with hu | rfl
  ·exact ⟨(hF.one u hu).1, fun g hg => Nat.lt_of_lt_of_le ((hF.one u hu).2 g hg) hsz⟩
  ·obtain ⟨⟨A, c1, e1, _⟩, h3⟩ := hu'.c.lt
   exact ⟨xK e1, h3⟩
 ·rcases List.mem_append.1 hp with hp | hp
  ·obtain ⟨u, k1, k2, k3⟩ := hold p hp
   have hlt : ∀ g, jC u = some g -> g < w.heap.size := (hF.one u (by rw [Array.mem_toList_iff]; exact Array.mem_of_getElem? k1)).2
   exact ⟨u, vv _ _ k1, .of (k2.c.keep fun g hg => hgr g (hlt g hg) (h1 p hp u k1 g hg)) k2.rg, k3⟩
  ·rw [List.mem_singleton] at hp; subst hp
   refine ⟨u', hnew, hu', fun g hg hcg => ?_⟩
   rcases hft with e1 | e1
   ·exact h2 g hcg (e1.symm.trans hg)
   ·rw [e1] at hg; cases hg; exact absurd (hc0 _ hcg) (Nat.lt_irrefl _)
 ·refine List.pairwise_append.2 ⟨?_, List.pairwise_singleton _ _, fun p hp q hq => ?_⟩
  ·refine (hF.pw.sublist hs0).imp_of_mem fun {p q} hp hq hap => ⟨hap.1, fun u u2 g k1 k2 => ?_⟩
   obtain ⟨a, a1, _⟩ := hold p hp
   obtain ⟨b, b1, _⟩ := hold q hq
   have ea := (vv (u := u') _ _ a1).symm.trans k1
   have eb := (vv (u := u') _ _ b1).symm.trans k2
   cases ea; cases eb
   exact hap.2 u u2 g a1 b1
  ·rw [List.mem_singleton] at hq; subst hq
   refine ⟨Nat.ne_of_lt (hltk p hp), fun u u2 g k1 k2 kg => ?_⟩
   obtain ⟨a, a1, _⟩ := hold p hp
   have ea := (vv (u := u') _ _ a1).symm.trans k1
   cases ea
   have eb := hnew.symm.trans k2
   cases eb
   rcases hft with e1 | e1
   ·rw [e1]; exact h1 p hp u a1 g kg
   ·rw [e1]; intro e2; cases e2
    exact absurd ((hF.one u (by rw [Array.mem_toList_iff]; exact Array.mem_of_getElem? a1)).2 _ kg) (Nat.lt_irrefl _)
theorem Va {u : Value} {k c : Nat} {A : Option Addr} (h : u = .slice A k c) : u.ownBlock = jC u := by
 rw [h]; cases A <;> rfl
theorem Ya {vs : Array Value} {u : Value} {v : Value} {w : World} {ec e : TypeId} {F : Fo} {c : Value} (hF : FoR ec e F w.heap v vs c) {fi : Option Nat} (hfi : ∀ g, fi = some g -> Feet v g) (hft : jC u = fi ∨ jC u = some w.heap.size) : ∀ g, Feet (.tuple (vs.push u)) g -> Feet v g ∨ w.heap.size <= g := fun g hg => by
 rcases hg with hg | ⟨ws, x, e1, hx, hg⟩
 ·cases hg
 ·cases e1
  rw [Array.toList_push, List.mem_append, List.mem_singleton] at hx
  rcases hx with hx | rfl
  ·exact .inl (by rw [hF.tup]; exact .inr ⟨vs, x, rfl, hx, hg⟩)
  ·rcases hft with h1 | h1
   ·exact .inl (hfi g (h1.symm.trans hg))
   ·rw [h1] at hg; cases hg; exact .inr (Nat.le_refl _)
theorem j5i {N i by_ : Nat} {ec e t : TypeId} {F : Fo} {x y : Operand} {z0 : List AV} {h' : j8} (l : List Int) (z : Int) (ho : o.op = .call { callee := .builtin .append, args := #[x, y], argTypes := #[t, t] }) (hx : evA s x = .part N i) (hg : j9 h N = some (.sem (foC ec e F))) (hl : (i, l) ∈ F.rows) (ht : qD P t = some e) (hz : q9 P e 1 = true) (h0 : wQ P e = some z0) (hz0 : Nat.beq z0.length 1 = true) (hby : w0 P e by_ = true)
  (hy : evA s y = .lst 1 [[.int .i64 z]]) (hlen : (l.length + 1) * by_ <= 140737488355328) (hlen2 : l.length + 1 <= 9223372036854775807) (h5 : Nat.ble 5 N = true) (hh : LeH ((N, .sem (foC ec e (F.app i l z))) :: h) h') : TuL P [] o s h h' (.part N F.k) := fun E σ ι a w hr hv K Q hK => by
 have hX : VR σ ι (evA s x) (a.eval x) := hv x (by rw [ho]; simp [Op.operands, Call.operands])
 have hY : VR σ ι (evA s y) (a.eval y) := hv y (by rw [ho]; simp [Op.operands, Call.operands])
 rw [hx] at hX
 rw [hy] at hY
 have h5' := Nat.ble_eq ▸ h5
 obtain ⟨vs, c, hF⟩ := hr.ch N _ hg
 obtain ⟨vs', e1, e2, e3⟩ := hX.part_inv
 have e1 := hF.tup.symm.trans e1
 cases e1
 obtain ⟨u, k1, k2, k3⟩ := hF.rows _ hl
 have e2 := k1.symm.trans e2
 simp only [Option.some.injEq] at e2
 obtain ⟨u', w', h6, h7, h8, h9, h10⟩ := j0Q (P := P) (ot := o.type) hr.sub ht hz h0 (Nat.eq_of_beq_eq_true hz0) hby k2.c hY (by rw [List.length_map]; exact hlen) (by rw [List.length_map]; exact hlen2)
 obtain ⟨⟨A, c1, e4, _⟩, _⟩ := k2.c.lt
 have hob := Va e4
 have hu' : rowI w'.heap e u' (l ++ [z]) := .of (by rw [List.map_append]; exact h7) fun q hq => by
  rcases List.mem_append.1 hq with hq | hq
  ·exact k2.rg q hq
  ·rw [List.mem_singleton] at hq; subst hq; exact h10
 have hF' : FoR ec e (F.app i l z) w'.heap (.tuple (vs.push u')) (vs.push u') c := by
  refine fo_grow (fi := jC u) hF (fun g hg hne => h8.block g hg fun e => hne (hob.symm.trans e.symm)) h9 h8.size hu' List.filter_sublist (fun p hp q hq g hgq e => ?_) (fun g hgc e => k3 g e hgc)
  obtain ⟨hp1, hp2⟩ := List.mem_filter.1 hp
  have hne : p.1 ≠ i := by simpa using hp2
  have key : ∀ {rows : List (Nat × List Int)}, rows.Pairwise (apart vs) -> p ∈ rows -> (i, l) ∈ rows -> False := by
   intro rows
   induction rows with
   | nil => intro _ h; cases h
   | cons r rows ih =>
    intro hpw h1 h2
    rw [List.pairwise_cons] at hpw
    rcases List.mem_cons.1 h1 with e6 | h6
    ·subst e6
     rcases List.mem_cons.1 h2 with e5 | h7
     ·exact hne (congrArg Prod.fst e5).symm
     ·exact (hpw.1 _ h7).2 q u g hq k1 hgq e
    ·rcases List.mem_cons.1 h2 with e7 | h7
     ·subst e7; exact (hpw.1 _ h6).2 u q g k1 hq e hgq
     ·exact ih hpw.2 h6 h7
  exact key hF.pw hp1 hl
 have hnew := hr.foTurn hg h5' hF vv hF' h8.os h8.tape h8.output h8.size (fun k hk hne => h8.block k hk fun e => hne (by rw [hF.tup]; exact yH k1 (hob.symm.trans e.symm))) (Ya hF (fi := jC u) (fun g hg => by rw [hF.tup]; exact yH k1 hg) h9)
 unfold Oper.wp
 have hrun : (execOp a.eval o).run P w = .ok (.value u') w' := by
  unfold execOp
  simp only [ho, resolve, invoke, builtin, Sem.run_bind, Sem.run_pure, Result.andThen_ok, List.map_toArray, List.map_cons, List.map_nil, <- e2, h6]
 rw [hrun]
 refine hK σ _ w' u' (Sig.le.refl σ) (fun n s a _ t => t.ext h5' hF.tup vv) (hnew.le hh) ?_
 obtain ⟨⟨A', c1', e5, _⟩, _⟩ := hu'.c.lt
 exact .part N F.k (vs.push u') u' (jM _ _ _) (by rw [<- hF.size]; simp) (xK e5)
theorem j6I {N by_ : Nat} {ec e t : TypeId} {F : Fo} {x y : Operand} {z0 : List AV} {h' : j8} (z : Int) (ho : o.op = .call { callee := .builtin .append, args := #[x, y], argTypes := #[t, t] }) (hx : evA s x = .nils) (hg : j9 h N = some (.sem (foC ec e F))) (ht : qD P t = some e) (hz : q9 P e 1 = true) (h0 : wQ P e = some z0) (hz0 : Nat.beq z0.length 1 = true) (hby : w0 P e by_ = true)
  (hy : evA s y = .lst 1 [[.int .i64 z]]) (hlen : Nat.ble (1 * by_) 140737488355328 = true) (h5 : Nat.ble 5 N = true) (hh : LeH ((N, .sem (foC ec e (F.new z))) :: h) h') : TuL P [] o s h h' (.part N F.k) := fun E σ ι a w hr hv K Q hK => by
 have hX : VR σ ι (evA s x) (a.eval x) := hv x (by rw [ho]; simp [Op.operands, Call.operands])
 have hY : VR σ ι (evA s y) (a.eval y) := hv y (by rw [ho]; simp [Op.operands, Call.operands])
 rw [hx] at hX
 rw [hy] at hY
 have h5' := Nat.ble_eq ▸ h5
 have ex : a.eval x = .slice none 0 0 := by
  generalize a.eval x = q at hX
  cases hX with
  | base _ _ h0 => cases h0; rfl
 obtain ⟨vs, c, hF⟩ := hr.ch N _ hg
 have hnil : rowC w.heap e (.slice none 0 0) [] := ⟨w, rfl, World.ownsRow_nil w 0 e 1⟩
 obtain ⟨u', w', h6, h7, h8, h9, h10⟩ := j0Q (P := P) (ot := o.type) hr.sub ht hz h0 (Nat.eq_of_beq_eq_true hz0) hby hnil hY (by simpa using Nat.le_of_ble_eq_true hlen) (by simp)
 have hu' : rowI w'.heap e u' [z] := .of h7 fun q hq => by
  rw [List.mem_singleton] at hq; subst hq; exact h10
 have hF' : FoR ec e (F.new z) w'.heap (.tuple (vs.push u')) (vs.push u') c :=
  fo_grow (fi := none) hF (fun g hg hne => h8.block g hg fun e => by cases e) h9 h8.size hu' (List.Sublist.refl _) (fun p hp q hq g hgq e => by cases e) (fun g hgc e => by cases e)
 have hnew := hr.foTurn hg h5' hF vv hF' h8.os h8.tape h8.output h8.size (fun k hk hne => h8.block k hk fun e => by cases e) (Ya hF (fi := none) (fun g hg => by cases hg) h9)
 unfold Oper.wp
 have hrun : (execOp a.eval o).run P w = .ok (.value u') w' := by
  unfold execOp
  simp only [ho, resolve, invoke, builtin, Sem.run_bind, Sem.run_pure, Result.andThen_ok, List.map_toArray, List.map_cons, List.map_nil, ex, h6]
 rw [hrun]
 refine hK σ _ w' u' (Sig.le.refl σ) (fun n s a _ t => t.ext h5' hF.tup vv) (hnew.le hh) ?_
 obtain ⟨⟨A', c1', e5, _⟩, _⟩ := hu'.c.lt
 exact .part N F.k (vs.push u') u' (jM _ _ _) (by rw [<- hF.size]; simp) (xK e5)

theorem Rel.same {E : Env} {σ : Sig} {ι : Nat -> Value} {w w' : World} (hr : Rel E σ ι h w) {N : Nat} {ec e : TypeId} {F F' : Fo} {vs : Array Value} {c : Value} (hg : j9 h N = some (.sem (foC ec e F))) (hF' : FoR ec e F' w'.heap (ι N) vs c)
  (hos : w'.os = w.os) (htape : w'.tape = w.tape) (hout : w'.output = w.output) (hsz : w.heap.size <= w'.heap.size) (hblk : ∀ k, k < w.heap.size -> ¬ Feet (ι N) k -> w'.heap[k]? = w.heap[k]?) : Rel E σ ι ((N, .sem (foC ec e F')) :: h) w' := by
 have hsame : YtfjoaeghnfkdlaaGreatDoor.upd ι N (ι N) = ι := by funext i; unfold YtfjoaeghnfkdlaaGreatDoor.upd; split <;> simp_all
 have hnew := hr.turnG (id := N) (u := ι N) (h' := (N, .sem (foC ec e F')) :: h) (c' := .sem (foC ec e F')) (w' := w') (fun i d hi hd => by
   rw [j7, if_neg (fun e => hi e.symm)] at hd
   exact ⟨hd, by cases d with | blk ty cs => exact fun j x v _ hx => by rw [hsame]; exact hx | row => trivial | sem => trivial⟩) (by rw [j7, if_pos rfl])
  (by rw [hsame]; exact ⟨vs, c, hF'⟩) hos htape hout hsz (fun k hk hne => hblk k hk (hne _ hg)) (fun g hg' => .inl ⟨_, hg, hg'⟩) (.inr rfl)
 rw [hsame] at hnew
 exact hnew
theorem MP.app {vs : Array Value} : ∀ {es es' : List MapEntry} {m m' : List (Int × Nat)}, MP vs es m -> MP vs es' m' -> MP vs (es ++ es') (m ++ m')
 | [], _, [], _, _, h => h
 | [], _, _ :: _, _, h, _ => h.elim
 | _ :: _, _, [], _, h, _ => h.elim
 | e :: es, es', (k, i) :: m, m', h, h' => ⟨h.1, h.2.1, MP.app h.2.2 h'⟩
theorem MP.find {vs : Array Value} (k : Int) : ∀ {es : List MapEntry} {m : List (Int × Nat)} (i : Nat), MP vs es m ->
  (Instr.findNow (.int .i64) (.int .i64 k) es i = some none ∧ noK m k) ∨
  ∃ e1 e e2 m1 v m2, es = e1 ++ e :: e2 ∧ m = m1 ++ (k, v) :: m2 ∧ e1.length = m1.length ∧ noK m1 k ∧ MP vs e1 m1 ∧ MP vs e2 m2 ∧ e.key = .int .i64 k ∧ vs[v]? = some e.val ∧ Instr.findNow (.int .i64) (.int .i64 k) es i = some (some (i + e1.length, e.val))
 | [], [], i, _ => .inl ⟨rfl, JW k⟩
 | [], _ :: _, _, h => h.elim
 | _ :: _, [], _, h => h.elim
 | e :: es, (k', v) :: m, i, ⟨h1, h2, h3⟩ => by
  by_cases hk : k' = k
  ·subst hk
   exact .inr ⟨[], e, es, [], v, m, rfl, rfl, rfl, JW _, trivial, h3, h1, h2, by simp [Instr.findNow, h1, Instr.sameNow]⟩
  ·rcases MP.find k (i + 1) h3 with ⟨g1, g2⟩ | ⟨e1, e', e2, m1, v', m2, rfl, rfl, g3, g4, g5, g6, g7, g8, g9⟩
   ·refine .inl ⟨?_, JA hk g2⟩
    rw [Instr.findNow, h1]
    simp only [Instr.sameNow, if_true]
    rw [show ((k == k') : Bool) = false by simp; exact fun e => hk e.symm]
    exact g1
   ·refine .inr ⟨e :: e1, e', e2, (k', v) :: m1, v', m2, rfl, rfl, by simp [g3], JA hk g4, ⟨h1, h2, g5⟩, g6, g7, g8, ?_⟩
    rw [Instr.findNow, h1]
    simp only [Instr.sameNow, if_true]
    rw [show ((k == k') : Bool) = false by simp; exact fun e => hk e.symm]
    simp only
    rw [g9, List.length_cons, Nat.add_assoc, Nat.add_comm 1]
theorem YO {t kt et ec e : TypeId} {x y z : Operand} {F : Fo} {N i : Nat} {k : Int} {at_ : List (Int × Nat)} (ho : o.op = .mapUpdate t x y z) (ht : V6 P t = some (kt, et)) (hx : evA s x = .part N 0) (hg : j9 h N = some (.sem (foC ec e F))) (hc : F.cont = .tab at_) (hy : evA s y = .int .i64 k) (hz : evA s z = .part N i) :
  StO P o s h ((N, .sem (foC ec e ⟨F.k, F.rows, .tab (jq at_ k i)⟩)) :: h) := fun E σ ι act w hr hop => by
 have hX : VR σ ι (evA s x) (act.eval x) := hop x (by rw [ho]; simp [Op.operands])
 have hY : VR σ ι (evA s y) (act.eval y) := hop y (by rw [ho]; simp [Op.operands])
 have hZ : VR σ ι (evA s z) (act.eval z) := hop z (by rw [ho]; simp [Op.operands])
 rw [hx] at hX
 rw [hy] at hY
 rw [hz] at hZ
 obtain ⟨hm, hd⟩ := wV ht
 obtain ⟨vs, c, hF⟩ := hr.ch N _ hg
 obtain ⟨vs', q1, q2, _⟩ := hX.part_inv
 have e1 := hF.tup.symm.trans q1
 cases e1
 obtain ⟨vs', q1, q3, _⟩ := hZ.part_inv
 have e1 := hF.tup.symm.trans q1
 cases e1
 have e2 := hF.head.symm.trans q2
 simp only [Option.some.injEq] at e2
 have hC := hF.cont
 rw [hc] at hC
 obtain ⟨b, es, clock, h1, h2, h3⟩ := hC
 have hlt : b < w.heap.size := (Array.getElem?_eq_some_iff.1 h2).1
 have ex := e2.symm.trans h1
 have ey := hY.int_inv.1
 have hik : IsKey (.int .i64) (.int .i64 k) := rfl
 have fin : ∀ (es' : Array MapEntry) (clock' : Nat), MP vs es'.toList (jq at_ k i) -> Rel E σ ι ((N, .sem (foC ec e ⟨F.k, F.rows, .tab (jq at_ k i)⟩)) :: h) { w with heap := w.heap.setIfInBounds b (.map es' clock') } := fun es' clock' hM => by
  have hoth : ∀ k, jC c ≠ some k -> ({ w with heap := w.heap.setIfInBounds b (.map es' clock') } : World).heap[k]? = w.heap[k]? := fun k hk => by
   have : b ≠ k := fun e => hk (by rw [h1, e]; rfl)
   simp [this]
  have hF' : FoR ec e ⟨F.k, F.rows, .tab (jq at_ k i)⟩ ({ w with heap := w.heap.setIfInBounds b (.map es' clock') } : World).heap (ι N) vs c := by
   refine ⟨hF.tup, hF.size, hF.head, fun u hu => ⟨(hF.one u hu).1, fun g' hg' => by simpa using (hF.one u hu).2 g' hg'⟩, ⟨b, es', clock', h1, by simp [hlt], hM⟩, fun p hp => ?_, hF.pw⟩
   obtain ⟨u, r1, r2, r3⟩ := hF.rows p hp
   exact ⟨u, r1, .of (r2.c.keep fun g' hg' => hoth g' (r3 g' hg')) r2.rg, r3⟩
  exact hr.same hg hF' rfl rfl rfl (by simp) (fun k hk hne => hoth k fun e => hne (by rw [hF.tup]; exact yH hF.head e))
 rcases h3.find k 0 with ⟨g1, g2⟩ | ⟨e1, e', e2, m1, v, m2, ges, rfl, g3, g4, g5, g6, g7, g8, g9⟩
 ·refine ⟨{ w with heap := w.heap.setIfInBounds b (.map (es.push { key := .int .i64 k, val := act.eval z, born := clock }) (clock + 1)) }, ?_, fin _ _ ?_⟩
  ·simp [execOp, ho, ex, ey, Instr.mapUpdate, run_underlying hm, Go.MapKept.run_getObj_map h2, Go.MapKept.run_checkKey hd hik, Go.MapKept.run_findKey hd g1, Go.MapKept.run_setObj_map _ h2, Result.andThen]
  ·rw [QN g2, Array.toList_push]
   exact h3.app ⟨rfl, q3, trivial⟩
 ·rw [Nat.zero_add] at g9
  have hj : es[e1.length]? = some e' := by rw [<- Array.getElem?_toList, ges]; simp
  refine ⟨{ w with heap := w.heap.setIfInBounds b (.map (es.modify e1.length fun e => { e with key := .int .i64 k, val := act.eval z }) clock) }, ?_, fin _ _ ?_⟩
  ·simp [execOp, ho, ex, ey, Instr.mapUpdate, run_underlying hm, Go.MapKept.run_getObj_map h2, Go.MapKept.run_checkKey hd hik, Go.MapKept.run_findKey hd g9, hj, g7, Go.MapKept.run_keyThatStays hik, Go.MapKept.run_setObj_map _ h2, Result.andThen]
  ·rw [(Zr g4 i).2.1]
   have hmod : (es.modify e1.length fun e => { e with key := .int .i64 k, val := act.eval z }).toList = e1 ++ { e' with key := .int .i64 k, val := act.eval z } :: e2 := by
    rw [Array.toList_modify, ges]
    exact Jh e1 e' e2 _
   rw [hmod]
   exact g5.app ⟨rfl, q3, g6⟩
theorem Y3 {t kt et ec e : TypeId} {x y : Operand} {F : Fo} {N : Nat} {k : Int} {at_ : List (Int × Nat)} {z0 : AV} (v : AV) (ho : o.op = .lookup t x y false) (ht : V6 P t = some (kt, et)) (hx : evA s x = .part N 0) (hg : j9 h N = some (.sem (foC ec e F))) (hc : F.cont = .tab at_) (hy : evA s y = .int .i64 k)
  (hz : ∀ (w : World) (σ : Sig), ∃ z, (zeroValue et).run P w = .ok z w ∧ VR0 σ z0 z) (hv : (jw at_ k = none ∧ v = z0) ∨ ∃ i, jw at_ k = some i ∧ v = .part N i) : OkO P o s h v := by
 refine ja fun E σ ι act w hr hop => ?_
 have hX : VR σ ι (evA s x) (act.eval x) := hop x (by rw [ho]; simp [Op.operands])
 have hY : VR σ ι (evA s y) (act.eval y) := hop y (by rw [ho]; simp [Op.operands])
 rw [hx] at hX
 rw [hy] at hY
 obtain ⟨hm, hd⟩ := wV ht
 obtain ⟨vs, c, hF⟩ := hr.ch N _ hg
 obtain ⟨vs', q1, q2, _⟩ := hX.part_inv
 have e1 := hF.tup.symm.trans q1
 cases e1
 have e2 := hF.head.symm.trans q2
 simp only [Option.some.injEq] at e2
 have hC := hF.cont
 rw [hc] at hC
 obtain ⟨b, es, clock, h1, h2, h3⟩ := hC
 have ex := e2.symm.trans h1
 have ey := hY.int_inv.1
 have hik : IsKey (.int .i64) (.int .i64 k) := rfl
 rcases h3.find k 0 with ⟨g1, g2⟩ | ⟨e1, e', e2, m1, v', m2, ges, rfl, g3, g4, g5, g6, g7, g8, g9⟩
 ·rcases hv with ⟨_, rfl⟩ | ⟨a', h4, _⟩
  ·obtain ⟨z, hz1, hz2⟩ := hz w σ
   exact ⟨z, by simp [execOp, ho, ex, ey, Instr.lookup, run_underlying hm, Go.MapKept.run_getObj_map h2, Go.MapKept.run_checkKey hd hik, Go.MapKept.run_findKey hd g1, hz1, Result.andThen], .base _ _ hz2⟩
  ·rw [Xb g2] at h4; cases h4
 ·have h5 := (Zr (m2 := m2) (v := v') g4 v').1
  rcases hv with ⟨h4, _⟩ | ⟨a', h4, rfl⟩
  ·rw [h5] at h4; cases h4
  ·rw [h5] at h4; cases h4
   exact ⟨e'.val, by simp [execOp, ho, ex, ey, Instr.lookup, run_underlying hm, Go.MapKept.run_getObj_map h2, Go.MapKept.run_checkKey hd hik, Go.MapKept.run_findKey hd g9, Result.andThen], .part N v' vs _ hF.tup g8 (hF.one _ (by rw [Array.mem_toList_iff]; exact Array.mem_of_getElem? g8)).1⟩
theorem j5g {t ec e : TypeId} (N : Nat) (ho : o.op = .makeMap t none) (hf : jd N s h = true) (hgd : o.guard = none) (hdo : qj n o.dst = true)
  (hk : O P n ops Q rest (jX s o.dst (.part N 0)) ((N, .sem (foC ec e ⟨1, [], .tab []⟩)) :: h)) : O P n ops Q (o :: rest) s h := ⟨v8 hgd fun E σ ι a w hr ht => by
 simp only [jd, Bool.and_eq_true, Nat.ble_eq] at hf
 unfold Oper.wp
 have hrun : (execOp a.eval o).run P w = .ok (.value (.map (some w.heap.size))) (w.alloc (.map #[] 0)) := by
  simp [execOp, ho, Instr.makeMap, Result.andThen]
 rw [hrun]
 have hkeep : ∀ g, g < w.heap.size -> (w.alloc (.map #[] 0)).heap[g]? = w.heap[g]? := fun g hg => Below.heap_alloc _ _ _ hg
 have hnew := hr.turnG (id := N) (u := .tuple #[.map (some w.heap.size)]) (h' := (N, .sem (foC ec e ⟨1, [], .tab []⟩)) :: h) (c' := .sem (foC ec e ⟨1, [], .tab []⟩)) (w' := w.alloc (.map #[] 0))
  (fun i c hi hc => by
    rw [j7, if_neg (fun e => hi e.symm)] at hc
    refine ⟨hc, ?_⟩
    have := (ju hf.2 i c hc).2
    cases c with
    | blk ty cs => exact fun j x v hj hx => hx.upd (qA this j x hj)
    | row => trivial
    | sem => trivial)
  (by rw [j7, if_pos rfl])
  (by
    show ∃ vs c, FoR _ _ _ _ _ vs c
    rw [jM]
    refine ⟨#[.map (some w.heap.size)], _, rfl, rfl, rfl, fun u hu => ?_, ⟨w.heap.size, #[], 0, rfl, heap_alloc_new w _, trivial⟩, fun p hp => (by cases hp), List.Pairwise.nil⟩
    simp only [List.mem_cons, List.not_mem_nil, or_false] at hu
    subst hu
    exact ⟨rfl, fun g hg => by cases hg; simp⟩)
  rfl rfl rfl (by simp) (fun k hk _ => hkeep k hk) (fun g hv => by
   rcases hv with hv | ⟨ws, u, e1, hu, hv⟩
   ·cases hv
   ·cases e1
    simp only [List.mem_cons, List.not_mem_nil, or_false] at hu
    subst hu; cases hv; exact .inr (Nat.le_refl _)) (.inl hf.1.1)
 exact hk.out E σ _ _ _ hnew ((ht.upd hf.1.1 hf.1.2 _).putS hdo (.part N 0 _ _ (jM _ _ _) rfl rfl))⟩

def foN (ll : List (List Int)) : Fo := ⟨ll.length + 1, ll.zipIdx.map (fun p => (p.2 + 1, p.1)), .arr (List.range' 1 ll.length)⟩
theorem j6A {ll : List (List Int)} {j : Nat} (h : j < ll.length) : (List.range' 1 ll.length)[j]? = some (j + 1) := by
 rw [List.getElem?_range' (by omega)]; congr 1; omega
theorem j3V {ec e : TypeId} {H : Array Obj} {c : Value} {us : List Value} {ll : List (List Int)} (hl : us.length = ll.length) (hc : rowC H ec c us) (hr : ∀ (j : Nat) u l, us[j]? = some u -> ll[j]? = some l -> rowI H e u l) (hca : ∀ (j : Nat) u g, us[j]? = some u -> jC u = some g -> jC c ≠ some g)
  (hd : ∀ (j k : Nat) u v g, us[j]? = some u -> us[k]? = some v -> jC u = some g -> jC v = some g -> j = k) : FoR ec e (foN ll) H (.tuple (c :: us).toArray) (c :: us).toArray c := by
 obtain ⟨⟨A, cc, e1, _⟩, e2⟩ := hc.lt
 have hus : ∀ (j : Nat) u, us[j]? = some u -> u.oneCell' = true ∧ ∀ g, jC u = some g -> g < H.size := fun j u hj => by
  have hjl : j < ll.length := by rw [<- hl]; exact (List.getElem?_eq_some_iff.1 hj).1
  obtain ⟨⟨A', c', e3, _⟩, e4⟩ := (hr j u ll[j] hj (List.getElem?_eq_getElem hjl)).c.lt
  exact ⟨xK e3, e4⟩
 have j9 : ∀ (j : Nat) u, ((c :: us).toArray)[j + 1]? = some u -> us[j]? = some u := fun j u h => by simpa using h
 refine ⟨rfl, by simp [foN, hl], rfl, fun u hu => ?_, ⟨us, by simp [hl], hc, fun j i hj => ?_⟩, fun p hp => ?_, ?_⟩
 ·rw [List.toList_toArray] at hu
  rcases List.mem_cons.1 hu with rfl | hu
  ·exact ⟨xK e1, e2⟩
  ·obtain ⟨j, hj⟩ := List.getElem?_of_mem hu
   exact hus j u hj
 ·have hj1 := (List.getElem?_eq_some_iff.1 hj).1
  rw [List.length_range'] at hj1
  rw [j6A hj1] at hj
  cases hj
  have : us[j]? = some us[j] := List.getElem?_eq_getElem (by omega)
  exact ⟨us[j], (by simp), this⟩
 ·obtain ⟨⟨l, j⟩, h1, rfl⟩ := List.mem_map.1 hp
  rw [List.mem_zipIdx_iff_getElem?] at h1
  have hjl : j < us.length := by rw [hl]; exact (List.getElem?_eq_some_iff.1 h1).1
  have : us[j]? = some us[j] := List.getElem?_eq_getElem hjl
  exact ⟨us[j], (by simp), hr j _ l this h1, fun g hg => hca j _ g this hg⟩
 ·show List.Pairwise _ (ll.zipIdx.map _)
  rw [List.pairwise_map]
  have hz : ll.zipIdx.Pairwise (fun p q => p.2 ≠ q.2) := by
   have h0 : (ll.zipIdx.map Prod.snd).Nodup := by
    rw [List.zipIdx_map_snd]; exact List.nodup_range'
   exact List.pairwise_map.1 h0
  refine hz.imp_of_mem fun {p q} hp hq hne => ⟨fun e => hne (by simpa using e), fun u v g h1 h2 h3 h4 => hne ?_⟩
  exact hd p.2 q.2 u v g (j9 _ _ h1) (j9 _ _ h2) h3 h4
structure Fo.Shows (F : Fo) (ll : List (List Int)) (at_ : List Nat) : Prop where
 cont : F.cont = .arr at_
 len : at_.length = ll.length
 nd : at_.Nodup
 row : ∀ (j i : Nat) l, at_[j]? = some i -> ll[j]? = some l -> (i, l) ∈ F.rows
def j3R (N : Nat) : AV -> Bool
 | .part i 0 => true
 | x => !jg N x
theorem VR.head {σ : Sig} {ι : Nat -> Value} {N : Nat} {vs vs' : Array Value} {c : Value} (hι : ι N = .tuple vs) (h1 : vs[0]? = some c) (h2 : vs'[0]? = some c) {x : AV} {v : Value} (hq : j3R N x = true) (h : VR σ ι x v) : VR σ (YtfjoaeghnfkdlaaGreatDoor.upd ι N (.tuple vs')) x v := by
 have hno : jg N x = false -> VR σ (YtfjoaeghnfkdlaaGreatDoor.upd ι N (.tuple vs')) x v := fun hn => h.upd hn
 cases x with
 | part i j =>
  cases j with
  | zero =>
   by_cases hi : i = N
   ·subst hi
    obtain ⟨ws, e1, e2, e3⟩ := h.part_inv
    rw [hι] at e1; cases e1
    rw [h1] at e2; cases e2
    exact .part _ 0 vs' _ (jM _ _ _) h2 e3
   ·refine h.upd ?_
    simp only [jg]
    exact Bool.eq_false_iff.2 fun e => hi (by simpa using e)
  | succ j => exact hno (by simpa [j3R] using hq)
 | _ => exact hno (by simpa [j3R] using hq)
theorem j1s {N b q k : Nat} {ec e ty : TypeId} {cs : List AV} {xs : List (List AV)} (hx : xs = List.replicate k [AV.nils]) (hg : j9 h N = some (.row ec 1 xs)) (hb : j9 h b = some (.blk ty cs)) (hq : cs[q]? = some (.own N)) (hno : vD N (cs.set q .undef) = false) (hlo : wl N (yf b h) = true) (h5 : Nat.ble 5 N = true) (hbN : Nat.beq b N = false) :
  Turns n s h (qv N s) ((N, .sem (foC ec e (foN (List.replicate k [])))) :: (b, .blk ty (cs.set q (.part N 0))) :: h) := fun E σ ι a w hr ht => by
 subst hx
 have h5' := Nat.ble_eq ▸ h5
 have hbN' : b ≠ N := fun e => by subst e; simp at hbN
 obtain ⟨_, _, vs, hown, hL⟩ := hr.ch N _ hg
 have hvs : vs = List.replicate k (.slice none 0 0) := by
  have hl := hL.1
  simp only [List.flatten_replicate_singleton, List.length_replicate] at hl
  refine List.ext_getElem? fun j => ?_
  rcases Nat.lt_or_ge j k with hj | hj
  ·have h1 : (List.replicate k [AV.nils]).flatten[j]? = some .nils := by rw [List.flatten_replicate_singleton, List.getElem?_replicate, if_pos hj]
   have h2 : vs[j]? = some vs[j] := List.getElem?_eq_getElem (by omega)
   have h3 := hL.2 j _ _ h1 h2
   rw [h2, List.getElem?_replicate, if_pos hj]
   generalize vs[j] = q at h3
   cases h3; rfl
  ·rw [List.getElem?_eq_none (by omega), List.getElem?_eq_none (by simpa using hj)]
 obtain ⟨c, hc⟩ : ∃ c, c = ι N := ⟨_, rfl⟩
 rw [<- hc, List.length_replicate] at hown
 have hrow : rowC w.heap ec c vs := ⟨w, rfl, by rw [hvs, List.length_replicate]; rw [hvs] at hown; exact hown⟩
 have hone : c.oneCell' = true := by obtain ⟨⟨A, c1, e1, _⟩, _⟩ := hrow.lt; exact xK e1
 have hF' : FoR ec e (foN (List.replicate k [])) w.heap (.tuple (c :: vs).toArray) (c :: vs).toArray c := by
  have hnil : ∀ (j : Nat) u, vs[j]? = some u -> u = .slice none 0 0 := fun j u hj => by
   rw [hvs, List.getElem?_replicate] at hj
   split at hj
   ·cases hj; rfl
   ·cases hj
  refine j3V (by rw [hvs]; simp) hrow (fun j u l hj hl => ?_) (fun j u g hj hf => ?_) (fun j k u v g hj hk h1 h2 => ?_)
  ·rw [hnil j u hj]
   rw [List.getElem?_replicate] at hl
   split at hl
   ·cases hl; exact ⟨w, rfl, World.ownsRow_nil w 0 e 1, fun x hx => by cases hx⟩
   ·cases hl
  ·rw [hnil j u hj] at hf; cases hf
  ·rw [hnil j u hj] at h1; cases h1
 have hcell : ∀ (j : Nat) (x : AV) (v : Value), (cs.set q (.part N 0))[j]? = some x -> (∀ y, cs[j]? = some y -> VR σ ι y v) -> VR σ (upd ι N (.tuple (c :: vs).toArray)) x v := fun j x v hj hv => by
  have hql : q < cs.length := (List.getElem?_eq_some_iff.1 hq).1
  rw [List.getElem?_set] at hj
  by_cases hjq : q = j
  ·subst hjq
   rw [if_pos rfl, if_pos hql] at hj
   cases hj
   have := (hv _ hq).own_inv
   rw [<- hc] at this
   rw [this]
   exact .part N 0 (c :: vs).toArray c (jM _ _ _) (by simp) hone
  ·rw [if_neg hjq] at hj
   exact (hv x hj).upd (qA hno j x (by rw [List.getElem?_set, if_neg hjq]; exact hj))
 have hlone : ∀ i d, i ≠ N -> i ≠ b -> j9 h i = some d -> match d with | .blk _ cs => vD N cs = false | _ => True := fun i d hi hib hd => vM hlo i d (by rw [vE, if_neg hib]; exact hd)
 have hcr0 : ∀ i d, i ≠ N -> i ≠ b -> j9 h i = some d -> CR σ (upd ι N (.tuple (c :: vs).toArray)) w i d := fun i d hi hib hd => by
  have h4 := hr.ch i d hd
  have h2 := hlone i d hi hib hd
  cases d with
  | blk ty cs =>
   obtain ⟨g, cur, h5, h6, h7⟩ := h4
   exact ⟨g, cur, by rw [jW hi]; exact h5, h6, h7.1, fun j x y a b => (h7.2 j x y a b).upd (qA h2 j x a)⟩
  | row e sz xs =>
   obtain ⟨h0, h5, vs, h6, h7⟩ := h4
   exact ⟨h0, h5, vs, by rw [jW hi]; exact h6, h7⟩
  | sem c => show c.rel _ _ _; rw [jW hi]; exact h4
 have hold : ∀ i d, j9 ((N, .sem (foC ec e (foN (List.replicate k [])))) :: (b, .blk ty (cs.set q (.part N 0))) :: h) i = some d -> ∃ d', j9 h i = some d' := fun i d hd => by
  rw [j7] at hd
  split at hd
  ·rename_i e; exact ⟨_, e ▸ hg⟩
  ·rw [j7] at hd
   split at hd
   ·rename_i e; exact ⟨_, e ▸ hb⟩
   ·exact ⟨_, hd⟩
 have hfe : ∀ i g, Feet (upd ι N (.tuple (c :: vs).toArray) i) g -> Feet (ι i) g := fun i g hgf => by
  by_cases hi : i = N
  ·subst hi
   rw [jM] at hgf
   rcases hgf with hgf | ⟨ws, x, e1, hx, hgf⟩
   ·cases hgf
   ·cases e1
    rw [List.toList_toArray] at hx
    rcases List.mem_cons.1 hx with e2 | hx
    ·rw [e2, hc] at hgf; exact .inl hgf
    ·rw [hvs] at hx
     rw [List.eq_of_mem_replicate hx] at hgf; cases hgf
  ·rw [jW hi] at hgf; exact hgf
 refine ⟨σ, upd ι N (.tuple (c :: vs).toArray), ⟨hr.os, hr.tape, hr.output, hr.size, hr.old, hr.sigOld, hr.sub, fun i d hd => ?_, fun i d hd g hgf => ?_, fun i j d d' hd hd' g h1 h2 => ?_, fun p hp => ?_, hr.low, fun p hp => ⟨(hr.xo p hp).1, (hr.xo p hp).2.1, fun i d hd hf => ?_⟩⟩, ht.kill N h5' _⟩
 ·rw [j7] at hd
  split at hd
  ·rename_i e1; subst e1; cases hd
   show ∃ vs c, FoR _ _ _ _ _ vs c
   rw [jM]; exact ⟨_, c, hF'⟩
  ·rename_i hiN
   rw [j7] at hd
   split at hd
   ·rename_i e1; subst e1; cases hd
    obtain ⟨g, cur, h5, h6, h7⟩ := hr.ch b _ hb
    refine ⟨g, cur, by rw [jW hbN']; exact h5, h6, by rw [List.length_set]; exact h7.1, fun j x y hj hy => hcell j x y hj fun z hz => h7.2 j z y hz hy⟩
   ·rename_i hib
    exact hcr0 i d (fun e => hiN e.symm) (fun e => hib e.symm) hd
 ·obtain ⟨d', hd'⟩ := hold i d hd
  exact hr.foot i d' hd' g (hfe i g hgf)
 ·obtain ⟨d1, hd1⟩ := hold i d hd
  obtain ⟨d2, hd2⟩ := hold j d' hd'
  exact hr.dj i j d1 d2 hd1 hd2 g (hfe i g h1) (hfe j g h2)
 ·obtain ⟨h1, h2⟩ := hr.pin p hp
  exact ⟨h1, by rw [jW (by omega)]; exact h2⟩
 ·obtain ⟨d', hd'⟩ := hold i d hd
  exact (hr.xo p hp).2.2 i d' hd' (hfe i _ hf)
def yu (σ : Sig) (w : World) (B : List Nat) : Sig := fun a => if B.contains a.block then w.cell? a else σ a
theorem j0h {N t : Nat} {ec e : TypeId} {F : Fo} {at_ : List (Int × Nat)} (m : List (Int × List Int)) (hs : get s t = .part N 0) (hg : j9 h N = some (.sem (foC ec e F))) (hc : F.cont = .tab at_) (hm : L2 (fun p q => p.1 = q.1 ∧ (p.2, q.2) ∈ F.rows) at_ m) (h10 : ZV N = true) (hlo : wl N h = true) :
  Turns n s h ((t, .own N) :: qv N s) ((N, .sem (yK (fun l : List Int => AV.lst 1 (l.map fun x => [AV.int .i64 x])) m)) :: h) := fun E σ ι a w hr ht => by
 have h10' := yD h10
 obtain ⟨vs, c, hF⟩ := hr.ch N _ hg
 have hC := hF.cont
 rw [hc] at hC
 obtain ⟨b, es, clock, k1, k2, k3⟩ := hC
 obtain ⟨B, hB⟩ : ∃ B, B = F.rows.filterMap (fun p => (vs[p.1]?).bind jC) := ⟨_, rfl⟩
 have hBm : ∀ g, g ∈ B ↔ ∃ p ∈ F.rows, ∃ u, vs[p.1]? = some u ∧ jC u = some g := fun g => by
  rw [hB, List.mem_filterMap]
  constructor
  ·rintro ⟨p, hp, e1⟩
   obtain ⟨u, e2, e3⟩ := Option.bind_eq_some_iff.1 e1
   exact ⟨p, hp, u, e2, e3⟩
  ·rintro ⟨p, hp, u, e2, e3⟩
   exact ⟨p, hp, by rw [e2]; exact e3⟩
 have hBf : ∀ g, g ∈ B -> Feet (ι N) g := fun g hg' => by
  obtain ⟨p, hp, u, e1, e2⟩ := (hBm g).1 hg'
  rw [hF.tup]; exact yH e1 e2
 have hBge : ∀ g, g ∈ B -> E.w.heap.size <= g := fun g hg' => by
  rcases (hr.foot N _ hg g (hBf g hg')).1 with h1 | h1
  ·have := hr.low _ h1; simp only at this; omega
  ·exact h1
 have hin : ∀ g, g ∈ B -> B.contains g = true := fun g h => List.contains_iff_mem.2 h
 have hle : Sig.le σ (yu σ w B) := fun a v ha => by
  unfold yu; split
  ·exact hr.sub a v ha
  ·exact ha
 have hnone : ∀ i d, j9 h i = some d -> ∀ g, Feet (ι i) g -> g ∉ B -> ∀ o, yu σ w B ⟨g, o, none⟩ = none := fun i d hd g hgf hgB o => by
  unfold yu
  rw [if_neg (fun e => hgB (List.contains_iff_mem.1 e))]
  exact (hr.foot i d hd g hgf).2 o
 have hlist : ∀ p ∈ F.rows, ∀ u, vs[p.1]? = some u -> VR0 (yu σ w B) (.lst 1 (p.2.map fun x => [AV.int .i64 x])) u := fun p hp u hu => by
  obtain ⟨u', r1, r2, r3⟩ := hF.rows p hp
  have : u' = u := by rw [hu] at r1; exact (Option.some.inj r1).symm
  subst this
  obtain ⟨⟨A, cap, e1, e2, e3⟩, _⟩ := r2.c.lt
  rw [List.length_map] at e1 e2
  by_cases hnil : p.2 = []
  ·rw [hnil] at e1 ⊢
   rw [e1]; exact .empty 1 A cap e3
  ·have hpos : 0 < p.2.length := List.length_pos_iff.2 hnil
   obtain ⟨g, hgf⟩ := j3E r2.c (j := 0) (x := .int .i64 p.2[0]) (by simp [hpos])
   have hcl := fun (j : Nat) (x : Value) hx => j2S r2.c hgf (j := j) (x := x) hx
   have hgB : g ∈ B := (hBm g).2 ⟨p, hp, u', hu, hgf⟩
   have eA : A = some ⟨g, 0, none⟩ := by
    rcases r2.c.at_.2 with ⟨q1, q2⟩ | ⟨g', cap', cur, q1, _⟩
    ·rw [List.length_map] at q2; omega
    ·rw [q1] at hgf e1
     simp only [jC, Option.some.injEq] at hgf
     injection e1 with e1 _ _
     rw [<- e1, hgf]
   rw [e1, eA]
   have hfl : ∀ (l : List Int), (l.map fun x => [AV.int .i64 x]).flatten = l.map fun x => AV.int .i64 x := fun l => by
    induction l with
    | nil => rfl
    | cons x l ih => rw [List.map_cons, List.flatten_cons, ih]; rfl
   have hlen : p.2.length = (p.2.map fun x => [AV.int .i64 x]).length := by simp
   rw [hlen]
   refine .lst 1 _ g 0 cap (fun j => .int .i64 (p.2.getD j 0)) (by rw [List.length_map]; exact e2) e3 (fun c hc => ?_) (fun j x hj => ?_) (fun j x hj => ?_)
   ·obtain ⟨y, _, rfl⟩ := List.mem_map.1 hc; rfl
   ·rw [hfl, List.getElem?_map] at hj
    obtain ⟨z, hz, rfl⟩ := Option.map_eq_some_iff.1 hj
    unfold yu
    rw [if_pos (hin g hgB), Nat.zero_add]
    refine hcl j _ ?_
    rw [List.getElem?_map, hz]; simp [List.getD_eq_getElem?_getD, hz]
   ·rw [hfl, List.getElem?_map] at hj
    obtain ⟨z, hz, rfl⟩ := Option.map_eq_some_iff.1 hj
    rw [List.getD_eq_getElem?_getD, hz]
    exact .int _ _ (r2.rg z (List.mem_of_getElem? hz))
 have hME : ∀ (es : List MapEntry) (at_ : List (Int × Nat)) (m : List (Int × List Int)), MP vs es at_ -> L2 (fun p q => p.1 = q.1 ∧ (p.2, q.2) ∈ F.rows) at_ m -> ME (yu σ w B) (fun l : List Int => AV.lst 1 (l.map fun x => [AV.int .i64 x])) es m := by
  intro es
  induction es with
  | nil =>
   intro at_ m h1 h2
   cases at_ with
   | nil => rw [L2.nil_iff.1 h2]; trivial
   | cons => exact h1.elim
  | cons x es ih =>
   intro at_ m h1 h2
   cases at_ with
   | nil => exact h1.elim
   | cons p at_ =>
    obtain ⟨k, i⟩ := p
    obtain ⟨⟨k', l⟩, m', rfl, h3, h4⟩ := h2.cons_inv
    have e1 : k = k' := h3.1
    subst e1
    exact ⟨h1.1, hlist _ h3.2 _ h1.2.1, ih at_ m' h1.2.2 h4⟩
 have hcB : ∀ g, jC c = some g -> g ∉ B := fun g hg' hm' => by
  obtain ⟨p, hp, u, e1, e2⟩ := (hBm g).1 hm'
  obtain ⟨u', r1, r2, r3⟩ := hF.rows p hp
  have : u' = u := by rw [e1] at r1; exact (Option.some.inj r1).symm
  subst this
  exact r3 g e2 hg'
 have hup : ∀ i, i ≠ N -> upd ι N c i = ι i := fun i hi => jW hi
 have hold : ∀ i d, i ≠ N -> j9 ((N, .sem (yK (fun l : List Int => AV.lst 1 (l.map fun x => [AV.int .i64 x])) m)) :: h) i = some d -> j9 h i = some d := fun i d hi hd => by
  rw [j7, if_neg (fun e => hi e.symm)] at hd; exact hd
 have hfe : ∀ i g, Feet (upd ι N c i) g -> Feet (ι i) g ∧ (i = N -> g ∉ B) := fun i g hgf => by
  by_cases hi : i = N
  ·subst hi
   rw [jM] at hgf
   have hgf := hgf.one (fun vs e => by rw [k1] at e; cases e)
   exact ⟨by rw [hF.tup]; exact yH hF.head hgf, fun _ => hcB g hgf⟩
  ·rw [jW hi] at hgf; exact ⟨hgf, fun e => absurd e hi⟩
 have hany : ∀ i d, j9 ((N, .sem (yK (fun l : List Int => AV.lst 1 (l.map fun x => [AV.int .i64 x])) m)) :: h) i = some d -> ∃ d', j9 h i = some d' := fun i d hd => by
  by_cases hi : i = N
  ·subst hi; exact ⟨_, hg⟩
  ·exact ⟨_, hold i d hi hd⟩
 refine ⟨yu σ w B, upd ι N c, ⟨hr.os, hr.tape, hr.output, hr.size, hr.old, fun a ha => ?_, fun a v ha => ?_, fun i d hd => ?_, fun i d hd g hgf => ?_, fun i j d d' hd hd' g h1 h2 => ?_, fun p hp => ?_, hr.low, fun p hp => ⟨(hr.xo p hp).1, (hr.xo p hp).2.1, fun i d hd hf => ?_⟩⟩, ?_⟩
 ·unfold yu
  rw [if_neg (fun e => by have := hBge _ (List.contains_iff_mem.1 e); omega)]; exact hr.sigOld a ha
 ·unfold yu at ha
  split at ha
  ·exact ha
  ·exact hr.sub a v ha
 ·by_cases hi : i = N
  ·subst hi
   rw [j7, if_pos rfl] at hd; cases hd
   show j5W _ _ _ _ _
   rw [jM]
   exact ⟨b, es, clock, k1, k2, hME _ _ _ k3 hm⟩
  ·have hd' := hold i d hi hd
   have h4 := (hr.ch i d hd').keep hle fun _ _ => rfl
   have h2 := vM hlo i d hd'
   cases d with
   | blk ty cs =>
    obtain ⟨g, cur, h5, h6, h7⟩ := h4
    exact ⟨g, cur, by rw [jW hi]; exact h5, h6, h7.1, fun j x y a b => (h7.2 j x y a b).upd (qA h2 j x a)⟩
   | row e sz xs =>
    obtain ⟨h0, h5, vs, h6, h7⟩ := h4
    exact ⟨h0, h5, vs, by rw [jW hi]; exact h6, h7⟩
   | sem c => show c.rel _ _ _; rw [jW hi]; exact h4
 ·obtain ⟨d', hd'⟩ := hany i d hd
  obtain ⟨f1, f2⟩ := hfe i g hgf
  refine ⟨(hr.foot i d' hd' g f1).1, hnone i d' hd' g f1 fun hm' => ?_⟩
  by_cases hi : i = N
  ·exact f2 hi hm'
  ·exact hi (hr.dj i N d' _ hd' hg g f1 (hBf g hm'))
 ·obtain ⟨d1, hd1⟩ := hany i d hd
  obtain ⟨d2, hd2⟩ := hany j d' hd'
  exact hr.dj i j d1 d2 hd1 hd2 g (hfe i g h1).1 (hfe j g h2).1
 ·obtain ⟨h1, h2⟩ := hr.pin p hp
  exact ⟨h1, by rw [jW (by omega)]; exact h2⟩
 ·obtain ⟨d', hd'⟩ := hany i d hd
  exact (hr.xo p hp).2.2 i d' hd' (hfe i _ hf).1
 ·have hk := ht.kill N (by omega) c
  refine ⟨ht.size, hk.defers, fun u => ?_⟩
  rw [qO]
  split
  ·rename_i e1; subst e1
   have hv := ht.at_ t
   rw [hs] at hv
   obtain ⟨ws, q1, q2, q3⟩ := hv.part_inv
   have e1 := hF.tup.symm.trans q1
   cases e1
   have e2 := hF.head.symm.trans q2
   simp only [Option.some.injEq] at e2
   rw [<- e2]
   have h6 := VR.own (σ := yu σ w B) (ι := upd ι N c) N (by rw [jM, k1]; rfl)
   rwa [jM] at h6
  ·exact (hk.at_ u).mono hle

section
variable {β : Type} {H : β -> Bool -> j8} {ok ok1 : β -> Prop} {K : j6 -> β -> Prop} {tn ln : List Nat} {c N m : Nat} {nw : Nat -> List Nat} {x : β}
theorem j5L {v : AV} (hg : o.guard = none) (hm : Nat.beq m c = false) (ht : tn.contains m = false) (hl : ln.contains m = true) (hv : ∀ f, fO ops c m f = true -> Y P o s (H x f) v) (hq : mQ ops c N tn nw m v = true) (hk : QW P ops H ok ok1 tn ln c N nw K (m + 1) rest (jX s o.dst v) x) : QW P ops H ok ok1 tn ln c N nw K m (o :: rest) s x :=
 ⟨.inr (.inr (.inl ⟨.inl hg, fun e => by subst e; simp at hm, ht, v, hq, .inl ⟨hl, fun f hf => (hv f hf).out⟩, hk.out⟩))⟩
end
end
end Go.Proofs.YtfjoaeghnfkdlaaGreatDoor
