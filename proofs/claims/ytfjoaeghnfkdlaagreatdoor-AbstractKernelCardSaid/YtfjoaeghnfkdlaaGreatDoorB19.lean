/- A row of which one thing alone is said. No condition. -/
import Derived.Test.YtfjoaeghnfkdlaaGreatDoorB11
set_option linter.unusedSimpArgs false
set_option linter.unusedVariables false
set_option maxHeartbeats 1000000
set_option maxRecDepth 100000
namespace Go.Proofs.YtfjoaeghnfkdlaaGreatDoor
open Go.RowKit
section
variable {P : Program} {n : Md} {Q : Exit -> j6 -> j8 -> Prop} {s : j6} {h : j8}
theorem xE {w w' : World} {e : TypeId} {sz : Nat} {v : Value} {k : Nat} {vs : List Value} (h : w.ownsRow 0 e sz v k vs) (hw : ∀ g, Feet v g -> w'.heap[g]? = w.heap[g]?) : w'.ownsRow 0 e sz v k vs := by
 obtain ⟨h2, h3⟩ := h
 refine ⟨h2, ?_⟩
 rcases h3 with h3 | ⟨g, cap, cur, hv, hb, hg, r⟩
 ·exact .inl h3
 ·exact .inr ⟨g, cap, cur, hv, hb, by rw [hw g (by rw [hv]; exact .inl rfl)]; exact hg, r⟩
def exC (e : TypeId) (sz : Nat) (Φ : List (List AV) -> Prop) : SemC where
 rel := fun σ H v => ∃ xs, Φ xs ∧ 0 < sz ∧ (∀ c ∈ xs, c.length = sz) ∧ ∃ (w : World) (vs : List Value), w.heap = H ∧ w.ownsRow 0 e sz v xs.length vs ∧ L2 (VR0 σ) xs.flatten vs
 keep := fun σ σ' H H' v ⟨xs, h1, h2, h3, w, vs, h4, h5, h6⟩ hs hw => ⟨xs, h1, h2, h3, { w with heap := H' }, vs, rfl, xE h5 (fun g hg => by rw [h4]; exact hw g hg), h6.mono fun _ _ h => h.mono hs⟩
 lt := fun σ H v g ⟨xs, h1, h2, h3, w, vs, h4, h5, h6⟩ hg => by
  rcases h5.2 with ⟨hv, _⟩ | ⟨g', cap, cur, hv, hb, hc, r⟩
  ·have hg := hg.one (fun vs e => by rw [hv] at e; cases e)
   rw [hv] at hg; cases hg
  ·have hg := hg.one (fun vs e => by rw [hv] at e; cases e)
   rw [hv] at hg; simp only [jC, Option.some.injEq] at hg; subst hg
   rw [<- h4]; exact (Array.getElem?_eq_some_iff.1 hc).1
theorem Rel.say {E : Env} {σ : Sig} {ι : Nat -> Value} {w : World} (hr : Rel E σ ι h w) {i : Nat} {c c' : Chunk} (hg : j9 h i = some c) (hc : CR σ ι w i c') : Rel E σ ι ((i, c') :: h) w := by
 have key : ∀ j d, j9 ((i, c') :: h) j = some d -> ∃ d', j9 h j = some d' := fun j d hd => by
  rw [j7] at hd
  split at hd
  ·rename_i e; exact ⟨c, e ▸ hg⟩
  ·exact ⟨d, hd⟩
 refine ⟨hr.os, hr.tape, hr.output, hr.size, hr.old, hr.sigOld, hr.sub, fun j d hd => ?_, fun j d hd => ?_, fun j k d e hd he => ?_, hr.pin, hr.low, fun p hp => ⟨(hr.xo p hp).1, (hr.xo p hp).2.1, fun j d hd => ?_⟩⟩
 ·rw [j7] at hd
  split at hd
  ·rename_i e; cases hd; exact e ▸ hc
  ·exact hr.ch j d hd
 ·obtain ⟨d', h'⟩ := key j d hd; exact hr.foot j d' h'
 ·obtain ⟨d', h1⟩ := key j d hd; obtain ⟨e', h2⟩ := key k e he; exact hr.dj j k d' e' h1 h2
 ·obtain ⟨d', h'⟩ := key j d hd; exact (hr.xo p hp).2.2 j d' h'
theorem Rel.pack {E : Env} {σ : Sig} {ι : Nat -> Value} {w : World} (hr : Rel E σ ι h w) {i sz : Nat} {e : TypeId} {xs : List (List AV)} {Φ : List (List AV) -> Prop} (hg : j9 h i = some (.row e sz xs)) (hx : Φ xs) : Rel E σ ι ((i, .sem (exC e sz Φ)) :: h) w := by
 refine hr.say hg ?_
 obtain ⟨h0, h1, vs, h2, h3⟩ := hr.ch i _ hg
 exact ⟨xs, hx, h0, h1, w, vs, rfl, h2, h3⟩
theorem Rel.unpack {E : Env} {σ : Sig} {ι : Nat -> Value} {w : World} (hr : Rel E σ ι h w) {i sz : Nat} {e : TypeId} {Φ : List (List AV) -> Prop} (hg : j9 h i = some (.sem (exC e sz Φ))) : ∃ xs, Φ xs ∧ Rel E σ ι ((i, .row e sz xs) :: h) w := by
 obtain ⟨xs, h1, h2, h3, w', vs, h4, h5, h6⟩ := hr.ch i _ hg
 exact ⟨xs, h1, hr.say hg ⟨h2, h3, vs, xE h5 (fun g _ => by rw [h4]), h6⟩⟩
theorem j0q (i : Nat) {sz : Nat} {e : TypeId} {xs : List (List AV)} (Φ : List (List AV) -> Prop) (hg : j9 h i = some (.row e sz xs)) (hx : Φ xs) : Turns n s h s ((i, .sem (exC e sz Φ)) :: h) :=
 fun E σ ι a w hr ht => ⟨σ, ι, hr.pack hg hx, ht⟩
theorem FnH.exOpen {f : FuncId} {args : List AV} {hin : j8} {R : AV -> j8 -> Prop} (i : Nat) {sz : Nat} {e : TypeId} {Φ : List (List AV) -> Prop} (hf : qw P f) (h1 : ∀ xs, Φ xs -> FnH P f args ((i, .row e sz xs) :: hin) R) (hg : j9 hin i = some (.sem (exC e sz Φ))) : FnH P f args hin R :=
 ⟨hf, fun may pin σ ι w vs hr hv => let ⟨xs, h2, h3⟩ := hr.unpack hg; (h1 xs h2).2 may pin σ ι w vs h3 hv⟩
theorem FnH.exPack {f : FuncId} {args : List AV} {hin : j8} {R : AV -> j8 -> Prop} (i : Nat) {sz : Nat} {e : TypeId} (hf : FnH P f args hin (fun r h' => ∃ xs Φ, j9 h' i = some (.row e sz xs) ∧ Φ xs ∧ ∃ h2, LeH ((i, .sem (exC e sz Φ)) :: h') h2 ∧ R r h2)) : FnH P f args hin R :=
 ⟨hf.1, fun may pin σ ι w vs hr hv => (hf.2 may pin σ ι w vs hr hv).mono fun e w' ⟨u, r, h', σ', ι', h1, ⟨xs, Φ, h2, h3, h4, h5, h6⟩, h7, h8⟩ => ⟨u, r, h4, σ', ι', h1, h6, h7, (h8.pack h2 h3).le h5⟩⟩
theorem FnH.leIn {f : FuncId} {args : List AV} {hin hin' : j8} {R : AV -> j8 -> Prop} (hf : FnH P f args hin R) (hl : LeH hin' hin) : FnH P f args hin' R :=
 ⟨hf.1, fun may pin σ ι w vs hr hv => hf.2 may pin σ ι w vs (hr.le hl) hv⟩
end
end Go.Proofs.YtfjoaeghnfkdlaaGreatDoor
