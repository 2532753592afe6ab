/- A part of what is the call's own, lent out and taken back. No condition. -/
import Derived.Test.YtfjoaeghnfkdlaaGreatDoorB7
import Derived.Test.YtfjoaeghnfkdlaaGreatDoorB8
set_option linter.unusedSimpArgs false
set_option linter.unusedVariables false
set_option maxHeartbeats 1000000
set_option maxRecDepth 100000
namespace Go.Proofs.YtfjoaeghnfkdlaaGreatDoor
open Go.RowKit
section
variable {P : Program} {n : Md} {Q : Exit -> j6 -> j8 -> Prop} {s : j6} {h : j8} {ops : Array Oper} {rest : List Oper} {o : Oper} {K : j6 -> Prop}
theorem Rel.lend {E : Env} {σ : Sig} {ι : Nat -> Value} {w : World} (ρ : Nat -> Nat) {hin : j8} (hr : Rel E σ ι h w) (hsub : LeH h (wb ρ hin)) (hlow : YP (jI hin) = true) (hinj : Yb ρ (jI hin) = true)
  (hrow : (vF ρ (jI hin)).all (Nat.ble 5) = true) (hlone : Vy (vF ρ (jI hin)) (vO ((jI hin).map ρ) h) = true) :
  ∃ may pin, Rel ⟨w, σ, may, pin, []⟩ σ (fun i => ι (ρ i)) hin w ∧ ∀ (w' : World) (h' : j8) (σ' : Sig) (ι' : Nat -> Value), Rel ⟨w, σ, may, pin, []⟩ σ' ι' h' w' -> qB (jI hin) h' = true ->
   ∃ ι2, Rel E σ' ι2 (wb ρ h' ++ vO ((jI hin).map ρ) h) w' ∧ Sig.le σ σ' ∧ (∀ i ∈ jI hin, ι' i = ι2 (ρ i)) ∧ ∀ (n : Md) (s : j6) (a : Act), TR n σ ι s a -> TR n σ' ι2 (xY (vF ρ (jI hin)) s) a := by
 have hinj' : ∀ i ∈ jI hin, ∀ j ∈ jI hin, ρ i = ρ j -> i = j := fun i hi j hj e => zK hinj hi hj e
 have hlt : ∀ i ∈ jI hin, i < 10 ∨ 100 <= i := Vd hlow
 have hin1 : ∀ i c, j9 hin i = some c -> j9 h (ρ i) = some (j1g ρ c) := fun i c hc => hsub (ρ i) _ (by rw [wa (fun _ h => h) hinj' i (wq hc), hc]; rfl)
 let may := (jI hin).flatMap fun i => (Yp (ι (ρ i))).map fun g => (i, g)
 let pin := ((jI hin).filter (· < 5)).map fun i => (i, ι (ρ i))
 have hmay : ∀ i g, (i, g) ∈ may ↔ i ∈ jI hin ∧ Feet (ι (ρ i)) g := fun i g => by
  simp only [may, List.mem_flatMap, List.mem_map, Prod.mk.injEq]
  constructor
  ·rintro ⟨j, hj, g', h6, rfl, rfl⟩; exact ⟨hj, zP.1 h6⟩
  ·rintro ⟨hj, h6⟩; exact ⟨i, hj, g, zP.2 h6, rfl, rfl⟩
 have hr1 : Rel ⟨w, σ, may, pin, []⟩ σ (fun i => ι (ρ i)) hin w := by
  refine ⟨rfl, rfl, rfl, Nat.le_refl _, fun _ _ _ => rfl, fun _ _ => rfl, hr.sub, fun i c hc => ?_, fun i c hc g hg => ⟨.inl ((hmay i g).2 ⟨wq hc, hg⟩), (hr.foot (ρ i) _ (hin1 i c hc) g hg).2⟩,
   fun i j c d hc hd g hi hj => hinj' i (wq hc) j (wq hd) (hr.dj (ρ i) (ρ j) _ _ (hin1 i c hc) (hin1 j d hd) g hi hj), fun p hp => ?_, fun p hp => ?_, fun p hp => (by cases hp)⟩
  ·have h6 := hr.ch (ρ i) _ (hin1 i c hc)
   cases c with
   | blk ty cs =>
    obtain ⟨g, cur, k1, k2, k3⟩ := h6
    exact ⟨g, cur, k1, k2, by rw [<- jU ρ cs]; exact k3.1, fun j x y a b => (k3.2 j (ren ρ x) y (by rw [qm, a]; rfl) b).unren x rfl⟩
   | row e sz xs => exact h6
   | sem c => exact h6
  ·obtain ⟨i, hi, rfl⟩ := List.mem_map.1 hp
   exact ⟨by simpa using (List.mem_filter.1 hi).2, rfl⟩
  ·obtain ⟨i, g⟩ := p
   exact hlt i ((hmay i g).1 hp).1
 refine ⟨may, pin, hr1, fun w' h' σ' ι' h5 c2 => ?_⟩
 have hle : Sig.le σ σ' := fun a v ha => by rw [h5.sigOld a (hr.sig_lt ha)]; exact ha
 have hkeep : ∀ g, g < w.heap.size -> (∀ i ∈ jI hin, ¬ Feet (ι (ρ i)) g) -> w'.heap[g]? = w.heap[g]? := fun g hg hne => h5.old g hg fun i hm => hne i ((hmay i g).1 hm).1 ((hmay i g).1 hm).2
 have hinget : ∀ i ∈ jI hin, ∃ c, j9 hin i = some c := by
  intro i hi
  have : ∀ (l : j8), i ∈ jI l -> ∃ c, j9 l i = some c := by
   intro l
   induction l with
   | nil => intro h; cases h
   | cons p r ih =>
    intro hm
    obtain ⟨j, d⟩ := p
    rw [j7]
    by_cases hj : j = i
    ·exact ⟨d, by rw [if_pos hj]⟩
    ·rw [if_neg hj]
     exact ih (by simp only [jI, List.map_cons, List.mem_cons] at hm; rcases hm with rfl | hm; exact absurd rfl hj; exact hm)
  exact this hin hi
 let inv : Nat -> Nat := fun k => ((jI hin).find? (fun i => Nat.beq (ρ i) k)).getD 0
 have hinv : ∀ i ∈ jI hin, inv (ρ i) = i := fun i hi => by
  show ((jI hin).find? (fun j => Nat.beq (ρ j) (ρ i))).getD 0 = i
  cases hq : (jI hin).find? (fun j => Nat.beq (ρ j) (ρ i)) with
  | none => have := List.find?_eq_none.1 hq i hi; simp at this
  | some j =>
   have hb := List.find?_some hq
   exact hinj' j (List.mem_of_find?_eq_some hq) i hi (Nat.eq_of_beq_eq_true hb)
 let ι2 : Nat -> Value := fun k => if k ∈ (jI hin).map ρ then ι' (inv k) else ι k
 have e2 : ∀ i ∈ jI hin, ι' i = ι2 (ρ i) := fun i hi => by simp only [ι2, if_pos (List.mem_map_of_mem hi), hinv i hi]
 have e3 : ∀ k, k ∉ (jI hin).map ρ -> ι k = ι2 k := fun i hi => by simp only [ι2, if_neg hi]
 have e5 : ∀ i ∈ jI hin, i < 5 -> ι (ρ i) = ι2 (ρ i) := fun i hi h5' => by
  rw [<- e2 i hi]
  exact (h5.pin (i, ι (ρ i)) (List.mem_map.2 ⟨i, List.mem_filter.2 ⟨hi, by simpa using h5'⟩, rfl⟩)).2.symm
 have hdrop : ∀ k c, j9 (vO ((jI hin).map ρ) h) k = some c -> k ∉ (jI hin).map ρ ∧ j9 h k = some c := fun i c hc => by
  rw [xa] at hc
  split at hc
  ·cases hc
  ·exact ⟨by assumption, hc⟩
 have hsub' : ∀ i ∈ jI h', i ∈ jI hin := by
  have : ∀ (l : j8), qB (jI hin) l = true -> ∀ i ∈ jI l, i ∈ jI hin := by
   intro l
   induction l with
   | nil => intro _ i hi; cases hi
   | cons p r ih =>
    intro hcl i hi
    obtain ⟨j, d⟩ := p
    have hj : (jI hin).any (Nat.beq j) = true ∧ qB (jI hin) r = true := by
     cases d with
     | blk ty cs => simp only [qB, Bool.and_eq_true] at hcl; exact ⟨hcl.1.1, hcl.2⟩
     | row e sz xs => simp only [qB, Bool.and_eq_true] at hcl; exact hcl
     | sem c => simp only [qB, Bool.and_eq_true] at hcl; exact hcl
    simp only [jI, List.map_cons, List.mem_cons] at hi
    rcases hi with rfl | hi
    ·obtain ⟨k, hk, hb⟩ := List.any_eq_true.1 hj.1
     rw [Nat.eq_of_beq_eq_true hb]; exact hk
    ·exact ih hj.2 i hi
  exact this h' c2
 have hh : ∀ k c, j9 (wb ρ h' ++ vO ((jI hin).map ρ) h) k = some c -> (∃ i d, k = ρ i ∧ i ∈ jI hin ∧ j9 h' i = some d ∧ c = j1g ρ d) ∨ (k ∉ (jI hin).map ρ ∧ j9 h k = some c) := fun k c hc => by
  rw [xi] at hc
  split at hc
  ·rename_i d hd; cases hc
   obtain ⟨i, hi, rfl⟩ := xm hd
   rw [wa hsub' hinj' i (hsub' i hi)] at hd
   obtain ⟨d0, h6, rfl⟩ := Option.map_eq_some_iff.1 hd
   exact .inl ⟨i, d0, rfl, hsub' i hi, h6, rfl⟩
  ·exact .inr (hdrop k c hc)
 have hfar : ∀ k c, k ∉ (jI hin).map ρ -> j9 h k = some c -> ∀ g, Feet (ι k) g -> ∀ j ∈ jI hin, ¬ Feet (ι (ρ j)) g := fun k c hk hc g hg j hj e => by
  obtain ⟨d, hd⟩ := hinget j hj
  exact hk (hr.dj k (ρ j) c _ hc (hin1 j d hd) g hg e ▸ List.mem_map_of_mem hj)
 have hf1 : ∀ i c, j9 h' i = some c -> ∀ g, Feet (ι' i) g -> (i ∈ jI hin ∧ Feet (ι (ρ i)) g) ∨ w.heap.size <= g := fun i c hc g hg => by
  rcases (h5.foot i c hc g hg).1 with h6 | h6
  ·exact .inl ((hmay i g).1 h6)
  ·exact .inr h6
 have hnew : Rel E σ' ι2 (wb ρ h' ++ vO ((jI hin).map ρ) h) w' := by
  refine ⟨h5.os.trans hr.os, h5.tape.trans hr.tape, h5.output.trans hr.output, Nat.le_trans hr.size h5.size, ?_, ?_, h5.sub, ?_, ?_, ?_, ?_, hr.low, ?_⟩
  ·intro b hb hm
   rw [hkeep b (Nat.lt_of_lt_of_le hb hr.size) fun i hi e => by
    obtain ⟨c, hc⟩ := hinget i hi
    rcases (hr.foot (ρ i) _ (hin1 i c hc) b e).1 with h6 | h6
    ·exact hm _ h6
    ·omega]
   exact hr.old b hb hm
  ·intro a ha
   rw [h5.sigOld a (Nat.lt_of_lt_of_le ha hr.size)]; exact hr.sigOld a ha
  ·intro k c hc
   rcases hh k c hc with ⟨i, d, rfl, h7, h6, rfl⟩ | ⟨h6, h7⟩
   ·have h8 := h5.ch i d h6
    have h9 := (wm c2 i d h6).2
    cases d with
    | blk ty cs =>
     obtain ⟨g, cur, k1, k2, k3⟩ := h8
     refine ⟨g, cur, by rw [<- e2 i h7]; exact k1, k2, by rw [jU]; exact k3.1, fun j x y a b => ?_⟩
     rw [qm] at a
     cases hq : cs[j]? with
     | none => rw [hq] at a; cases a
     | some q => rw [hq] at a; cases a; exact (k3.2 j q y hq b).reren e2 (vP h9 j q hq)
    | row e sz xs =>
     obtain ⟨k0, k1, vs, k2, k3⟩ := h8
     exact ⟨k0, k1, vs, by rw [<- e2 i h7]; exact k2, k3⟩
    | sem c => show c.rel _ _ _; rw [<- e2 i h7]; exact h8
   ·have h8 := (hr.ch k c h7).keep hle fun g hg => hkeep g (hr.foot_lt h7 hg) (hfar k c h6 h7 g hg)
    cases c with
    | blk ty cs =>
     obtain ⟨g, cur, k1, k2, k3⟩ := h8
     refine ⟨g, cur, by rw [<- e3 k h6]; exact k1, k2, k3.1, fun j x y a b => (k3.2 j x y a b).same fun m hm => ?_⟩
     by_cases hmm : m ∈ (jI hin).map ρ
     ·obtain ⟨i, hi, rfl⟩ := List.mem_map.1 hmm
      by_cases hk5 : i < 5
      ·exact e5 i hi hk5
      ·have h9 := vM (List.all_eq_true.1 hlone (ρ i) (vi hi (by omega))) k (.blk ty cs) (by rw [xa, if_neg h6]; exact h7)
       rw [qA h9 j x a] at hm; cases hm
     ·exact e3 m hmm
    | row e sz xs =>
     obtain ⟨k0, k1, vs, k2, k3⟩ := h8
     exact ⟨k0, k1, vs, by rw [<- e3 k h6]; exact k2, k3⟩
    | sem c => show c.rel _ _ _; rw [<- e3 k h6]; exact h8
  ·intro k c hc g hg
   rcases hh k c hc with ⟨i, d, rfl, h7, h6, rfl⟩ | ⟨h6, h7⟩
   ·rw [<- e2 i h7] at hg
    refine ⟨?_, (h5.foot i d h6 g hg).2⟩
    rcases hf1 i d h6 g hg with ⟨hj, hfj⟩ | hge
    ·obtain ⟨d0, hd0⟩ := hinget i hj
     exact (hr.foot (ρ i) _ (hin1 i d0 hd0) g hfj).1
    ·exact .inr (Nat.le_trans hr.size hge)
   ·rw [<- e3 k h6] at hg
    obtain ⟨h8, h9⟩ := hr.foot k c h7 g hg
    exact ⟨h8, fun o => by rw [h5.sigOld _ (hr.foot_lt h7 hg)]; exact h9 o⟩
  ·have cross : ∀ i k c d, j9 h' i = some c -> k ∉ (jI hin).map ρ -> j9 h k = some d -> ∀ g, Feet (ι' i) g -> Feet (ι k) g -> False := fun i k c d h6 h8 h9 g hg hg2 => by
    rcases hf1 i c h6 g hg with ⟨hk, hfk⟩ | hge
    ·exact hfar k d h8 h9 g hg2 i hk hfk
    ·have := hr.foot_lt h9 hg2; omega
   intro k l c d hc hd g hi hj
   rcases hh k c hc with ⟨i, c0, rfl, h7, h6, rfl⟩ | ⟨h6, h7⟩
   ·rw [<- e2 i h7] at hi
    rcases hh l d hd with ⟨j, d0, rfl, h9, h8, rfl⟩ | ⟨h8, h9⟩
    ·rw [<- e2 j h9] at hj
     rw [h5.dj i j c0 d0 h6 h8 g hi hj]
    ·rw [<- e3 l h8] at hj
     exact (cross i l c0 d h6 h8 h9 g hi hj).elim
   ·rw [<- e3 k h6] at hi
    rcases hh l d hd with ⟨j, d0, rfl, h9, h8, rfl⟩ | ⟨h8, h9⟩
    ·rw [<- e2 j h9] at hj
     exact (cross j k d0 c h8 h6 h7 g hj hi).elim
    ·rw [<- e3 l h8] at hj
     exact hr.dj k l c d h7 h9 g hi hj
  ·intro p hp
   obtain ⟨h6, h7⟩ := hr.pin p hp
   refine ⟨h6, ?_⟩
   by_cases hm : p.1 ∈ (jI hin).map ρ
   ·obtain ⟨i, hi, e⟩ := List.mem_map.1 hm
    rw [<- e]
    by_cases hi5 : i < 5
    ·rw [<- e5 i hi hi5, e]; exact h7
    ·have h8 := List.all_eq_true.1 hrow (ρ i) (vi hi (by omega))
     rw [e] at h8
     have := Nat.ble_eq ▸ h8
     omega
   ·rw [<- e3 p.1 hm]; exact h7
  ·intro p hp
   obtain ⟨h6, h7, h8⟩ := hr.xo p hp
   have hlt2 := (Array.getElem?_eq_some_iff.1 h7).1
   refine ⟨h6, (hkeep p.1 hlt2 fun i hi e => ?_).trans h7, fun k c hc e => ?_⟩
   ·obtain ⟨c, hc⟩ := hinget i hi
    exact h8 (ρ i) _ (hin1 i c hc) e
   ·rcases hh k c hc with ⟨i, d, rfl, h9, h10, rfl⟩ | ⟨h9, h10⟩
    ·rw [<- e2 i h9] at e
     rcases hf1 i d h10 p.1 e with ⟨hj, hfj⟩ | hge
     ·obtain ⟨d0, hd0⟩ := hinget i hj
      exact h8 (ρ i) _ (hin1 i d0 hd0) hfj
     ·omega
    ·rw [<- e3 k h9] at e
     exact h8 k c h10 e
 have epin : ∀ k, k < 5 -> ι2 k = ι k := fun k hk => by
  by_cases hm : k ∈ (jI hin).map ρ
  ·obtain ⟨i, hi, e⟩ := List.mem_map.1 hm
   rw [<- e]
   by_cases hi5 : i < 5
   ·exact (e5 i hi hi5).symm
   ·have h8 := List.all_eq_true.1 hrow (ρ i) (vi hi (by omega))
    rw [e] at h8
    have := Nat.ble_eq ▸ h8
    omega
  ·exact (e3 k hm).symm
 refine ⟨ι2, hnew, hle, e2, fun n s a ht => ⟨ht.size, ⟨ht.defers.1, fun p hp => let ⟨h1, h2⟩ := ht.defers.2 p hp; ⟨h1, (epin _ h1).trans h2⟩⟩, fun t => ?_⟩⟩
 rcases Jk (vF ρ (jI hin)) s t with h6 | ⟨h6, h7⟩
 ·rw [h6]; exact .base _ _ (.undef _)
 ·rw [h6]
  refine ((ht.at_ t).mono hle).same fun k hk => ?_
  by_cases hm : k ∈ (jI hin).map ρ
  ·obtain ⟨i, hi, rfl⟩ := List.mem_map.1 hm
   by_cases hk5 : i < 5
   ·exact e5 i hi hk5
   ·rw [h7 _ (vi hi (by omega))] at hk; cases hk
  ·exact e3 k hm
end
section
variable {P : Program} {n : Md} {Q : Exit -> j6 -> j8 -> Prop} {s : j6} {h : j8} {ops : Array Oper} {rest : List Oper} {o : Oper} {K : j6 -> Prop}
def v6 (b : Nat) (ob : Obj) : SemC where
 rel := fun _ H v => v = .map (some b) ∧ H[b]? = some ob
 keep := fun σ σ' H H' v ⟨h1, h2⟩ hs hw => ⟨h1, by rw [hw b (.inl (by rw [h1]; rfl))]; exact h2⟩
 lt := fun σ H v g ⟨h1, h2⟩ hg => by
  have hg := hg.one (fun vs e => by rw [h1] at e; cases e)
  rw [h1] at hg; simp only [jC, Option.some.injEq] at hg; subst hg
  exact (Array.getElem?_eq_some_iff.1 h2).1
theorem Rel.obj {E : Env} {σ : Sig} {ι : Nat -> Value} {w : World} {id b : Nat} {ob : Obj} (hr : Rel E σ ι h w) (hg : j9 h id = some (.sem (v6 b ob))) : ι id = .map (some b) ∧ w.heap[b]? = some ob := hr.ch id _ hg
theorem Rel.objNew {E : Env} {σ : Sig} {ι : Nat -> Value} {w : World} (hr : Rel E σ ι h w) (id : Nat) (ob : Obj) (hf : vo id h = true) (h5 : 5 <= id) :
  Rel E σ (upd ι id (.map (some w.heap.size))) ((id, .sem (v6 w.heap.size ob)) :: h) (w.alloc ob) :=
 hr.turn (id := id) (u := .map (some w.heap.size)) (h' := (id, .sem (v6 w.heap.size ob)) :: h) (c' := .sem (v6 w.heap.size ob)) (w' := w.alloc ob)
  (fun i c hi hc => by
    rw [j7, if_neg (fun e => hi e.symm)] at hc
    exact ⟨hc, .inr (ju hf i c hc).2⟩)
  (by rw [j7, if_pos rfl])
  (by show _ ∧ _; rw [jM]; exact ⟨rfl, heap_alloc_new w _⟩)
  rfl rfl rfl (by simp) (fun k hk _ => Below.heap_alloc _ _ _ hk) (fun g hv => by cases hv; exact .inr (Nat.le_refl _)) (.inl h5)
theorem Rel.objTurn {E : Env} {σ : Sig} {ι : Nat -> Value} {w : World} (hr : Rel E σ ι h w) {id b : Nat} {ob : Obj} (hg : j9 h id = some (.sem (v6 b ob))) (ob' : Obj) :
  Rel E σ ι ((id, .sem (v6 b ob')) :: h) (w.putObj b ob') := by
 obtain ⟨h1, h2⟩ := hr.obj hg
 have hnew := hr.turn (id := id) (u := ι id) (h' := (id, .sem (v6 b ob')) :: h) (c' := .sem (v6 b ob')) (w' := w.putObj b ob')
  (fun i c hi hc => by rw [j7, if_neg (fun e => hi e.symm)] at hc; exact ⟨hc, .inl rfl⟩) (by rw [j7, if_pos rfl])
  (by show _ ∧ _; rw [jM]; exact ⟨h1, World.putObj_heap_same (Array.getElem?_eq_some_iff.1 h2).1⟩)
  rfl rfl rfl (by simp) (fun k hk hne => World.putObj_heap_other fun e => hne _ hg (by rw [h1, e]; rfl)) (fun g hv => .inl ⟨_, hg, hv⟩) (.inr rfl)
 have hsame : upd ι id (ι id) = ι := by funext i; unfold upd; split <;> simp_all
 rwa [hsame] at hnew
def Jr (pins : List (Nat × Value)) (ι : Nat -> Value) : Prop := ∀ p ∈ pins, p.1 < 5 ∧ ι p.1 = p.2
def FnHp (P : Program) (pins : List (Nat × Value)) (f : FuncId) (args : List AV) (hin : j8) (R : AV -> j8 -> Prop) : Prop :=
 qw P f ∧ ∀ (may : List (Nat × Nat)) (pin : List (Nat × Value)) (σ : Sig) (ι : Nat -> Value) (w : World) (vs : List Value), Rel ⟨w, σ, may, pin, []⟩ σ ι hin w -> Jr pins ι -> L2 (VR σ ι) args vs ->
  Calls P f vs.toArray w (fun e w' => ∃ u r h' σ' ι', e = .returned u ∧ R r h' ∧ VR σ' ι' r u ∧ Rel ⟨w, σ, may, pin, []⟩ σ' ι' h' w')
theorem ZA {fn : Func} {c : Code} {E : Env} {pins : List (Nat × Value)} {args : List AV} {vs : List Value} {σ : Sig} {ι : Nat -> Value} {w : World} {f : FuncId} {Qf : AV -> j8 -> Prop} (hf : P.funcs[f]? = some fn) (hb : fn.body = some c) (hl : args.length <= fn.ntmps)
  (hwp : AWp P { n := fn.ntmps, pins := pins } c (JC P fn.results.toList Qf) (vc args 0) h) (hr : Rel E σ ι h w) (hp : Jr pins ι) (hv : L2 (VR σ ι) args vs) :
  Calls P f vs.toArray w (fun e w' => ∃ u r h' σ' ι', e = .returned u ∧ Qf r h' ∧ VR σ' ι' r u ∧ Rel E σ' ι' h' w') := by
 have t0 := JT hl hv
 have h0 := hwp E σ ι _ w hr ⟨t0.size, ⟨rfl, hp⟩, t0.at_⟩
 change c.wpIn Fence.wide 0 P _ _ _ at h0
 refine calls_of_wp hf hb (Code.wp_mono ?_ (wpIn_wide.1 h0))
 rintro e a w' ⟨s', h', σ', ι', q, r, t⟩
 have fin : (∃ v s'' h'', (∀ n, Turns n s' h' s'' h'') ∧ zZ P s'' h'' fn.results.toList = some v ∧ Qf v h'') -> a.defers = [] ∧ ∃ v, (results fn a.tmps).run P w' = .ok v w' ∧ ∃ u r h' σ' ι', Ending.returned v = .returned u ∧ Qf r h' ∧ VR σ' ι' r u ∧ Rel E σ' ι' h' w' := fun ⟨v, s'', h'', hl, h1, h2⟩ => by
  obtain ⟨σ2, ι2, r2, t2⟩ := hl _ E σ' ι' a w' r t
  obtain ⟨u, h3, h4⟩ := J6 (P := P) r2 t2 h1
  exact ⟨t.defers.1, u, h3, u, v, h'', σ2, ι2, rfl, h2, h4, r2⟩
 cases e with
 | ret => exact fin q
 | normal => exact fin q
 | _ => exact q.elim
theorem j0K {pins : List (Nat × Value)} {f : FuncId} {fn : Func} {c : Code} {args : List AV} {hin : j8} {R : AV -> j8 -> Prop} (hf : P.funcs[f]? = some fn) (he : qw P f) (hb : fn.body = some c) (hl : Nat.ble args.length fn.ntmps = true)
  (hwp : W P { n := fn.ntmps, pins := pins } c (JC P fn.results.toList R) (vc args 0) hin) : FnHp P pins f args hin R :=
 ⟨he, fun may pin σ ι w vs hr hp hv => ZA hf hb (Nat.ble_eq ▸ hl) hwp.out hr hp hv⟩
def YF (P : Program) (l : Nat) (pins : List (Nat × Value)) (args : List AV) (hin : j8) (R : Bool -> j8 -> Prop) : Prop :=
 ∀ (may : List (Nat × Nat)) (pin : List (Nat × Value)) (σ : Sig) (ι : Nat -> Value) (w : World) (vs : List Value), Rel ⟨w, σ, may, pin, []⟩ σ ι hin w -> Jr pins ι -> L2 (VR σ ι) args vs ->
  YieldAt (qd none) 0 P l vs.toArray w (fun e w' => ∃ r h' σ' ι', e = .returned (.bool r) ∧ R r h' ∧ Rel ⟨w, σ, may, pin, []⟩ σ' ι' h' w')
theorem j0P (ρ : Nat -> Nat) {l : Nat} {pins : List (Nat × Value)} {args : List AV} {hin : j8} {R : Bool -> j8 -> Prop} (hY : YF P l pins args hin R) (hpin : ∀ p ∈ pins, (ρ p.1, p.2) ∈ n.pins) (hpin5 : ∀ p ∈ pins, p.1 < 5) {y : Operand} {as0 : Array Operand} {ts : Array TypeId} (ho : o.op = .call { callee := .value y, args := as0, argTypes := ts })
  (hy : evA s y = .fn (.yield l) [] []) (has : as0.toList.map (evA s) = y3 ρ args) (hg : o.guard = none) (hsub : LeH h (wb ρ hin)) (hlow : YP (jI hin) = true) (hinj : Yb ρ (jI hin) = true)
  (hrow : (vF ρ (jI hin)).all (Nat.ble 5) = true) (hlone : Vy (vF ρ (jI hin)) (vO ((jI hin).map ρ) h) = true) (hco : qC o = true) (hdo : qj n o.dst = true)
  (hk : ∀ r h', R r h' -> qB (jI hin) h' = true ∧ O P n ops Q rest (jX (xY (vF ρ (jI hin)) s) o.dst (.bool r)) (wb ρ h' ++ vO ((jI hin).map ρ) h)) : O P n ops Q (o :: rest) s h := ⟨fun E σ ι a w hr ht hnd => by
 have hnd := (Bool.and_eq_true _ _).mp (by simpa only [yN, List.all_cons] using hnd)
 have hv := jZ (σ := σ) (ι := ι) (a := a) (List.all_eq_true.1 hco y (by rw [ho]; simp [Op.operands, Call.operands])) fun t _ => ht.at_ t
 rw [hy] at hv
 obtain ⟨us, vs0, h1, h2, h3⟩ := hv.fn_inv
 rw [L2.nil_iff] at h2 h3
 subst h2; subst h3
 obtain ⟨vs, hvs⟩ : ∃ vs, vs = as0.toList.map a.eval := ⟨_, rfl⟩
 have hargs : L2 (VR σ (fun i => ι (ρ i))) args vs := by
  have hl : args.length = as0.toList.length := by rw [<- jU ρ args, <- has, List.length_map]
  refine ⟨by rw [hvs, List.length_map]; exact hl, fun j c v hc hv => ?_⟩
  have h4 : (y3 ρ args)[j]? = some (ren ρ c) := by rw [qm, hc]; rfl
  rw [<- has, List.getElem?_map] at h4
  rw [hvs, List.getElem?_map] at hv
  cases hq : as0.toList[j]? with
  | none => rw [hq] at hv; cases hv
  | some q =>
   rw [hq] at h4 hv
   simp only [Option.map_some, Option.some.injEq] at h4 hv
   have h5 := jZ (σ := σ) (ι := ι) (a := a) (s := s) (x := q) (List.all_eq_true.1 hco q (by rw [ho]; simp only [Op.operands, Call.operands]; simpa using .inr (by simpa using List.mem_of_getElem? hq))) fun t _ => ht.at_ t
   rw [h4, hv] at h5
   exact h5.unren c rfl
 obtain ⟨may, pin, hr1, back⟩ := hr.lend ρ hsub hlow hinj hrow hlone
 obtain ⟨fn, tmps, as_, body, hy1, hy2⟩ := hY may pin σ _ w vs hr1 (fun p hp => ⟨hpin5 p hp, (ht.defers.2 _ (hpin p hp)).2⟩) hargs
 unfold wpListIn
 rw [if_pos (by simp [Region.wanted, hg])]
 refine ⟨fun _ _ => trivial, ?_⟩
 rw [Oper.semAt_eq _ _ _ (fun c e => by rw [ho] at e; cases e)]
 have hrun : (execOp a.eval o).run P w = .ok (.round l fn tmps as_ body) w := by
  have e : as0.map a.eval = vs.toArray := by rw [hvs]; apply Array.toList_inj.1; simp
  simp only [execOp, ho, resolve, h1, Deferred.ofValue, Sem.run_bind, Sem.run_pure, Result.andThen_ok, invoke]
  simpa [e] using hy1
 rw [hrun, Oper.uponIn_round]
 refine ⟨fun hd => absurd hd (by simp [qd, Fence.wide]), ?_⟩
 have hy3 : RoundIn (qd n.ro) (0 - 1) P l fn tmps as_ body w (fun e w' => ∃ r h' σ' ι', e = .returned (.bool r) ∧ R r h' ∧ Rel ⟨w, σ, may, pin, []⟩ σ' ι' h' w') := hy2
 refine hy3.mono ?_
 rintro e w' ⟨r, h', σ', ι', rfl, h4, h5⟩
 obtain ⟨c1, c2⟩ := hk r h' h4
 obtain ⟨ι2, k1, k2, k3, k4⟩ := back w' h' σ' ι' h5 c1
 exact c2.out E σ' ι2 _ w' k1 ((k4 n s a ht).putS hdo (.base _ _ (.bool _))) hnd.2⟩
def y8 (σ0 : Sig) : SemC where
 rel := fun σ _ v => v = .nilFunc ∧ Sig.le σ0 σ
 keep := fun σ σ' H H' v ⟨h1, h2⟩ hs _ => ⟨h1, fun a v ha => hs a v (h2 a v ha)⟩
 lt := fun σ H v g ⟨h1, h2⟩ hg => by rw [h1] at hg; cases hg.one (fun vs e => by cases e)
theorem Rel.knowNew {E : Env} {σ : Sig} {ι : Nat -> Value} {w : World} (hr : Rel E σ ι h w) (id : Nat) (hf : vo id h = true) (h5 : 5 <= id) :
  Rel E σ (upd ι id .nilFunc) ((id, .sem (y8 σ)) :: h) w :=
 hr.turn (id := id) (u := .nilFunc) (h' := (id, .sem (y8 σ)) :: h) (c' := .sem (y8 σ)) (w' := w)
  (fun i c hi hc => by
    rw [j7, if_neg (fun e => hi e.symm)] at hc
    exact ⟨hc, .inr (ju hf i c hc).2⟩)
  (by rw [j7, if_pos rfl]) (by show _ ∧ _; rw [jM]; exact ⟨rfl, Sig.le.refl σ⟩)
  rfl rfl rfl (Nat.le_refl _) (fun _ _ _ => rfl) (fun g hv => by cases hv) (.inl h5)
def vj (σ0 : Sig) (pins : List (Nat × Value)) (s0 : j6) (tmps : Array Value) : Prop :=
 ∀ (σ : Sig) (ι : Nat -> Value), Sig.le σ0 σ -> Jr pins ι -> ∀ t, VR σ ι (get s0 t) (tmps.getD t undef)
def RdB (idL l : Nat) (r : Loop) (R : Bool -> j8 -> Prop) : Exit -> j6 -> j8 -> Prop
 | .normal, s, h => j9 h idL = some (.sem (v6 l (.loop { r with state := .busy }))) ∧ R true ((idL, .sem (v6 l (.loop { r with state := .ready, pending := none }))) :: h)
 | .exit id, s, h => j9 h idL = some (.sem (v6 l (.loop { r with state := .busy }))) ∧ R false ((idL, .sem (v6 l (.loop { r with state := .done, pending := some (.exit id) }))) :: h)
 | .ret, s, h => j9 h idL = some (.sem (v6 l (.loop { r with state := .busy }))) ∧ R false ((idL, .sem (v6 l (.loop { r with state := .done, pending := some .ret }))) :: h)
 | _, s, h => False
def RdA (P : Program) (md : Md) (idL l : Nat) (r : Loop) (R : Bool -> j8 -> Prop) : Exit -> j6 -> j8 -> Prop
 | .normal, s, h => j9 h idL = some (.sem (v6 l (.loop r))) ∧ W P md r.body (RdB idL l r R) s ((idL, .sem (v6 l (.loop { r with state := .busy }))) :: h)
 | _, s, h => False
theorem QJ {pins : List (Nat × Value)} {hin : j8} {idL idK l k t0 : Nat} {r : Loop} {σ0 : Sig} {s0 : j6} {arg : AV} {R : Bool -> j8 -> Prop} (hL : j9 hin idL = some (.sem (v6 l (.loop r)))) (hK : j9 hin idK = some (.sem (y8 σ0)))
  (hready : r.state = .ready) (hps : r.params = #[t0]) (hk : r.tmps.size = k) (ht0 : t0 < k) (hs : vj σ0 pins s0 r.tmps)
  (hbody : W P { n := k, ro := some l, pins := pins } r.assign (RdA P { n := k, ro := some l, pins := pins } idL l r R) ((t0, arg) :: s0) hin) : YF P l pins [arg] hin R := by
 intro may pin σ ι w vs hr hp hv
 obtain ⟨u, vs', rfl, hu, hv⟩ := L2.cons_inv hv
 rw [L2.nil_iff] at hv
 subst hv
 obtain ⟨e1, e2⟩ := hr.obj hL
 have hkn : ι idK = .nilFunc ∧ Sig.le σ0 σ := hr.ch idK _ hK
 refine ⟨r.fn, _, r.assign, r.body, run_yield e2 (by simp [hps]), ?_⟩
 refine roundIn_of_wpIn (F := qd none) (n := 0) trivial ?_
 have hs0 := hs σ ι hkn.2 hp
 have hfold : (r.params.zip [u].toArray).foldl (fun tmps (t, a) => tmps.setIfInBounds t a) r.tmps = r.tmps.setIfInBounds t0 u := by
  rw [hps]; simp
 have ht : TR { n := k, ro := some l, pins := pins } σ ι ((t0, arg) :: s0) { tmps := (r.params.zip [u].toArray).foldl (fun tmps (t, a) => tmps.setIfInBounds t a) r.tmps, defers := [] } := by
  rw [hfold]
  refine ⟨by simp [hk], ⟨rfl, hp⟩, fun t => ?_⟩
  rw [qO]
  by_cases e : t0 = t
  ·subst e
   rw [if_pos rfl]
   have : (r.tmps.setIfInBounds t0 u).getD t0 undef = u := by simp [Array.getD, hk, ht0]
   rw [this]; exact hu
  ·rw [if_neg e]
   have : (r.tmps.setIfInBounds t0 u).getD t undef = r.tmps.getD t undef := by
    simp only [Array.getD_eq_getD_getElem?, Array.getElem?_setIfInBounds, if_neg e]
   rw [this]; exact hs0 t
 refine Go.wpIn_mono (hbody.out ⟨w, σ, may, pin, []⟩ σ ι _ w hr ht) ?_
 rintro e a w1 ⟨s', h', σ', ι', q, r1, t1⟩
 cases e with
 | normal =>
  obtain ⟨q1, q2⟩ := q
  obtain ⟨e3, e4⟩ := r1.obj q1
  refine ⟨_, run_beginRound e4 hready, ?_⟩
  refine Go.wpIn_mono (q2.out _ σ' ι' a _ (r1.objTurn q1 (.loop { r with state := .busy })) t1) ?_
  rintro e2 a2 w2 ⟨s2, h2, σ2, ι2, q3, r3, t3⟩
  cases e2 with
  | normal =>
   obtain ⟨g1, g2⟩ := q3
   obtain ⟨_, e6⟩ := r3.obj g1
   exact ⟨_, _, run_endRound none e6, true, _, σ2, ι2, rfl, g2, r3.objTurn g1 _⟩
  | ret =>
   obtain ⟨g1, g2⟩ := q3
   obtain ⟨_, e6⟩ := r3.obj g1
   exact ⟨_, _, run_endRound (some .ret) e6, false, _, σ2, ι2, rfl, g2, r3.objTurn g1 _⟩
  | exit id =>
   obtain ⟨g1, g2⟩ := q3
   obtain ⟨_, e6⟩ := r3.obj g1
   exact ⟨_, _, run_endRound (some (.exit id)) e6, false, _, σ2, ι2, rfl, g2, r3.objTurn g1 _⟩
  | _ => exact q3.elim
 | _ => exact q.elim
end
def wL (D : Nat) : Deferred := { target := .collected D, args := #[] }
section
variable {P : Program} {k : Nat} {Q : List Deferred -> Exit -> j6 -> j8 -> Prop} {ds : List Deferred} {s : j6} {h : j8}
structure VW (P : Program) (k : Nat) (c : Code) (Q : List Deferred -> Exit -> j6 -> j8 -> Prop) (ds : List Deferred) (s : j6) (h : j8) : Prop where
 out : ∀ (E : Env) (σ : Sig) (ι : Nat -> Value) (a : Act) (w : World), Rel E σ ι h w -> TR { n := k, ds := ds } σ ι s a ->
  c.wpIn (qd none) 0 P (fun e a' w' => ∃ ds' s' h' σ' ι', Q ds' e s' h' ∧ Rel E σ' ι' h' w' ∧ TR { n := k, ds := ds' } σ' ι' s' a') a w
structure VThen (next : List Deferred -> j6 -> j8 -> Prop) (Q : List Deferred -> Exit -> j6 -> j8 -> Prop) (ds : List Deferred) (e : Exit) (s : j6) (h : j8) : Prop where
 out : match e with | .normal => next ds s h | e => Q ds e s h
structure VIn (id : Nat) (Q : List Deferred -> Exit -> j6 -> j8 -> Prop) (ds : List Deferred) (e : Exit) (s : j6) (h : j8) : Prop where
 out : match e with | .exit id' => (bif Nat.beq id' id then Q ds .normal s h else Q ds (.exit id') s h) | e => Q ds e s h
theorem v_w {c : Code} (hw : W P { n := k, ds := ds } c (Q ds) s h) : VW P k c Q ds s h :=
 ⟨fun E σ ι a w hr ht => Go.wpIn_mono (hw.out E σ ι a w hr ht) (fun e a' w' ⟨s', h', σ', ι', q, r, t⟩ => ⟨ds, s', h', σ', ι', q, r, t⟩)⟩
theorem zI {x y : Code} (hx : VW P k x (VThen (fun ds s h => VW P k y Q ds s h) Q) ds s h) : VW P k (.seq x y) Q ds s h := ⟨fun E σ ι a w hr ht => by
 refine wpIn_seq (Go.wpIn_mono (hx.out E σ ι a w hr ht) ?_)
 rintro e a w ⟨ds', s', h', σ', ι', q, r, t⟩
 cases e with
 | normal => exact q.out.out E σ' ι' a w r t
 | _ => exact ⟨ds', s', h', σ', ι', q.out, r, t⟩⟩
theorem Xm {id : Nat} {c : Code} (hc : VW P k c (VIn id Q) ds s h) : VW P k (.block id c) Q ds s h := ⟨fun E σ ι a w hr ht => by
 refine wpIn_block (Go.wpIn_mono (hc.out E σ ι a w hr ht) ?_)
 rintro e a w ⟨ds', s', h', σ', ι', q, r, t⟩
 cases e with
 | exit id' =>
  have q := q.out
  simp only at q
  simp only [Exit.inBlock]
  by_cases hid : id' = id
  ·rw [if_pos hid]; exact ⟨ds', s', h', σ', ι', by simpa [hid] using q, r, t⟩
  ·rw [if_neg hid]
   have : Nat.beq id' id = false := Bool.eq_false_iff.2 fun e => hid (Nat.eq_of_beq_eq_true e)
   rw [this] at q
   exact ⟨ds', s', h', σ', ι', q, r, t⟩
 | _ => exact ⟨ds', s', h', σ', ι', q.out, r, t⟩⟩
theorem j4u {c : Code} {s' : j6} {h' : j8} (hs : LeS s s') (hh : LeH h h') (hc : VW P k c Q ds s' h') : VW P k c Q ds s h := ⟨fun E σ ι a w hr ht => hc.out E σ ι a w (hr.le hh) (ht.le hs)⟩
def j1q (ρ : Nat -> Nat) (s : j6) : j6 := s.map fun x => (x.1, ren ρ x.2)
theorem VG (ρ : Nat -> Nat) : ∀ (s : j6) (t : Nat), get (j1q ρ s) t = ren ρ (get s t)
 | [], t => by simp [j1q, get, ren]
 | (i, v) :: r, t => by
  have ih := VG ρ r t
  rw [j1q, List.map_cons, qO, qO]
  split
  ·rfl
  ·exact ih
def JS (ids : List Nat) : j6 -> Bool
 | [] => true
 | (_, v) :: r => qI ids v && JS ids r
theorem zG {ids : List Nat} : ∀ {s : j6}, JS ids s = true -> ∀ t, qI ids (get s t) = true
 | [], _, t => by simp [get, qI]
 | (i, v) :: r, h, t => by
  simp only [JS, Bool.and_eq_true] at h
  rw [qO]; split
  ·exact h.1
  ·exact zG h.2 t
def XH (l : Nat) (r : Loop) (σ0 : Sig) (hin0 : j8) : j8 := (8, .sem (v6 l (.loop r))) :: (9, .sem (y8 σ0)) :: hin0
def YL (idK idL idD l D : Nat) (r : Loop) (σ0 : Sig) (h : j8) : j8 := (idK, .sem (y8 σ0)) :: (idL, .sem (v6 l (.loop r))) :: (idD, .sem (v6 D (.deferred (some [])))) :: h
theorem zp {ids : List Nat} : ∀ {h : j8}, qB ids h = true -> ∀ i ∈ jI h, i ∈ ids
 | [], _, i, hi => by cases hi
 | (j, d) :: r, hcl, i, hi => by
  have hj : ids.any (Nat.beq j) = true ∧ qB ids r = true := by
   cases d with
   | blk ty cs => simp only [qB, Bool.and_eq_true] at hcl; exact ⟨hcl.1.1, hcl.2⟩
   | row e sz xs => simp only [qB, Bool.and_eq_true] at hcl; exact hcl
   | sem c => simp only [qB, Bool.and_eq_true] at hcl; exact hcl
  simp only [jI, List.map_cons, List.mem_cons] at hi
  rcases hi with rfl | hi
  ·obtain ⟨k, hk, hb⟩ := List.any_eq_true.1 hj.1
   rw [Nat.eq_of_beq_eq_true hb]; exact hk
  ·exact zp hj.2 i hi
theorem XU (ρ : Nat -> Nat) {g : Operand} {ps : Array Tmp} {assign body : Code} {f : FuncId} {caps caps0 : List AV} {s0 : j6} {hin0 : j8} (idD idL idK : Nat) {R : Nat -> Loop -> AV -> j8 -> Prop}
  (hg : evA s g = .fn (.func f) [] caps) (hcg : cOk g = true) (hcaps : caps = y3 ρ caps0)
  (hfD : jd idD s h = true) (hfL : ∀ D, jd idL s ((idD, .sem (v6 D (.deferred (some [])))) :: h) = true) (hfK : ∀ l D r, jd idK s ((idL, .sem (v6 l (.loop r))) :: (idD, .sem (v6 D (.deferred (some [])))) :: h) = true)
  (hsub : ∀ l D r σ0, LeH (YL idK idL idD l D r σ0 h) (wb ρ (XH l r σ0 hin0))) (hlow : YP (8 :: 9 :: jI hin0) = true) (hinj : Yb ρ (8 :: 9 :: jI hin0) = true) (hrow : (vF ρ (8 :: 9 :: jI hin0)).all (Nat.ble 5) = true)
  (hlone : ∀ l D r σ0, Vy (vF ρ (8 :: 9 :: jI hin0)) (vO ((8 :: 9 :: jI hin0).map ρ) (YL idK idL idD l D r σ0 h)) = true) (hs0 : LeS s (j1q ρ s0)) (hcl : JS ((jI hin0).filter (Nat.blt · 5)) s0 = true)
  (hit : ∀ (l D : Nat) (r : Loop) (σ0 : Sig) (pins : List (Nat × Value)), r.state = .ready -> r.pending = none -> r.params = ps -> r.assign = assign -> r.body = body -> r.tmps.size = k -> vj σ0 pins s0 r.tmps -> (∀ p ∈ pins, p.1 < 5) ->
    FnHp P pins f (.fn (.yield l) [] [] :: caps0) (XH l r σ0 hin0) (R l r))
  (hk : ∀ (l D : Nat) (r : Loop) (σ0 : Sig) v h', R l r v h' -> qB (8 :: 9 :: jI hin0) h' = true ∧ ∃ r', j9 h' 8 = some (.sem (v6 l (.loop r'))) ∧ r'.state ≠ .busy ∧
    (r'.pending = none -> Q (wL D :: ds) .normal (xY (vF ρ (8 :: 9 :: jI hin0)) s) ((idL, .sem (v6 l (.loop { r' with state := .exhausted }))) :: (wb ρ h' ++ vO ((8 :: 9 :: jI hin0).map ρ) (YL idK idL idD l D r σ0 h)))) ∧
    ∀ c, r'.pending = some c -> VW P k c Q (wL D :: ds) (xY (vF ρ (8 :: 9 :: jI hin0)) s) ((idL, .sem (v6 l (.loop { r' with state := .exhausted }))) :: (wb ρ h' ++ vO ((8 :: 9 :: jI hin0).map ρ) (YL idK idL idD l D r σ0 h))))
  (h8 : ρ 8 = idL) : VW P k (.rangeFunc g ps assign body) Q ds s h := ⟨fun E σ ι a w hr ht => by
 have hv := jZ (σ := σ) (ι := ι) (a := a) (s := s) (x := g) hcg fun t _ => ht.at_ t
 rw [hg] at hv
 obtain ⟨us, cv, h1, h2, h3⟩ := hv.fn_inv
 rw [L2.nil_iff] at h2
 subst h2
 refine wpIn_rangeFunc ?_
 intro fn _
 obtain ⟨r, hrr⟩ : ∃ r : Loop, r = { state := .ready, pending := none, fn, tmps := a.tmps, params := ps, assign, body, defers := w.heap.size } := ⟨_, rfl⟩
 obtain ⟨W1, hW1⟩ : ∃ W1, W1 = (w.alloc (.deferred (some []))).alloc (.loop r) := ⟨_, rfl⟩
 have hfD' := hfD
 simp only [jd, Bool.and_eq_true, Nat.ble_eq] at hfD'
 have hfL' := hfL w.heap.size
 simp only [jd, Bool.and_eq_true, Nat.ble_eq] at hfL'
 have hfK' := hfK (w.heap.size + 1) w.heap.size r
 simp only [jd, Bool.and_eq_true, Nat.ble_eq] at hfK'
 have r1 := hr.objNew idD (.deferred (some [])) hfD'.2 hfD'.1.1
 have r2 := r1.objNew idL (.loop r) hfL'.2 hfL'.1.1
 rw [show (w.alloc (.deferred (some []))).heap.size = w.heap.size + 1 by simp, <- hW1] at r2
 have r3 := r2.knowNew idK hfK'.2 hfK'.1.1
 have t1 := ht.upd hfD'.1.1 hfD'.1.2 (.map (some w.heap.size))
 have t2 := t1.upd hfL'.1.1 hfL'.1.2 (.map (some (w.heap.size + 1)))
 have t3 := t2.upd hfK'.1.1 hfK'.1.2 .nilFunc
 obtain ⟨ι3, hι3⟩ : ∃ ι3, ι3 = upd (upd (upd ι idD (.map (some w.heap.size))) idL (.map (some (w.heap.size + 1)))) idK .nilFunc := ⟨_, rfl⟩
 rw [<- hι3] at r3 t3
 obtain ⟨may, pin, hr1, back⟩ := r3.lend ρ (hin := XH (w.heap.size + 1) r σ hin0) (hsub _ _ _ _) hlow hinj hrow (hlone _ _ _ _)
 obtain ⟨pins, hpins⟩ : ∃ pins, pins = ((jI hin0).filter (Nat.blt · 5)).map fun i => (i, ι3 (ρ i)) := ⟨_, rfl⟩
 have hp5 : ∀ p ∈ pins, p.1 < 5 := fun p hp => by
  rw [hpins] at hp
  obtain ⟨i, hi, rfl⟩ := List.mem_map.1 hp
  have := (List.mem_filter.1 hi).2
  simpa [Nat.blt_eq] using this
 have hpin : Jr pins (fun i => ι3 (ρ i)) := fun p hp => ⟨hp5 p hp, by
  rw [hpins] at hp
  obtain ⟨i, hi, rfl⟩ := List.mem_map.1 hp
  rfl⟩
 have hslots : vj σ pins s0 r.tmps := fun σ' ι' hle hpi t => by
  have e1 := (t3.le hs0).at_ t
  rw [VG] at e1
  have e2 := (e1.unren _ rfl).mono hle
  have e3 : r.tmps = a.tmps := by rw [hrr]
  rw [e3]
  refine e2.agree (ids := (jI hin0).filter (Nat.blt · 5)) (fun i hi => ?_) (zG hcl t)
  have := (hpi (i, ι3 (ρ i)) (by rw [hpins]; exact List.mem_map.2 ⟨i, hi, rfl⟩)).2
  exact this.symm
 obtain ⟨he, hit⟩ := hit (w.heap.size + 1) w.heap.size r σ pins (by rw [hrr]) (by rw [hrr]) (by rw [hrr]) (by rw [hrr]) (by rw [hrr]) (by rw [hrr]; exact ht.size) hslots hp5
 have hyv : VR σ (fun i => ι3 (ρ i)) (.fn (.yield (w.heap.size + 1)) [] []) (.func (.yield (w.heap.size + 1)) #[] #[]) := .base _ _ (.fn _ [] [] [] [] rfl (fun j c v hc => by simp at hc) rfl (fun j c v hc => by simp at hc))
 have hv3 := jZ (σ := σ) (ι := ι3) (a := a) (s := s) (x := g) hcg fun t _ => t3.at_ t
 rw [hg] at hv3
 obtain ⟨us3, cv3, k1, k2, k3⟩ := hv3.fn_inv
 rw [L2.nil_iff] at k2
 subst k2
 have ecv : cv3 = cv := by
  rw [h1] at k1
  injection k1 with _ _ q
  exact (List.toArray_inj q).symm
 subst ecv
 have hcv : L2 (VR σ (fun i => ι3 (ρ i))) caps0 cv3 := by
  refine ⟨by rw [<- jU ρ caps0, <- hcaps]; exact k3.1, fun j c v hc hv => ?_⟩
  refine (k3.2 j (ren ρ c) v ?_ hv).unren c rfl
  rw [hcaps, qm, hc]; rfl
 have hcall := hit may pin σ _ W1 ([.func (.yield (w.heap.size + 1)) #[] #[]] ++ cv3) hr1 hpin (hcv.cons hyv)
 refine ⟨w.heap.size + 1, [wL w.heap.size], W1, { target := .fn (.func f) cv3.toArray, args := #[.func (.yield (w.heap.size + 1)) #[] #[]] }, W1, f,
  #[.func (.yield (w.heap.size + 1)) #[] #[]] ++ cv3.toArray, W1, ?_, ?_, ?_, ?_, fun hd => absurd hd (by simp [qd, Fence.wide]), ?_⟩
 ·rw [hW1, hrr]; exact run_enterLoop_outer _ _ _ _ _
 ·simp only [resolve, rangeCall, h1]
  simp [go_sem]
 ·intro f' _; trivial
 ·simp [invoke, go_sem, he _]
 ·have e : ([Value.func (.yield (w.heap.size + 1)) #[] #[]] ++ cv3).toArray = #[.func (.yield (w.heap.size + 1)) #[] #[]] ++ cv3.toArray := by apply Array.toList_inj.1; simp
  rw [e] at hcall
  refine (Xi (ro := none) (m := 0 - 1) hcall).mono ?_
  rintro e w' ⟨u, v, h', σ', ι', rfl, g1, g2, g3⟩
  obtain ⟨c1, r', c2, c3, c4, c5⟩ := hk _ w.heap.size _ σ _ _ g1
  obtain ⟨ι4, b1, b2, b3, b4⟩ := back w' h' σ' ι' g3 c1
  have j9 : j9 (wb ρ h' ++ vO ((8 :: 9 :: jI hin0).map ρ) (YL idK idL idD (w.heap.size + 1) w.heap.size r σ h)) idL = some (.sem (v6 (w.heap.size + 1) (.loop r'))) := by
   rw [xi]
   have hmem : ∀ i ∈ jI h', i ∈ (8 :: 9 :: jI hin0) := zp c1
   have hinj' : ∀ i ∈ (8 :: 9 :: jI hin0), ∀ j ∈ (8 :: 9 :: jI hin0), ρ i = ρ j -> i = j := fun i hi j hj e => zK hinj hi hj e
   rw [<- h8, wa hmem hinj' 8 (by simp), c2]
   rfl
  obtain ⟨_, d2⟩ := b1.obj j9
  have b5 := b1.objTurn j9 (.loop { r' with state := .exhausted })
  have t4 := b4 _ _ _ t3
  have t5 : TR { n := k, ds := wL w.heap.size :: ds } σ' ι4 (xY (vF ρ (8 :: 9 :: jI hin0)) s) { a with defers := [wL w.heap.size] ++ a.defers } :=
   ⟨t4.size, ⟨by show [wL w.heap.size] ++ a.defers = _; rw [t4.defers.1]; rfl, fun p hp => by cases hp⟩, t4.at_⟩
  refine ⟨r'.pending, _, run_endLoop d2 c3, ?_⟩
  have fin : ∀ pd, pd = r'.pending -> (match pd with
    | none => (fun e a' w' => ∃ ds' s' h' σ' ι', Q ds' e s' h' ∧ Rel E σ' ι' h' w' ∧ TR { n := k, ds := ds' } σ' ι' s' a') .normal { a with defers := [wL w.heap.size] ++ a.defers } (w'.putObj (w.heap.size + 1) (.loop { r' with state := .exhausted }))
    | some c => c.wpIn (qd none) 0 P (fun e a' w' => ∃ ds' s' h' σ' ι', Q ds' e s' h' ∧ Rel E σ' ι' h' w' ∧ TR { n := k, ds := ds' } σ' ι' s' a') { a with defers := [wL w.heap.size] ++ a.defers } (w'.putObj (w.heap.size + 1) (.loop { r' with state := .exhausted }))) := fun pd hpd => by
   cases pd with
   | none => exact ⟨_, _, _, _, _, c4 hpd.symm, b5, t5⟩
   | some c => exact (c5 c hpd.symm).out E σ' ι4 _ _ b5 t5
  exact fin _ rfl⟩
def j14 (P : Program) (rs : List ResultVar) (R : AV -> j8 -> Prop) (ds : List Deferred) : Exit -> j6 -> j8 -> Prop
 | .ret, s, h => ∃ v s' h' h0, ∃ l : List (Nat × Nat), (∀ n, Turns n s h s' h') ∧ ds = l.map (fun p => wL p.2) ∧ (l.map (·.1)).Nodup ∧ (∀ p ∈ l, j9 h' p.1 = some (.sem (v6 p.2 (.deferred (some []))))) ∧ LeH h' h0 ∧ (∀ p ∈ l, j9 h0 p.1 = none) ∧ zZ P s' h0 rs = some v ∧ R v h0
 | .normal, s, h => ∃ v s' h' h0, ∃ l : List (Nat × Nat), (∀ n, Turns n s h s' h') ∧ ds = l.map (fun p => wL p.2) ∧ (l.map (·.1)).Nodup ∧ (∀ p ∈ l, j9 h' p.1 = some (.sem (v6 p.2 (.deferred (some []))))) ∧ LeH h' h0 ∧ (∀ p ∈ l, j9 h0 p.1 = none) ∧ zZ P s' h0 rs = some v ∧ R v h0
 | _, _, _ => False
theorem JG {fn : Func} {E : Env} {σ : Sig} {ι : Nat -> Value} {n : Md} {s : j6} {a : Act} {h0 : j8} {v : AV} {R : AV -> j8 -> Prop} (ht : TR n σ ι s a) (hres : zZ P s h0 fn.results.toList = some v) (hR : R v h0) :
  ∀ (l : List (Nat × Nat)) (h : j8) (w : World), Rel E σ ι h w -> (l.map (·.1)).Nodup -> (∀ p ∈ l, j9 h p.1 = some (.sem (v6 p.2 (.deferred (some []))))) -> LeH h h0 -> (∀ p ∈ l, j9 h0 p.1 = none) ->
   LeavesInM (qd none) 0 P fn a.tmps (fun e w' => ∃ u r h' σ' ι', e = .returned u ∧ R r h' ∧ VR σ' ι' r u ∧ Rel E σ' ι' h' w') (l.map fun p => wL p.2) .returning w
 | [], h, w, hr, _, _, hl, _ => by
  obtain ⟨u, h3, h4⟩ := J6 (P := P) (hr.le hl) ht hres
  exact ⟨u, h3, u, v, h0, σ, ι, rfl, hR, h4, hr.le hl⟩
 | p :: l, h, w, hr, hn, hm, hl, h0n => by
  have hp := hm p List.mem_cons_self
  obtain ⟨_, e2⟩ := hr.obj hp
  have r2 := hr.objTurn hp (.deferred none)
  rw [List.map_cons, List.nodup_cons] at hn
  refine ⟨by simp, .inl ⟨p.2, _, rfl, run_takeDeferred e2, ?_⟩⟩
  refine JG ht hres hR l _ _ r2 hn.2 (fun q hq => ?_) (fun i c hc => ?_) (fun q hq => h0n q (List.mem_cons_of_mem _ hq))
  ·rw [j7, if_neg (fun e => hn.1 (by rw [e]; exact List.mem_map_of_mem hq))]
   exact hm q (List.mem_cons_of_mem _ hq)
  ·rw [j7]
   split
   ·rename_i e; subst e
    rw [h0n p List.mem_cons_self] at hc; cases hc
   ·exact hl i c hc
theorem j0C {fn : Func} {c : Code} {E : Env} {args : List AV} {vs : List Value} {σ : Sig} {ι : Nat -> Value} {w : World} {f : FuncId} {R : AV -> j8 -> Prop} (hf : P.funcs[f]? = some fn) (hb : fn.body = some c) (hl : args.length <= fn.ntmps)
  (hwp : VW P fn.ntmps c (j14 P fn.results.toList R) [] (vc args 0) h) (hr : Rel E σ ι h w) (hv : L2 (VR σ ι) args vs) :
  Calls P f vs.toArray w (fun e w' => ∃ u r h' σ' ι', e = .returned u ∧ R r h' ∧ VR σ' ι' r u ∧ Rel E σ' ι' h' w') := by
 have t0 := JT hl hv
 have h0 := hwp.out E σ ι _ w hr t0
 have h1 : CallsIn (qd none) 0 P f vs.toArray w (fun e w' => ∃ u r h' σ' ι', e = .returned u ∧ R r h' ∧ VR σ' ι' r u ∧ Rel E σ' ι' h' w') := by
  refine callsIn_of_wp_marks hf hb trivial (Go.wpIn_mono h0 ?_) rfl
  rintro e a w' ⟨ds', s', h', σ', ι', q, r, t⟩
  have fin : (∃ v s'' h'' h0, ∃ l : List (Nat × Nat), (∀ n, Turns n s' h' s'' h'') ∧ ds' = l.map (fun p => wL p.2) ∧ (l.map (·.1)).Nodup ∧ (∀ p ∈ l, j9 h'' p.1 = some (.sem (v6 p.2 (.deferred (some []))))) ∧ LeH h'' h0 ∧ (∀ p ∈ l, j9 h0 p.1 = none) ∧ zZ P s'' h0 fn.results.toList = some v ∧ R v h0) ->
    LeavesInM (qd none) 0 P fn a.tmps (fun e w' => ∃ u r h' σ' ι', e = .returned u ∧ R r h' ∧ VR σ' ι' r u ∧ Rel E σ' ι' h' w') a.defers .returning w' := fun ⟨v, s'', h'', h0, l, q1, q2, q3, q4, q5, q6, q7, q8⟩ => by
   obtain ⟨σ2, ι2, r2, t2⟩ := q1 _ E σ' ι' a w' r t
   rw [t.defers.1]
   show LeavesInM _ _ _ _ _ _ ds' _ _
   rw [q2]
   exact JG t2 q7 q8 l h'' w' r2 q3 q4 q5 q6
  cases e with
  | ret => exact fin q
  | normal => exact fin q
  | _ => exact q.elim
 exact callsIn_wide.1 h1
theorem j6l {f : FuncId} {fn : Func} {c : Code} {args : List AV} {hin : j8} {R : AV -> j8 -> Prop} (hf : P.funcs[f]? = some fn) (he : qw P f) (hb : fn.body = some c) (hl : Nat.ble args.length fn.ntmps = true)
  (hwp : VW P fn.ntmps c (j14 P fn.results.toList R) [] (vc args 0) hin) : FnH P f args hin R :=
 ⟨he, fun may pin σ ι w vs hr hv => j0C hf hb (Nat.ble_eq ▸ hl) hwp hr hv⟩
end
structure Know where
 T : Sig -> Prop
 mono : ∀ σ σ', T σ -> Sig.le σ σ' -> T σ'
def qT (kn : Know) : SemC where
 rel := fun σ _ v => v = .nilFunc ∧ kn.T σ
 keep := fun σ σ' H H' v ⟨h1, h2⟩ hs _ => ⟨h1, kn.mono σ σ' h2 hs⟩
 lt := fun σ H v g ⟨h1, h2⟩ hg => by rw [h1] at hg; cases hg.one (fun vs e => by cases e)
section
variable {P : Program} {n : Md} {Q : Exit -> j6 -> j8 -> Prop} {s : j6} {h : j8} {ops : Array Oper} {rest : List Oper} {o : Oper} {K : j6 -> Prop} {kn : Know}
def FnT (P : Program) (kn : Know) (f : FuncId) (args : List AV) (r : AV) : Prop :=
 qw P f ∧ ∀ (σ : Sig) (ι : Nat -> Value) (w : World) (vs : List Value), kn.T σ -> (∀ a v, σ a = some v -> w.cell? a = some v) -> L2 (VR σ ι) args vs ->
  Calls P f vs.toArray w (fun e w' => ∃ u σ', e = .returned u ∧ VR0 σ' r u ∧ Rel ⟨w, σ, [], [], []⟩ σ' ι [] w')
theorem xU {f : FuncId} {args : List AV} {r : AV} {id : Nat} (hf : FnT P kn f args r) (hc : Q8 s o = some (f, args)) (hg : j9 h id = some (.sem (qT kn))) : OkO P o s h r := by
 intro E σ ι a w hr hx K Q hK
 obtain ⟨vs, h1, h2⟩ := xb (P := P) (w := w) hc hf.1 hx
 unfold Oper.wp
 rw [h1, Oper.upon_enter]
 have hk : ι id = .nilFunc ∧ kn.T σ := hr.ch id _ hg
 refine (hf.2 σ ι w vs hk.2 hr.sub h2).mono ?_
 rintro e w' ⟨u, σ', rfl, h3, h4⟩
 obtain ⟨h5, h6⟩ := hr.back h4
 exact hK σ' w' u h5 h6 (.base _ _ h3)
theorem Rel.that {E : Env} {σ : Sig} {ι : Nat -> Value} {w : World} (hr : Rel E σ ι h w) (hk : kn.T σ) (id : Nat) (hf : vo id h = true) (h5 : 5 <= id) : Rel E σ (upd ι id .nilFunc) ((id, .sem (qT kn)) :: h) w :=
 hr.turn (id := id) (u := .nilFunc) (h' := (id, .sem (qT kn)) :: h) (c' := .sem (qT kn)) (w' := w)
  (fun i c hi hc => by
    rw [j7, if_neg (fun e => hi e.symm)] at hc
    exact ⟨hc, .inr (ju hf i c hc).2⟩)
  (by rw [j7, if_pos rfl]) (by show _ ∧ _; rw [jM]; exact ⟨rfl, hk⟩)
  rfl rfl rfl (Nat.le_refl _) (fun _ _ _ => rfl) (fun g hv => by cases hv) (.inl h5)
def yT : List AV -> Bool
 | [] => true
 | x :: xs => w9 x && yT xs
theorem QB : ∀ {cs : List AV}, yT cs = true -> ∀ (j : Nat) (c : AV), cs[j]? = some c -> w9 c = true
 | [], _, j, c, h => by simp at h
 | x :: xs, hp, 0, c, h => by simp at h; subst h; simp only [yT, Bool.and_eq_true] at hp; exact hp.1
 | x :: xs, hp, j + 1, c, h => by simp only [yT, Bool.and_eq_true] at hp; exact QB hp.2 j c (by simpa using h)
theorem V7 {σ : Sig} {ι ι' : Nat -> Value} {args : List AV} {vs : List Value} (hp : yT args = true) (h : L2 (VR σ ι) args vs) : L2 (VR σ ι') args vs :=
 ⟨h.1, fun j c v hc hv => .base _ _ ((h.2 j c v hc hv).pure (QB hp j c hc))⟩
theorem fnt {f : FuncId} {fn : Func} {c : Code} {args : List AV} {r : AV} (hf : P.funcs[f]? = some fn) (he : qw P f) (hb : fn.body = some c) (hl : Nat.ble args.length fn.ntmps = true) (hp : w9 r = true) (hpa : yT args = true)
  (hwp : VW P fn.ntmps c (j14 P fn.results.toList (fun v _ => v = r)) [] (vc args 0) [(9, .sem (qT kn))]) : FnT P kn f args r := by
 refine ⟨he, fun σ ι w vs hk hsub hv => ?_⟩
 have r0 := (Rel.start σ ι w hsub).that hk 9 rfl (by omega)
 refine (j0C hf hb (Nat.ble_eq ▸ hl) hwp r0 (V7 hpa hv)).mono ?_
 rintro e w' ⟨u, r', h', σ', ι', rfl, rfl, h2, h3⟩
 refine ⟨u, σ', rfl, h2.pure hp, ?_⟩
 exact ⟨h3.os, h3.tape, h3.output, h3.size, h3.old, h3.sigOld, h3.sub, fun i c hc => (by cases hc), fun i c hc => (by cases hc), fun i j c d hc => (by cases hc), fun p hp => (by cases hp), fun p hp => (by cases hp), fun p hp => (by cases hp)⟩
end
section
variable {P : Program} {k : Nat} {Q : Exit -> j6 -> j8 -> Prop} {s : j6} {h : j8}
def mX (Ds : List Nat) : List (Nat × Obj) := Ds.map fun D => (D, .deferred (some []))
theorem Rel.allocAny {E : Env} {σ : Sig} {ι : Nat -> Value} {w : World} (hr : Rel E σ ι h w) (ob : Obj) : Rel E σ ι h (w.alloc ob) := by
 have hkeep : ∀ g, g < w.heap.size -> (w.alloc ob).heap[g]? = w.heap[g]? := fun g hg => Below.heap_alloc _ _ _ hg
 have hs := hr.size
 refine ⟨hr.os, hr.tape, hr.output, by simp; omega, fun b hb hm => (hkeep b (by omega)).trans (hr.old b hb hm), hr.sigOld, fun a v ha => XE w ob a v (hr.sub a v ha), fun i c hc => (hr.ch i c hc).keep (Sig.le.refl σ) fun g hg => hkeep g (hr.foot_lt hc hg), hr.foot, hr.dj, hr.pin, hr.low, fun p hp => ?_⟩
 obtain ⟨h1, h2, h3⟩ := hr.xo p hp
 exact ⟨h1, (hkeep p.1 (Array.getElem?_eq_some_iff.1 h2).1).trans h2, h3⟩
theorem Rel.xnew {E : Env} {σ : Sig} {ι : Nat -> Value} {w : World} {Ds : List Nat} (hr : Rel { E with xold := mX Ds } σ ι h w) :
  Rel { E with xold := mX (w.heap.size :: Ds) } σ ι h (w.alloc (.deferred (some []))) := by
 have h1 := hr.allocAny (.deferred (some []))
 refine ⟨h1.os, h1.tape, h1.output, h1.size, h1.old, h1.sigOld, h1.sub, h1.ch, h1.foot, h1.dj, h1.pin, h1.low, fun p hp => ?_⟩
 rcases List.mem_cons.1 hp with rfl | hp
 ·exact ⟨hr.size, heap_alloc_new w _, fun i c hc e => Nat.lt_irrefl _ (hr.foot_lt hc e)⟩
 ·exact h1.xo p hp
theorem Rel.xlt {E : Env} {σ : Sig} {ι : Nat -> Value} {w : World} {Ds : List Nat} (hr : Rel { E with xold := mX Ds } σ ι h w) : w.heap.size ∉ Ds := fun hm => by
 have := (hr.xo (w.heap.size, .deferred (some [])) (List.mem_map.2 ⟨_, hm, rfl⟩)).2.1
 have := (Array.getElem?_eq_some_iff.1 this).1
 omega
theorem Rel.xput {E : Env} {σ : Sig} {ι : Nat -> Value} {w : World} {D : Nat} {Ds : List Nat} (hr : Rel { E with xold := mX (D :: Ds) } σ ι h w) (hD : D ∉ Ds) (ob : Obj) :
  Rel { E with xold := mX Ds } σ ι h (w.putObj D ob) := by
 obtain ⟨h1, h2, h3⟩ := hr.xo (D, .deferred (some [])) (by simp [mX])
 simp only at h1 h2 h3
 have hkeep : ∀ g, g ≠ D -> (w.putObj D ob).heap[g]? = w.heap[g]? := fun g hg => World.putObj_heap_other hg
 refine ⟨hr.os, hr.tape, hr.output, by have := hr.size; simpa using this, fun b hb hm => (hkeep b (fun e => Nat.lt_irrefl _ (Nat.lt_of_lt_of_le (e ▸ hb) h1))).trans (hr.old b hb hm), hr.sigOld, fun a v ha => ?_, fun i c hc => (hr.ch i c hc).keep (Sig.le.refl σ) fun g hg => hkeep g fun e => h3 i c hc (e ▸ hg), hr.foot, hr.dj, hr.pin, hr.low, fun p hp => ?_⟩
 ·have hs := hr.sub a v ha
  rw [World.cell?_of_block (hkeep a.block fun e => ?_)]
  ·exact hs
  ·unfold World.cell? at hs
   rw [e, h2] at hs
   simp at hs
 ·obtain ⟨D', hD', rfl⟩ := List.mem_map.1 hp
  obtain ⟨h4, h5, h6⟩ := hr.xo (D', .deferred (some [])) (List.mem_map.2 ⟨D', List.mem_cons_of_mem _ hD', rfl⟩)
  exact ⟨h4, (hkeep D' fun e => hD (e ▸ hD')).trans h5, h6⟩
structure M (P : Program) (k : Nat) (c : Code) (Q : Exit -> j6 -> j8 -> Prop) (s : j6) (h : j8) : Prop where
 out : ∀ (E : Env) (σ : Sig) (ι : Nat -> Value) (a : Act) (w : World) (Ds : List Nat), Ds.Nodup -> Rel { E with xold := mX Ds } σ ι h w -> TR { n := k, ds := Ds.map wL } σ ι s a ->
  c.wpIn (qd none) 0 P (fun e a' w' => ∃ Ds' s' h' σ' ι', Ds'.Nodup ∧ Q e s' h' ∧ Rel { E with xold := mX Ds' } σ' ι' h' w' ∧ TR { n := k, ds := Ds'.map wL } σ' ι' s' a') a w
theorem m_w {c : Code} (hw : ∀ ds, W P { n := k, ds := ds } c Q s h) : M P k c Q s h :=
 ⟨fun E σ ι a w Ds hn hr ht => Go.wpIn_mono ((hw (Ds.map wL)).out _ σ ι a w hr ht) (fun e a' w' ⟨s', h', σ', ι', q, r, t⟩ => ⟨Ds, s', h', σ', ι', hn, q, r, t⟩)⟩
theorem vL {id : Nat} {l : Array Oper} {b : Bool} (hw : ∀ ds, W P { n := k, ds := ds } (.region id l b) Q s h) : M P k (.region id l b) Q s h := m_w hw
theorem x5 (hq : Q .normal s h) : M P k .skip Q s h := m_w fun _ => j5M hq
theorem za (hq : Q .ret s h) : M P k .ret Q s h := m_w fun _ => j23 hq
theorem x7 {id : Nat} (hq : Q (.exit id) s h) : M P k (.exit id) Q s h := m_w fun _ => j2L hq
theorem zX {x y : Code} (hx : M P k x (BThen (fun s h => M P k y Q s h) Q) s h) : M P k (.seq x y) Q s h := ⟨fun E σ ι a w Ds hn hr ht => by
 refine wpIn_seq (Go.wpIn_mono (hx.out E σ ι a w Ds hn hr ht) ?_)
 rintro e a w ⟨Ds', s', h', σ', ι', hn', q, r, t⟩
 have q := q.out
 cases e with
 | normal => exact q.out E σ' ι' a w Ds' hn' r t
 | _ => exact ⟨Ds', s', h', σ', ι', hn', q, r, t⟩⟩
theorem vn {id : Nat} {c : Code} (hc : M P k c (BIn id Q) s h) : M P k (.block id c) Q s h := ⟨fun E σ ι a w Ds hn hr ht => by
 refine wpIn_block (Go.wpIn_mono (hc.out E σ ι a w Ds hn hr ht) ?_)
 rintro e a w ⟨Ds', s', h', σ', ι', hn', q, r, t⟩
 have q := q.out
 cases e with
 | exit id' =>
  simp only [AIn] at q
  simp only [Exit.inBlock]
  by_cases hid : id' = id
  ·rw [if_pos hid]; exact ⟨Ds', s', h', σ', ι', hn', by simpa [hid] using q, r, t⟩
  ·rw [if_neg hid]
   have : Nat.beq id' id = false := Bool.eq_false_iff.2 fun e => hid (Nat.eq_of_beq_eq_true e)
   rw [this] at q
   exact ⟨Ds', s', h', σ', ι', hn', q, r, t⟩
 | _ => exact ⟨Ds', s', h', σ', ι', hn', q, r, t⟩⟩
theorem mle {c : Code} {s' : j6} {h' : j8} (hs : LeS s s') (hh : LeH h h') (hc : M P k c Q s' h') : M P k c Q s h := ⟨fun E σ ι a w Ds hn hr ht => hc.out E σ ι a w Ds hn (hr.le hh) (ht.le hs)⟩
theorem j5I {c : Code} {s' : j6} {h' : j8} (ht : ∀ n, Turns n s h s' h') (hc : M P k c Q s' h') : M P k c Q s h := ⟨fun E σ ι a w Ds hn hr t =>
 let ⟨σ1, ι1, hr1, ht1⟩ := ht _ _ σ ι a w hr t
 hc.out E σ1 ι1 a w Ds hn hr1 ht1⟩
theorem wR {c : Operand} {x y : Code} {b : Bool} (hk : cOk c = true) (hc : evA s c = .bool b) (hx : b = true -> M P k x Q s h) (hy : b = false -> M P k y Q s h) : M P k (.cond c x y) Q s h := ⟨fun E σ ι a w Ds hn hr ht => by
 have hv : VR σ ι (evA s c) (a.eval c) := jZ hk (fun t _ => ht.at_ t)
 rw [hc] at hv
 refine wpIn_cond hv.bool_inv ?_
 cases b
 ·exact (hy rfl).out E σ ι a w Ds hn hr ht
 ·exact (hx rfl).out E σ ι a w Ds hn hr ht⟩
theorem vp {c : Operand} {x y : Code} (hk : cOk c = true) (hc : evA s c = .bool true) (hx : M P k x Q s h) : M P k (.cond c x y) Q s h := wR hk hc (fun _ => hx) fun e => by cases e
theorem vt {c : Operand} {x y : Code} (hk : cOk c = true) (hc : evA s c = .bool false) (hy : M P k y Q s h) : M P k (.cond c x y) Q s h := wR hk hc (fun e => by cases e) fun _ => hy
theorem j5N {α : Type} {c : Code} (st : α -> j6 × j8) (inv : α -> Prop) (μ : α -> Nat) (x0 : α) (h0 : inv x0) (hs : LeS s (st x0).1) (hh : LeH h (st x0).2)
  (round : ∀ x, inv x -> M P k c (BThen (fun s' h' => ∃ x', inv x' ∧ μ x' < μ x ∧ LeS s' (st x').1 ∧ LeH h' (st x').2) Q) (st x).1 (st x).2) : M P k (.loop c) Q s h := ⟨fun E σ ι a w Ds hn hr ht => by
 refine Go.wpIn_loop_ghost (fun m a w => ∃ x σ ι Ds, inv x ∧ μ x = m ∧ Ds.Nodup ∧ Rel { E with xold := mX Ds } σ ι (st x).2 w ∧ TR { n := k, ds := Ds.map wL } σ ι (st x).1 a) (μ x0) ⟨x0, σ, ι, Ds, h0, rfl, hn, hr.le hh, ht.le hs⟩ ?_
 rintro m a w ⟨x, σ, ι, Ds, hi, rfl, hn, hr, ht⟩
 refine Go.wpIn_mono ((round x hi).out E σ ι a w Ds hn hr ht) ?_
 rintro e a' w' ⟨Ds', s', h', σ', ι', hn', q, r, t⟩
 have q := q.out
 cases e with
 | normal =>
  obtain ⟨x', hi', hlt, hs', hh'⟩ := q
  exact ⟨μ x', hlt, x', σ', ι', Ds', hi', rfl, hn', r.le hh', t.le hs'⟩
 | _ => exact ⟨Ds', s', h', σ', ι', hn', q, r, t⟩⟩
def Z6 (idK idL l : Nat) (r : Loop) (σ0 : Sig) (h : j8) : j8 := (idK, .sem (y8 σ0)) :: (idL, .sem (v6 l (.loop r))) :: h
theorem j66 (ρ : Nat -> Nat) {g : Operand} {ps : Array Tmp} {assign body : Code} {f : FuncId} {caps caps0 : List AV} {s0 : j6} {hin0 : j8} (idL idK : Nat) {R : Nat -> Loop -> AV -> j8 -> Prop}
  (hg : evA s g = .fn (.func f) [] caps) (hcg : cOk g = true) (hcaps : caps = y3 ρ caps0)
  (hfL : jd idL s h = true) (hfK : ∀ l r, jd idK s ((idL, .sem (v6 l (.loop r))) :: h) = true)
  (hsub : ∀ l r σ0, LeH (Z6 idK idL l r σ0 h) (wb ρ (XH l r σ0 hin0))) (hlow : YP (8 :: 9 :: jI hin0) = true) (hinj : Yb ρ (8 :: 9 :: jI hin0) = true) (hrow : (vF ρ (8 :: 9 :: jI hin0)).all (Nat.ble 5) = true)
  (hlone : ∀ l r σ0, Vy (vF ρ (8 :: 9 :: jI hin0)) (vO ((8 :: 9 :: jI hin0).map ρ) (Z6 idK idL l r σ0 h)) = true) (hs0 : LeS s (j1q ρ s0)) (hcl : JS ((jI hin0).filter (Nat.blt · 5)) s0 = true)
  (hit : ∀ (l : Nat) (r : Loop) (σ0 : Sig) (pins : List (Nat × Value)), r.state = .ready -> r.pending = none -> r.params = ps -> r.assign = assign -> r.body = body -> r.tmps.size = k -> vj σ0 pins s0 r.tmps -> (∀ p ∈ pins, p.1 < 5) ->
    FnHp P pins f (.fn (.yield l) [] [] :: caps0) (XH l r σ0 hin0) (R l r))
  (hk : ∀ (l : Nat) (r : Loop) (σ0 : Sig) v h', R l r v h' -> qB (8 :: 9 :: jI hin0) h' = true ∧ ∃ r', j9 h' 8 = some (.sem (v6 l (.loop r'))) ∧ r'.state ≠ .busy ∧
    (r'.pending = none -> Q .normal (xY (vF ρ (8 :: 9 :: jI hin0)) s) ((idL, .sem (v6 l (.loop { r' with state := .exhausted }))) :: (wb ρ h' ++ vO ((8 :: 9 :: jI hin0).map ρ) (Z6 idK idL l r σ0 h)))) ∧
    ∀ c, r'.pending = some c -> M P k c Q (xY (vF ρ (8 :: 9 :: jI hin0)) s) ((idL, .sem (v6 l (.loop { r' with state := .exhausted }))) :: (wb ρ h' ++ vO ((8 :: 9 :: jI hin0).map ρ) (Z6 idK idL l r σ0 h))))
  (h8 : ρ 8 = idL) : M P k (.rangeFunc g ps assign body) Q s h := ⟨fun E σ ι a w Ds hn hr ht => by
 have hv := jZ (σ := σ) (ι := ι) (a := a) (s := s) (x := g) hcg fun t _ => ht.at_ t
 rw [hg] at hv
 obtain ⟨us, cv, h1, h2, h3⟩ := hv.fn_inv
 rw [L2.nil_iff] at h2
 subst h2
 refine wpIn_rangeFunc ?_
 intro fn _
 obtain ⟨r, hrr⟩ : ∃ r : Loop, r = { state := .ready, pending := none, fn, tmps := a.tmps, params := ps, assign, body, defers := w.heap.size } := ⟨_, rfl⟩
 obtain ⟨W1, hW1⟩ : ∃ W1, W1 = (w.alloc (.deferred (some []))).alloc (.loop r) := ⟨_, rfl⟩
 have hfL' := hfL
 simp only [jd, Bool.and_eq_true, Nat.ble_eq] at hfL'
 have hfK' := hfK (w.heap.size + 1) r
 simp only [jd, Bool.and_eq_true, Nat.ble_eq] at hfK'
 have hnD := hr.xlt
 have r1 := hr.xnew
 have r2 := r1.objNew idL (.loop r) hfL'.2 hfL'.1.1
 rw [show (w.alloc (.deferred (some []))).heap.size = w.heap.size + 1 by simp, <- hW1] at r2
 have r3 := r2.knowNew idK hfK'.2 hfK'.1.1
 have t2 := ht.upd hfL'.1.1 hfL'.1.2 (.map (some (w.heap.size + 1)))
 have t3 := t2.upd hfK'.1.1 hfK'.1.2 .nilFunc
 obtain ⟨ι3, hι3⟩ : ∃ ι3, ι3 = upd (upd ι idL (.map (some (w.heap.size + 1)))) idK .nilFunc := ⟨_, rfl⟩
 rw [<- hι3] at r3 t3
 obtain ⟨may, pin, hr1, back⟩ := r3.lend ρ (hin := XH (w.heap.size + 1) r σ hin0) (hsub _ _ _) hlow hinj hrow (hlone _ _ _)
 obtain ⟨pins, hpins⟩ : ∃ pins, pins = ((jI hin0).filter (Nat.blt · 5)).map fun i => (i, ι3 (ρ i)) := ⟨_, rfl⟩
 have hp5 : ∀ p ∈ pins, p.1 < 5 := fun p hp => by
  rw [hpins] at hp
  obtain ⟨i, hi, rfl⟩ := List.mem_map.1 hp
  have := (List.mem_filter.1 hi).2
  simpa [Nat.blt_eq] using this
 have hpin : Jr pins (fun i => ι3 (ρ i)) := fun p hp => ⟨hp5 p hp, by
  rw [hpins] at hp
  obtain ⟨i, hi, rfl⟩ := List.mem_map.1 hp
  rfl⟩
 have hslots : vj σ pins s0 r.tmps := fun σ' ι' hle hpi t => by
  have e1 := (t3.le hs0).at_ t
  rw [VG] at e1
  have e2 := (e1.unren _ rfl).mono hle
  have e3 : r.tmps = a.tmps := by rw [hrr]
  rw [e3]
  refine e2.agree (ids := (jI hin0).filter (Nat.blt · 5)) (fun i hi => ?_) (zG hcl t)
  have := (hpi (i, ι3 (ρ i)) (by rw [hpins]; exact List.mem_map.2 ⟨i, hi, rfl⟩)).2
  exact this.symm
 obtain ⟨he, hit⟩ := hit (w.heap.size + 1) r σ pins (by rw [hrr]) (by rw [hrr]) (by rw [hrr]) (by rw [hrr]) (by rw [hrr]) (by rw [hrr]; exact ht.size) hslots hp5
 have hyv : VR σ (fun i => ι3 (ρ i)) (.fn (.yield (w.heap.size + 1)) [] []) (.func (.yield (w.heap.size + 1)) #[] #[]) := .base _ _ (.fn _ [] [] [] [] rfl (fun j c v hc => by simp at hc) rfl (fun j c v hc => by simp at hc))
 have hv3 := jZ (σ := σ) (ι := ι3) (a := a) (s := s) (x := g) hcg fun t _ => t3.at_ t
 rw [hg] at hv3
 obtain ⟨us3, cv3, k1, k2, k3⟩ := hv3.fn_inv
 rw [L2.nil_iff] at k2
 subst k2
 have ecv : cv3 = cv := by
  rw [h1] at k1
  injection k1 with _ _ q
  exact (List.toArray_inj q).symm
 subst ecv
 have hcv : L2 (VR σ (fun i => ι3 (ρ i))) caps0 cv3 := by
  refine ⟨by rw [<- jU ρ caps0, <- hcaps]; exact k3.1, fun j c v hc hv => ?_⟩
  refine (k3.2 j (ren ρ c) v ?_ hv).unren c rfl
  rw [hcaps, qm, hc]; rfl
 have hcall := hit may pin σ _ W1 ([.func (.yield (w.heap.size + 1)) #[] #[]] ++ cv3) hr1 hpin (hcv.cons hyv)
 refine ⟨w.heap.size + 1, [wL w.heap.size], W1, { target := .fn (.func f) cv3.toArray, args := #[.func (.yield (w.heap.size + 1)) #[] #[]] }, W1, f,
  #[.func (.yield (w.heap.size + 1)) #[] #[]] ++ cv3.toArray, W1, ?_, ?_, ?_, ?_, fun hd => absurd hd (by simp [qd, Fence.wide]), ?_⟩
 ·rw [hW1, hrr]; exact run_enterLoop_outer _ _ _ _ _
 ·simp only [resolve, rangeCall, h1]
  simp [go_sem]
 ·intro f' _; trivial
 ·simp [invoke, go_sem, he _]
 ·have e : ([Value.func (.yield (w.heap.size + 1)) #[] #[]] ++ cv3).toArray = #[.func (.yield (w.heap.size + 1)) #[] #[]] ++ cv3.toArray := by apply Array.toList_inj.1; simp
  rw [e] at hcall
  refine (Xi (ro := none) (m := 0 - 1) hcall).mono ?_
  rintro e w' ⟨u, v, h', σ', ι', rfl, g1, g2, g3⟩
  obtain ⟨c1, r', c2, c3, c4, c5⟩ := hk _ _ σ _ _ g1
  obtain ⟨ι4, b1, b2, b3, b4⟩ := back w' h' σ' ι' g3 c1
  have j9 : j9 (wb ρ h' ++ vO ((8 :: 9 :: jI hin0).map ρ) (Z6 idK idL (w.heap.size + 1) r σ h)) idL = some (.sem (v6 (w.heap.size + 1) (.loop r'))) := by
   rw [xi]
   have hmem : ∀ i ∈ jI h', i ∈ (8 :: 9 :: jI hin0) := zp c1
   have hinj' : ∀ i ∈ (8 :: 9 :: jI hin0), ∀ j ∈ (8 :: 9 :: jI hin0), ρ i = ρ j -> i = j := fun i hi j hj e => zK hinj hi hj e
   rw [<- h8, wa hmem hinj' 8 (by simp), c2]
   rfl
  obtain ⟨_, d2⟩ := b1.obj j9
  have b5 := b1.objTurn j9 (.loop { r' with state := .exhausted })
  have t4 := b4 _ _ _ t3
  have t5 : TR { n := k, ds := (w.heap.size :: Ds).map wL } σ' ι4 (xY (vF ρ (8 :: 9 :: jI hin0)) s) { a with defers := [wL w.heap.size] ++ a.defers } :=
   ⟨t4.size, ⟨by show [wL w.heap.size] ++ a.defers = _; rw [t4.defers.1]; rfl, fun p hp => by cases hp⟩, t4.at_⟩
  have hn2 : (w.heap.size :: Ds).Nodup := List.nodup_cons.2 ⟨hnD, hn⟩
  refine ⟨r'.pending, _, run_endLoop d2 c3, ?_⟩
  have fin : ∀ pd, pd = r'.pending -> (match pd with
    | none => (fun e a' w' => ∃ Ds' s' h' σ' ι', Ds'.Nodup ∧ Q e s' h' ∧ Rel { E with xold := mX Ds' } σ' ι' h' w' ∧ TR { n := k, ds := Ds'.map wL } σ' ι' s' a') .normal { a with defers := [wL w.heap.size] ++ a.defers } (w'.putObj (w.heap.size + 1) (.loop { r' with state := .exhausted }))
    | some c => c.wpIn (qd none) 0 P (fun e a' w' => ∃ Ds' s' h' σ' ι', Ds'.Nodup ∧ Q e s' h' ∧ Rel { E with xold := mX Ds' } σ' ι' h' w' ∧ TR { n := k, ds := Ds'.map wL } σ' ι' s' a') { a with defers := [wL w.heap.size] ++ a.defers } (w'.putObj (w.heap.size + 1) (.loop { r' with state := .exhausted }))) := fun pd hpd => by
   cases pd with
   | none => exact ⟨_, _, _, _, _, hn2, c4 hpd.symm, b5, t5⟩
   | some c => exact (c5 c hpd.symm).out E σ' ι4 _ _ _ hn2 b5 t5
  exact fin _ rfl⟩
theorem j00 {fn : Func} {E : Env} {σ : Sig} {ι : Nat -> Value} {n : Md} {s : j6} {a : Act} {h : j8} {v : AV} {R : AV -> j8 -> Prop} (ht : TR n σ ι s a) (hres : zZ P s h fn.results.toList = some v) (hR : R v h) :
  ∀ (Ds : List Nat) (w : World), Ds.Nodup -> Rel { E with xold := mX Ds } σ ι h w ->
   LeavesInM (qd none) 0 P fn a.tmps (fun e w' => ∃ u r h' σ' ι', e = .returned u ∧ R r h' ∧ VR σ' ι' r u ∧ Rel { E with xold := [] } σ' ι' h' w') (Ds.map wL) .returning w
 | [], w, _, hr => by
  obtain ⟨u, h3, h4⟩ := J6 (P := P) hr ht hres
  exact ⟨u, h3, u, v, h, σ, ι, rfl, hR, h4, hr⟩
 | D :: Ds, w, hn, hr => by
  rw [List.nodup_cons] at hn
  have e2 := (hr.xo (D, .deferred (some [])) (by simp [mX])).2.1
  exact ⟨by simp, .inl ⟨D, _, rfl, run_takeDeferred e2, j00 ht hres hR Ds _ hn.2 (hr.xput hn.1 _)⟩⟩
theorem j4k {fn : Func} {c : Code} {E : Env} {args : List AV} {vs : List Value} {σ : Sig} {ι : Nat -> Value} {w : World} {f : FuncId} {R : AV -> j8 -> Prop} (hf : P.funcs[f]? = some fn) (hb : fn.body = some c) (hl : args.length <= fn.ntmps)
  (hwp : M P fn.ntmps c (JC P fn.results.toList R) (vc args 0) h) (hr : Rel { E with xold := [] } σ ι h w) (hv : L2 (VR σ ι) args vs) :
  Calls P f vs.toArray w (fun e w' => ∃ u r h' σ' ι', e = .returned u ∧ R r h' ∧ VR σ' ι' r u ∧ Rel { E with xold := [] } σ' ι' h' w') := by
 have t0 := JT hl hv
 have h0 := hwp.out E σ ι _ w [] (by simp) hr t0
 have h1 : CallsIn (qd none) 0 P f vs.toArray w (fun e w' => ∃ u r h' σ' ι', e = .returned u ∧ R r h' ∧ VR σ' ι' r u ∧ Rel { E with xold := [] } σ' ι' h' w') := by
  refine callsIn_of_wp_marks hf hb trivial (Go.wpIn_mono h0 ?_) rfl
  rintro e a w' ⟨Ds, s', h', σ', ι', hn, q, r, t⟩
  have fin : (∃ v s'' h'', (∀ n, Turns n s' h' s'' h'') ∧ zZ P s'' h'' fn.results.toList = some v ∧ R v h'') ->
    LeavesInM (qd none) 0 P fn a.tmps (fun e w' => ∃ u r h' σ' ι', e = .returned u ∧ R r h' ∧ VR σ' ι' r u ∧ Rel { E with xold := [] } σ' ι' h' w') a.defers .returning w' := fun ⟨v, s'', h'', q1, q7, q8⟩ => by
   obtain ⟨σ2, ι2, r2, t2⟩ := q1 _ _ σ' ι' a w' r t
   rw [t.defers.1]
   exact j00 t2 q7 q8 Ds w' hn r2
  cases e with
  | ret => exact fin q
  | normal => exact fin q
  | _ => exact q.elim
 exact callsIn_wide.1 h1
theorem fnm {f : FuncId} {fn : Func} {c : Code} {args : List AV} {r : AV} (hf : P.funcs[f]? = some fn) (he : qw P f) (hb : fn.body = some c) (hl : Nat.ble args.length fn.ntmps = true) (hp : w9 r = true)
  (hwp : M P fn.ntmps c (JC P fn.results.toList (fun v _ => v = r)) (vc args 0) []) : Fn P f args r := by
 refine ⟨he, fun σ ι w vs hsub hv => (j4k (E := ⟨w, σ, [], [], []⟩) hf hb (Nat.ble_eq ▸ hl) hwp (Rel.start σ ι w hsub) hv).mono ?_⟩
 rintro e w' ⟨u, r', h', σ', ι', rfl, rfl, h2, h3⟩
 refine ⟨u, σ', rfl, h2.pure hp, ?_⟩
 exact ⟨h3.os, h3.tape, h3.output, h3.size, h3.old, h3.sigOld, h3.sub, fun i c hc => (by cases hc), fun i c hc => (by cases hc), fun i j c d hc => (by cases hc), fun p hp => (by cases hp), fun p hp => (by cases hp), fun p hp => (by cases hp)⟩
end
def Vg : Code -> Option (Array Tmp × Code × Code)
 | .rangeFunc _ ps a b => some (ps, a, b)
 | .seq x y => match Vg x with | some r => some r | none => Vg y
 | .block _ c | .loop c | .scope c => Vg c
 | .cond _ x y => match Vg x with | some r => some r | none => Vg y
 | _ => none
def Z2 (c : Option Code) : Option (Array Tmp × Code × Code) := c.elim none Vg
theorem rdy {r : Loop} (h1 : r.state = .ready) (h2 : r.pending = none) : { r with state := .ready, pending := none } = r := by cases r; simp_all
theorem Q9 {P : Program} {n : Md} {Q : Exit -> j6 -> j8 -> Prop} {s : j6} {h : j8} {c c' : Code} (e : c = c') (hw : W P n c Q s h) : W P n c' Q s h := e ▸ hw
section
variable {P : Program} {k : Nat} {Q : List Deferred -> Exit -> j6 -> j8 -> Prop} {ds : List Deferred} {s : j6} {h : j8} {next : List Deferred -> j6 -> j8 -> Prop}
theorem wM (hq : next ds s h) : VThen next Q ds .normal s h := ⟨hq⟩
theorem j69 {id : Nat} (hq : Q ds .normal s h) : VIn id Q ds .normal s h := ⟨hq⟩
theorem j75 {id : Nat} (hq : Q ds .normal s h) : VIn id Q ds (.exit id) s h := ⟨by simpa using hq⟩
end
theorem j2g {P : Program} {k : Nat} {Q : List Deferred -> Exit -> j6 -> j8 -> Prop} {ds : List Deferred} {s : j6} {h : j8} {α : Type} {x y : Code} (st : α -> List Deferred × j6 × j8) (hx : VW P k x (VThen (fun ds s h => ∃ a, ds = (st a).1 ∧ LeS s (st a).2.1 ∧ LeH h (st a).2.2) Q) ds s h)
  (hy : ∀ a, VW P k y Q (st a).1 (st a).2.1 (st a).2.2) : VW P k (.seq x y) Q ds s h :=
 zI ⟨fun E σ ι a w hr ht => Go.wpIn_mono (hx.out E σ ι a w hr ht) (by
  rintro e a' w' ⟨ds', s', h', σ', ι', q, r, t⟩
  refine ⟨ds', s', h', σ', ι', ⟨?_⟩, r, t⟩
  have q := q.out
  cases e with
  | normal => obtain ⟨a, rfl, h2, h3⟩ := q; exact j4u h2 h3 (hy a)
  | _ => exact q)⟩
theorem j27 {P : Program} {rs : List ResultVar} {R : AV -> j8 -> Prop} {s : j6} {h h0 : j8} {id D : Nat} {v : AV} (hr : zZ P s h0 rs = some v) (hid : j9 h id = some (.sem (v6 D (.deferred (some []))))) (hl : LeH h h0) (hn : j9 h0 id = none) (hR : R v h0) : j14 P rs R [wL D] .ret s h :=
 ⟨v, s, h, h0, [(id, D)], fun _ => Turns.refl s h, rfl, by simp, fun p hp => by simp at hp; subst hp; exact hid, hl, fun p hp => by simp at hp; subst hp; exact hn, hr, hR⟩
theorem zN {P : Program} {pins : List (Nat × Value)} {f : FuncId} {args : List AV} {hin : j8} {R R' : AV -> j8 -> Prop} (hf : FnHp P pins f args hin R) (hR : ∀ v h, R v h -> R' v h) : FnHp P pins f args hin R' :=
 ⟨hf.1, fun may pin σ ι w vs h1 h2 h3 => (hf.2 may pin σ ι w vs h1 h2 h3).mono (by
  rintro e w' ⟨u, r, h', σ', ι', rfl, q, g1, g2⟩
  exact ⟨u, r, h', σ', ι', rfl, hR r h' q, g1, g2⟩)⟩
theorem j0D {P : Program} {l : Nat} {pins : List (Nat × Value)} {args : List AV} {hin : j8} {R R' : Bool -> j8 -> Prop} (hy : YF P l pins args hin R') (hR : ∀ b h', R' b h' -> ∃ h2, LeH h' h2 ∧ R b h2) : YF P l pins args hin R := by
 intro may pin σ ι w vs h1 h2 h3
 obtain ⟨fn, tmps, as_, body, e1, e2⟩ := hy may pin σ ι w vs h1 h2 h3
 refine ⟨fn, tmps, as_, body, e1, e2.mono ?_⟩
 rintro e w' ⟨b, h', σ', ι', rfl, q1, q2⟩
 obtain ⟨h2, q3, q4⟩ := hR b h' q1
 exact ⟨b, h2, σ', ι', rfl, q4, q2.le q3⟩
theorem j5O {P : Program} {rs : List ResultVar} {R : AV -> j8 -> Prop} {ds : List Deferred} {s s' : j6} {h h' : j8} (ht : ∀ n, Turns n s h s' h') (hk : j14 P rs R ds .ret s' h') : j14 P rs R ds .ret s h :=
 let ⟨v, s2, h2, h0, l, q1, q2, q3, q4, q5, q6, q7, q8⟩ := hk
 ⟨v, s2, h2, h0, l, fun n => (ht n).trans (q1 n), q2, q3, q4, q5, q6, q7, q8⟩
theorem xQ {n : Md} {s : j6} {h : j8} {id : Nat} {ty : TypeId} {cs : List AV} (hg : j9 h id = some (.blk ty cs)) : Turns n s h s ((id, .blk ty (cs.map fun _ => AV.undef)) :: h) := fun E σ ι a w hr ht => by
 obtain ⟨g, cur, e1, e2, e3⟩ := hr.ch id _ hg
 have hsame : upd ι id (ι id) = ι := by funext i; unfold upd; split <;> simp_all
 have hnew := hr.turn (id := id) (u := ι id) (h' := (id, .blk ty (cs.map fun _ => AV.undef)) :: h) (c' := .blk ty (cs.map fun _ => AV.undef)) (w' := w)
  (fun i c hi hc => by rw [j7, if_neg (fun e => hi e.symm)] at hc; exact ⟨hc, .inl rfl⟩) (by rw [j7, if_pos rfl])
  (by rw [hsame]; exact ⟨g, cur, e1, e2, by simpa using e3.1, fun j x y hx hy => by
    rw [List.getElem?_map] at hx
    cases hq : cs[j]? with
    | none => rw [hq] at hx; cases hx
    | some q => rw [hq] at hx; cases hx; exact .base _ _ (.undef _)⟩)
  rfl rfl rfl (Nat.le_refl _) (fun _ _ _ => rfl) (fun g hv => .inl ⟨_, hg, hv⟩) (.inr rfl)
 rw [hsame] at hnew
 exact ⟨σ, ι, hnew, ht⟩
theorem FnH.drop' {P : Program} {f : FuncId} {args : List AV} {hin : j8} {R : AV -> j8 -> Prop} (hf : FnH P f args hin (fun r h' => ∃ h2, LeH h' h2 ∧ R r h2)) : FnH P f args hin R :=
 ⟨hf.1, fun may pin σ ι w vs hr hv => (hf.2 may pin σ ι w vs hr hv).mono fun e w' ⟨u, r, h', σ', ι', h1, ⟨h2, hl, hR⟩, h3, h4⟩ => ⟨u, r, h2, σ', ι', h1, hR, h3, h4.le hl⟩⟩
end Go.Proofs.YtfjoaeghnfkdlaaGreatDoor
