/- A part of what is the call's own, lent out and taken back. No condition. -/
import Derived.Test.YtfjoaeghnfkdlaaA7
set_option linter.unusedSimpArgs false
set_option linter.unusedVariables false
set_option maxHeartbeats 1000000
namespace Go.Proofs.Ytfjoaeghnfkdlaa
set_option maxRecDepth 100000
open Go.RowKit
section
variable {P : Program} {n : Md} {Q : Exit → Slots → Heap → Prop} {s : Slots} {h : Heap} {ops : Array Oper} {rest : List Oper} {o : Oper} {K : Slots → Prop}
theorem Rel.lend {E : Env} {σ : Sig} {ι : Nat → Value} {w : World} (ρ : Nat → Nat) {hin : Heap} (hr : Rel E σ ι h w) (hsub : LeH h (renH ρ hin)) (hlow : lowQ (hids hin) = true) (hinj : injQ ρ (hids hin) = true)
    (hrow : (rowsR ρ (hids hin)).all (Nat.ble 5) = true) (hlone : loneL (rowsR ρ (hids hin)) (hdelL ((hids hin).map ρ) h) = true) :
    ∃ may pin, Rel ⟨w, σ, may, pin, []⟩ σ (fun i => ι (ρ i)) hin w ∧ ∀ (w' : World) (h' : Heap) (σ' : Sig) (ι' : Nat → Value), Rel ⟨w, σ, may, pin, []⟩ σ' ι' h' w' → closedH (hids hin) h' = true →
      ∃ ι2, Rel E σ' ι2 (renH ρ h' ++ hdelL ((hids hin).map ρ) h) w' ∧ Sig.le σ σ' ∧ (∀ i ∈ hids hin, ι' i = ι2 (ρ i)) ∧ ∀ (n : Md) (s : Slots) (a : Act), TR n σ ι s a → TR n σ' ι2 (killL (rowsR ρ (hids hin)) s) a := by
  have hinj' : ∀ i ∈ hids hin, ∀ j ∈ hids hin, ρ i = ρ j → i = j := fun i hi j hj e => injQ_spec hinj hi hj e
  have hlt : ∀ i ∈ hids hin, i < 10 ∨ 100 ≤ i := lowQ_spec hlow
  have hin1 : ∀ i c, hget hin i = some c → hget h (ρ i) = some (renC ρ c) := fun i c hc => hsub (ρ i) _ (by rw [hget_renH (fun _ h => h) hinj' i (hget_ids hc), hc]; rfl)
  let may := (hids hin).flatMap fun i => (feetL (ι (ρ i))).map fun g => (i, g)
  let pin := ((hids hin).filter (· < 5)).map fun i => (i, ι (ρ i))
  have hmay : ∀ i g, (i, g) ∈ may ↔ i ∈ hids hin ∧ Feet (ι (ρ i)) g := fun i g => by
    simp only [may, List.mem_flatMap, List.mem_map, Prod.mk.injEq]
    constructor
    · rintro ⟨j, hj, g', h6, rfl, rfl⟩; exact ⟨hj, mem_feetL.1 h6⟩
    · rintro ⟨hj, h6⟩; exact ⟨i, hj, g, mem_feetL.2 h6, rfl, rfl⟩
  have hr1 : Rel ⟨w, σ, may, pin, []⟩ σ (fun i => ι (ρ i)) hin w := by
    refine ⟨rfl, rfl, rfl, Nat.le_refl _, fun _ _ _ => rfl, fun _ _ => rfl, hr.sub, fun i c hc => ?_, fun i c hc g hg => ⟨.inl ((hmay i g).2 ⟨hget_ids hc, hg⟩), (hr.foot (ρ i) _ (hin1 i c hc) g hg).2⟩,
      fun i j c d hc hd g hi hj => hinj' i (hget_ids hc) j (hget_ids hd) (hr.dj (ρ i) (ρ j) _ _ (hin1 i c hc) (hin1 j d hd) g hi hj), fun p hp => ?_, fun p hp => ?_, fun p hp => (by cases hp)⟩
    · have h6 := hr.ch (ρ i) _ (hin1 i c hc)
      cases c with
      | blk ty cs =>
        obtain ⟨g, cur, k1, k2, k3⟩ := h6
        exact ⟨g, cur, k1, k2, by rw [← renL_length ρ cs]; exact k3.1, fun j x y a b => (k3.2 j (ren ρ x) y (by rw [renL_get, a]; rfl) b).unren x rfl⟩
      | row e sz xs => exact h6
      | sem c => exact h6
    · obtain ⟨i, hi, rfl⟩ := List.mem_map.1 hp
      exact ⟨by simpa using (List.mem_filter.1 hi).2, rfl⟩
    · obtain ⟨i, g⟩ := p
      exact hlt i ((hmay i g).1 hp).1
  refine ⟨may, pin, hr1, fun w' h' σ' ι' h5 c2 => ?_⟩
  have hle : Sig.le σ σ' := fun a v ha => by rw [h5.sigOld a (hr.sig_lt ha)]; exact ha
  have hkeep : ∀ g, g < w.heap.size → (∀ i ∈ hids hin, ¬ Feet (ι (ρ i)) g) → w'.heap[g]? = w.heap[g]? := fun g hg hne => h5.old g hg fun i hm => hne i ((hmay i g).1 hm).1 ((hmay i g).1 hm).2
  have hinget : ∀ i ∈ hids hin, ∃ c, hget hin i = some c := by
    intro i hi
    have : ∀ (l : Heap), i ∈ hids l → ∃ c, hget l i = some c := by
      intro l
      induction l with
      | nil => intro h; cases h
      | cons p r ih =>
        intro hm
        obtain ⟨j, d⟩ := p
        rw [hget_cons]
        by_cases hj : j = i
        · exact ⟨d, by rw [if_pos hj]⟩
        · rw [if_neg hj]
          exact ih (by simp only [hids, List.map_cons, List.mem_cons] at hm; rcases hm with rfl | hm; exact absurd rfl hj; exact hm)
    exact this hin hi
  let inv : Nat → Nat := fun k => ((hids hin).find? (fun i => Nat.beq (ρ i) k)).getD 0
  have hinv : ∀ i ∈ hids hin, inv (ρ i) = i := fun i hi => by
    show ((hids hin).find? (fun j => Nat.beq (ρ j) (ρ i))).getD 0 = i
    cases hq : (hids hin).find? (fun j => Nat.beq (ρ j) (ρ i)) with
    | none => have := List.find?_eq_none.1 hq i hi; simp at this
    | some j =>
      have hb := List.find?_some hq
      exact hinj' j (List.mem_of_find?_eq_some hq) i hi (Nat.eq_of_beq_eq_true hb)
  let ι2 : Nat → Value := fun k => if k ∈ (hids hin).map ρ then ι' (inv k) else ι k
  have e2 : ∀ i ∈ hids hin, ι' i = ι2 (ρ i) := fun i hi => by simp only [ι2, if_pos (List.mem_map_of_mem hi), hinv i hi]
  have e3 : ∀ k, k ∉ (hids hin).map ρ → ι k = ι2 k := fun i hi => by simp only [ι2, if_neg hi]
  have e5 : ∀ i ∈ hids hin, i < 5 → ι (ρ i) = ι2 (ρ i) := fun i hi h5' => by
    rw [← e2 i hi]
    exact (h5.pin (i, ι (ρ i)) (List.mem_map.2 ⟨i, List.mem_filter.2 ⟨hi, by simpa using h5'⟩, rfl⟩)).2.symm
  have hdrop : ∀ k c, hget (hdelL ((hids hin).map ρ) h) k = some c → k ∉ (hids hin).map ρ ∧ hget h k = some c := fun i c hc => by
    rw [hget_hdelL] at hc
    split at hc
    · cases hc
    · exact ⟨by assumption, hc⟩
  have hsub' : ∀ i ∈ hids h', i ∈ hids hin := by
    have : ∀ (l : Heap), closedH (hids hin) l = true → ∀ i ∈ hids l, i ∈ hids hin := by
      intro l
      induction l with
      | nil => intro _ i hi; cases hi
      | cons p r ih =>
        intro hcl i hi
        obtain ⟨j, d⟩ := p
        have hj : (hids hin).any (Nat.beq j) = true ∧ closedH (hids hin) r = true := by
          cases d with
          | blk ty cs => simp only [closedH, Bool.and_eq_true] at hcl; exact ⟨hcl.1.1, hcl.2⟩
          | row e sz xs => simp only [closedH, Bool.and_eq_true] at hcl; exact hcl
          | sem c => simp only [closedH, Bool.and_eq_true] at hcl; exact hcl
        simp only [hids, List.map_cons, List.mem_cons] at hi
        rcases hi with rfl | hi
        · obtain ⟨k, hk, hb⟩ := List.any_eq_true.1 hj.1
          rw [Nat.eq_of_beq_eq_true hb]; exact hk
        · exact ih hj.2 i hi
    exact this h' c2
  have hh : ∀ k c, hget (renH ρ h' ++ hdelL ((hids hin).map ρ) h) k = some c → (∃ i d, k = ρ i ∧ i ∈ hids hin ∧ hget h' i = some d ∧ c = renC ρ d) ∨ (k ∉ (hids hin).map ρ ∧ hget h k = some c) := fun k c hc => by
    rw [hget_append] at hc
    split at hc
    · rename_i d hd; cases hc
      obtain ⟨i, hi, rfl⟩ := hget_renH_inv hd
      rw [hget_renH hsub' hinj' i (hsub' i hi)] at hd
      obtain ⟨d0, h6, rfl⟩ := Option.map_eq_some_iff.1 hd
      exact .inl ⟨i, d0, rfl, hsub' i hi, h6, rfl⟩
    · exact .inr (hdrop k c hc)
  have hfar : ∀ k c, k ∉ (hids hin).map ρ → hget h k = some c → ∀ g, Feet (ι k) g → ∀ j ∈ hids hin, ¬ Feet (ι (ρ j)) g := fun k c hk hc g hg j hj e => by
    obtain ⟨d, hd⟩ := hinget j hj
    exact hk (hr.dj k (ρ j) c _ hc (hin1 j d hd) g hg e ▸ List.mem_map_of_mem hj)
  have hf1 : ∀ i c, hget h' i = some c → ∀ g, Feet (ι' i) g → (i ∈ hids hin ∧ Feet (ι (ρ i)) g) ∨ w.heap.size ≤ g := fun i c hc g hg => by
    rcases (h5.foot i c hc g hg).1 with h6 | h6
    · exact .inl ((hmay i g).1 h6)
    · exact .inr h6
  have hnew : Rel E σ' ι2 (renH ρ h' ++ hdelL ((hids hin).map ρ) h) w' := by
    refine ⟨h5.os.trans hr.os, h5.tape.trans hr.tape, h5.output.trans hr.output, Nat.le_trans hr.size h5.size, ?_, ?_, h5.sub, ?_, ?_, ?_, ?_, hr.low, ?_⟩
    · intro b hb hm
      rw [hkeep b (Nat.lt_of_lt_of_le hb hr.size) fun i hi e => by
        obtain ⟨c, hc⟩ := hinget i hi
        rcases (hr.foot (ρ i) _ (hin1 i c hc) b e).1 with h6 | h6
        · exact hm _ h6
        · omega]
      exact hr.old b hb hm
    · intro a ha
      rw [h5.sigOld a (Nat.lt_of_lt_of_le ha hr.size)]; exact hr.sigOld a ha
    · intro k c hc
      rcases hh k c hc with ⟨i, d, rfl, h7, h6, rfl⟩ | ⟨h6, h7⟩
      · have h8 := h5.ch i d h6
        have h9 := (closedH_get c2 i d h6).2
        cases d with
        | blk ty cs =>
          obtain ⟨g, cur, k1, k2, k3⟩ := h8
          refine ⟨g, cur, by rw [← e2 i h7]; exact k1, k2, by rw [renL_length]; exact k3.1, fun j x y a b => ?_⟩
          rw [renL_get] at a
          cases hq : cs[j]? with
          | none => rw [hq] at a; cases a
          | some q => rw [hq] at a; cases a; exact (k3.2 j q y hq b).reren e2 (closedL_get h9 j q hq)
        | row e sz xs =>
          obtain ⟨k0, k1, vs, k2, k3⟩ := h8
          exact ⟨k0, k1, vs, by rw [← e2 i h7]; exact k2, k3⟩
        | sem c => show c.rel _ _ _; rw [← e2 i h7]; exact h8
      · have h8 := (hr.ch k c h7).keep hle fun g hg => hkeep g (hr.foot_lt h7 hg) (hfar k c h6 h7 g hg)
        cases c with
        | blk ty cs =>
          obtain ⟨g, cur, k1, k2, k3⟩ := h8
          refine ⟨g, cur, by rw [← e3 k h6]; exact k1, k2, k3.1, fun j x y a b => (k3.2 j x y a b).same fun m hm => ?_⟩
          by_cases hmm : m ∈ (hids hin).map ρ
          · obtain ⟨i, hi, rfl⟩ := List.mem_map.1 hmm
            by_cases hk5 : i < 5
            · exact e5 i hi hk5
            · have h9 := loneH_get (List.all_eq_true.1 hlone (ρ i) (mem_rowsR hi (by omega))) k (.blk ty cs) (by rw [hget_hdelL, if_neg h6]; exact h7)
              rw [hasIdL_get h9 j x a] at hm; cases hm
          · exact e3 m hmm
        | row e sz xs =>
          obtain ⟨k0, k1, vs, k2, k3⟩ := h8
          exact ⟨k0, k1, vs, by rw [← e3 k h6]; exact k2, k3⟩
        | sem c => show c.rel _ _ _; rw [← e3 k h6]; exact h8
    · intro k c hc g hg
      rcases hh k c hc with ⟨i, d, rfl, h7, h6, rfl⟩ | ⟨h6, h7⟩
      · rw [← e2 i h7] at hg
        refine ⟨?_, (h5.foot i d h6 g hg).2⟩
        rcases hf1 i d h6 g hg with ⟨hj, hfj⟩ | hge
        · obtain ⟨d0, hd0⟩ := hinget i hj
          exact (hr.foot (ρ i) _ (hin1 i d0 hd0) g hfj).1
        · exact .inr (Nat.le_trans hr.size hge)
      · rw [← e3 k h6] at hg
        obtain ⟨h8, h9⟩ := hr.foot k c h7 g hg
        exact ⟨h8, fun o => by rw [h5.sigOld _ (hr.foot_lt h7 hg)]; exact h9 o⟩
    · have cross : ∀ i k c d, hget h' i = some c → k ∉ (hids hin).map ρ → hget h k = some d → ∀ g, Feet (ι' i) g → Feet (ι k) g → False := fun i k c d h6 h8 h9 g hg hg2 => by
        rcases hf1 i c h6 g hg with ⟨hk, hfk⟩ | hge
        · exact hfar k d h8 h9 g hg2 i hk hfk
        · have := hr.foot_lt h9 hg2; omega
      intro k l c d hc hd g hi hj
      rcases hh k c hc with ⟨i, c0, rfl, h7, h6, rfl⟩ | ⟨h6, h7⟩
      · rw [← e2 i h7] at hi
        rcases hh l d hd with ⟨j, d0, rfl, h9, h8, rfl⟩ | ⟨h8, h9⟩
        · rw [← e2 j h9] at hj
          rw [h5.dj i j c0 d0 h6 h8 g hi hj]
        · rw [← e3 l h8] at hj
          exact (cross i l c0 d h6 h8 h9 g hi hj).elim
      · rw [← e3 k h6] at hi
        rcases hh l d hd with ⟨j, d0, rfl, h9, h8, rfl⟩ | ⟨h8, h9⟩
        · rw [← e2 j h9] at hj
          exact (cross j k d0 c h8 h6 h7 g hj hi).elim
        · rw [← e3 l h8] at hj
          exact hr.dj k l c d h7 h9 g hi hj
    · intro p hp
      obtain ⟨h6, h7⟩ := hr.pin p hp
      refine ⟨h6, ?_⟩
      by_cases hm : p.1 ∈ (hids hin).map ρ
      · obtain ⟨i, hi, e⟩ := List.mem_map.1 hm
        rw [← e]
        by_cases hi5 : i < 5
        · rw [← e5 i hi hi5, e]; exact h7
        · have h8 := List.all_eq_true.1 hrow (ρ i) (mem_rowsR hi (by omega))
          rw [e] at h8
          have := Nat.ble_eq ▸ h8
          omega
      · rw [← e3 p.1 hm]; exact h7
    · intro p hp
      obtain ⟨h6, h7, h8⟩ := hr.xo p hp
      have hlt2 := (Array.getElem?_eq_some_iff.1 h7).1
      refine ⟨h6, (hkeep p.1 hlt2 fun i hi e => ?_).trans h7, fun k c hc e => ?_⟩
      · obtain ⟨c, hc⟩ := hinget i hi
        exact h8 (ρ i) _ (hin1 i c hc) e
      · rcases hh k c hc with ⟨i, d, rfl, h9, h10, rfl⟩ | ⟨h9, h10⟩
        · rw [← e2 i h9] at e
          rcases hf1 i d h10 p.1 e with ⟨hj, hfj⟩ | hge
          · obtain ⟨d0, hd0⟩ := hinget i hj
            exact h8 (ρ i) _ (hin1 i d0 hd0) hfj
          · omega
        · rw [← e3 k h9] at e
          exact h8 k c h10 e
  have epin : ∀ k, k < 5 → ι2 k = ι k := fun k hk => by
    by_cases hm : k ∈ (hids hin).map ρ
    · obtain ⟨i, hi, e⟩ := List.mem_map.1 hm
      rw [← e]
      by_cases hi5 : i < 5
      · exact (e5 i hi hi5).symm
      · have h8 := List.all_eq_true.1 hrow (ρ i) (mem_rowsR hi (by omega))
        rw [e] at h8
        have := Nat.ble_eq ▸ h8
        omega
    · exact (e3 k hm).symm
  refine ⟨ι2, hnew, hle, e2, fun n s a ht => ⟨ht.size, ⟨ht.defers.1, fun p hp => let ⟨h1, h2⟩ := ht.defers.2 p hp; ⟨h1, (epin _ h1).trans h2⟩⟩, fun t => ?_⟩⟩
  rcases get_killL (rowsR ρ (hids hin)) s t with h6 | ⟨h6, h7⟩
  · rw [h6]; exact .base _ _ (.undef _)
  · rw [h6]
    refine ((ht.at_ t).mono hle).same fun k hk => ?_
    by_cases hm : k ∈ (hids hin).map ρ
    · obtain ⟨i, hi, rfl⟩ := List.mem_map.1 hm
      by_cases hk5 : i < 5
      · exact e5 i hi hk5
      · rw [h7 _ (mem_rowsR hi (by omega))] at hk; cases hk
    · exact e3 k hm
end
end Go.Proofs.Ytfjoaeghnfkdlaa
namespace Go.Proofs.Ytfjoaeghnfkdlaa
set_option maxRecDepth 100000
open Go.RowKit
section
variable {P : Program} {n : Md} {Q : Exit → Slots → Heap → Prop} {s : Slots} {h : Heap} {ops : Array Oper} {rest : List Oper} {o : Oper} {K : Slots → Prop}
def objC (b : Nat) (ob : Obj) : SemC where
  rel := fun _ H v => v = .map (some b) ∧ H[b]? = some ob
  keep := fun σ σ' H H' v ⟨h1, h2⟩ hs hw => ⟨h1, by rw [hw b (.inl (by rw [h1]; rfl))]; exact h2⟩
  lt := fun σ H v g ⟨h1, h2⟩ hg => by
    have hg := hg.one (fun vs e => by rw [h1] at e; cases e)
    rw [h1] at hg; simp only [footOf, Option.some.injEq] at hg; subst hg
    exact (Array.getElem?_eq_some_iff.1 h2).1
def Pinned (pins : List (Nat × Value)) (ι : Nat → Value) : Prop := ∀ p ∈ pins, p.1 < 5 ∧ ι p.1 = p.2
def FnHp (P : Program) (pins : List (Nat × Value)) (f : FuncId) (args : List AV) (hin : Heap) (R : AV → Heap → Prop) : Prop :=
  Entered P f ∧ ∀ (may : List (Nat × Nat)) (pin : List (Nat × Value)) (σ : Sig) (ι : Nat → Value) (w : World) (vs : List Value), Rel ⟨w, σ, may, pin, []⟩ σ ι hin w → Pinned pins ι → L2 (VR σ ι) args vs →
    Calls P f vs.toArray w (fun e w' => ∃ u r h' σ' ι', e = .returned u ∧ R r h' ∧ VR σ' ι' r u ∧ Rel ⟨w, σ, may, pin, []⟩ σ' ι' h' w')
def YF (P : Program) (l : Nat) (pins : List (Nat × Value)) (args : List AV) (hin : Heap) (R : Bool → Heap → Prop) : Prop :=
  ∀ (may : List (Nat × Nat)) (pin : List (Nat × Value)) (σ : Sig) (ι : Nat → Value) (w : World) (vs : List Value), Rel ⟨w, σ, may, pin, []⟩ σ ι hin w → Pinned pins ι → L2 (VR σ ι) args vs →
    YieldAt (wideR none) 0 P l vs.toArray w (fun e w' => ∃ r h' σ' ι', e = .returned (.bool r) ∧ R r h' ∧ Rel ⟨w, σ, may, pin, []⟩ σ' ι' h' w')
def knowC (σ0 : Sig) : SemC where
  rel := fun σ _ v => v = .nilFunc ∧ Sig.le σ0 σ
  keep := fun σ σ' H H' v ⟨h1, h2⟩ hs _ => ⟨h1, fun a v ha => hs a v (h2 a v ha)⟩
  lt := fun σ H v g ⟨h1, h2⟩ hg => by rw [h1] at hg; cases hg.one (fun vs e => by cases e)
def SlotsOk (σ0 : Sig) (pins : List (Nat × Value)) (s0 : Slots) (tmps : Array Value) : Prop :=
  ∀ (σ : Sig) (ι : Nat → Value), Sig.le σ0 σ → Pinned pins ι → ∀ t, VR σ ι (get s0 t) (tmps.getD t undef)
def RdB (idL l : Nat) (r : Loop) (R : Bool → Heap → Prop) : Exit → Slots → Heap → Prop
  | .normal, s, h => hget h idL = some (.sem (objC l (.loop { r with state := .busy }))) ∧ R true ((idL, .sem (objC l (.loop { r with state := .ready, pending := none }))) :: h)
  | .exit id, s, h => hget h idL = some (.sem (objC l (.loop { r with state := .busy }))) ∧ R false ((idL, .sem (objC l (.loop { r with state := .done, pending := some (.exit id) }))) :: h)
  | .ret, s, h => hget h idL = some (.sem (objC l (.loop { r with state := .busy }))) ∧ R false ((idL, .sem (objC l (.loop { r with state := .done, pending := some .ret }))) :: h)
  | _, s, h => False
def RdA (P : Program) (md : Md) (idL l : Nat) (r : Loop) (R : Bool → Heap → Prop) : Exit → Slots → Heap → Prop
  | .normal, s, h => hget h idL = some (.sem (objC l (.loop r))) ∧ W P md r.body (RdB idL l r R) s ((idL, .sem (objC l (.loop { r with state := .busy }))) :: h)
  | _, s, h => False
end
end Go.Proofs.Ytfjoaeghnfkdlaa
namespace Go.Proofs.Ytfjoaeghnfkdlaa
set_option maxRecDepth 100000
open Go.RowKit
def mark (D : Nat) : Deferred := { target := .collected D, args := #[] }
section
variable {P : Program} {k : Nat} {Q : List Deferred → Exit → Slots → Heap → Prop} {ds : List Deferred} {s : Slots} {h : Heap}
structure VW (P : Program) (k : Nat) (c : Code) (Q : List Deferred → Exit → Slots → Heap → Prop) (ds : List Deferred) (s : Slots) (h : Heap) : Prop where
  out : ∀ (E : Env) (σ : Sig) (ι : Nat → Value) (a : Act) (w : World), Rel E σ ι h w → TR { n := k, ds := ds } σ ι s a →
    c.wpIn (wideR none) 0 P (fun e a' w' => ∃ ds' s' h' σ' ι', Q ds' e s' h' ∧ Rel E σ' ι' h' w' ∧ TR { n := k, ds := ds' } σ' ι' s' a') a w
structure VThen (next : List Deferred → Slots → Heap → Prop) (Q : List Deferred → Exit → Slots → Heap → Prop) (ds : List Deferred) (e : Exit) (s : Slots) (h : Heap) : Prop where
  out : match e with | .normal => next ds s h | e => Q ds e s h
structure VIn (id : Nat) (Q : List Deferred → Exit → Slots → Heap → Prop) (ds : List Deferred) (e : Exit) (s : Slots) (h : Heap) : Prop where
  out : match e with | .exit id' => (bif Nat.beq id' id then Q ds .normal s h else Q ds (.exit id') s h) | e => Q ds e s h
def renS (ρ : Nat → Nat) (s : Slots) : Slots := s.map fun x => (x.1, ren ρ x.2)
def closedS (ids : List Nat) : Slots → Bool
  | [] => true
  | (_, v) :: r => closedA ids v && closedS ids r
def lentH (l : Nat) (r : Loop) (σ0 : Sig) (hin0 : Heap) : Heap := (8, .sem (objC l (.loop r))) :: (9, .sem (knowC σ0)) :: hin0
def heldH (idK idL idD l D : Nat) (r : Loop) (σ0 : Sig) (h : Heap) : Heap := (idK, .sem (knowC σ0)) :: (idL, .sem (objC l (.loop r))) :: (idD, .sem (objC D (.deferred (some [])))) :: h
def RetV (P : Program) (rs : List ResultVar) (R : AV → Heap → Prop) (ds : List Deferred) : Exit → Slots → Heap → Prop
  | .ret, s, h => ∃ v s' h' h0, ∃ l : List (Nat × Nat), (∀ n, Turns n s h s' h') ∧ ds = l.map (fun p => mark p.2) ∧ (l.map (·.1)).Nodup ∧ (∀ p ∈ l, hget h' p.1 = some (.sem (objC p.2 (.deferred (some []))))) ∧ LeH h' h0 ∧ (∀ p ∈ l, hget h0 p.1 = none) ∧ resA P s' h0 rs = some v ∧ R v h0
  | .normal, s, h => ∃ v s' h' h0, ∃ l : List (Nat × Nat), (∀ n, Turns n s h s' h') ∧ ds = l.map (fun p => mark p.2) ∧ (l.map (·.1)).Nodup ∧ (∀ p ∈ l, hget h' p.1 = some (.sem (objC p.2 (.deferred (some []))))) ∧ LeH h' h0 ∧ (∀ p ∈ l, hget h0 p.1 = none) ∧ resA P s' h0 rs = some v ∧ R v h0
  | _, _, _ => False
end
end Go.Proofs.Ytfjoaeghnfkdlaa
namespace Go.Proofs.Ytfjoaeghnfkdlaa
set_option maxRecDepth 100000
open Go.RowKit
structure Know where
  T : Sig → Prop
  mono : ∀ σ σ', T σ → Sig.le σ σ' → T σ'
def thatC (kn : Know) : SemC where
  rel := fun σ _ v => v = .nilFunc ∧ kn.T σ
  keep := fun σ σ' H H' v ⟨h1, h2⟩ hs _ => ⟨h1, kn.mono σ σ' h2 hs⟩
  lt := fun σ H v g ⟨h1, h2⟩ hg => by rw [h1] at hg; cases hg.one (fun vs e => by cases e)
section
variable {P : Program} {n : Md} {Q : Exit → Slots → Heap → Prop} {s : Slots} {h : Heap} {ops : Array Oper} {rest : List Oper} {o : Oper} {K : Slots → Prop} {kn : Know}
def FnT (P : Program) (kn : Know) (f : FuncId) (args : List AV) (r : AV) : Prop :=
  Entered P f ∧ ∀ (σ : Sig) (ι : Nat → Value) (w : World) (vs : List Value), kn.T σ → (∀ a v, σ a = some v → w.cell? a = some v) → L2 (VR σ ι) args vs →
    Calls P f vs.toArray w (fun e w' => ∃ u σ', e = .returned u ∧ VR0 σ' r u ∧ Rel ⟨w, σ, [], [], []⟩ σ' ι [] w')
theorem Rel.that {E : Env} {σ : Sig} {ι : Nat → Value} {w : World} (hr : Rel E σ ι h w) (hk : kn.T σ) (id : Nat) (hf : freshH id h = true) (h5 : 5 ≤ id) : Rel E σ (upd ι id .nilFunc) ((id, .sem (thatC kn)) :: h) w :=
  hr.turn (id := id) (u := .nilFunc) (h' := (id, .sem (thatC kn)) :: h) (c' := .sem (thatC kn)) (w' := w)
    (fun i c hi hc => by
      rw [hget_cons, if_neg (fun e => hi e.symm)] at hc
      exact ⟨hc, .inr (freshH_get hf i c hc).2⟩)
    (by rw [hget_cons, if_pos rfl]) (by show _ ∧ _; rw [upd_eq]; exact ⟨rfl, hk⟩)
    rfl rfl rfl (Nat.le_refl _) (fun _ _ _ => rfl) (fun g hv => by cases hv) (.inl h5)
def pureAll : List AV → Bool
  | [] => true
  | x :: xs => pureA x && pureAll xs
end
end Go.Proofs.Ytfjoaeghnfkdlaa
namespace Go.Proofs.Ytfjoaeghnfkdlaa
set_option maxRecDepth 100000
open Go.RowKit
section
variable {P : Program} {k : Nat} {Q : Exit → Slots → Heap → Prop} {s : Slots} {h : Heap}
def mX (Ds : List Nat) : List (Nat × Obj) := Ds.map fun D => (D, .deferred (some []))
structure M (P : Program) (k : Nat) (c : Code) (Q : Exit → Slots → Heap → Prop) (s : Slots) (h : Heap) : Prop where
  out : ∀ (E : Env) (σ : Sig) (ι : Nat → Value) (a : Act) (w : World) (Ds : List Nat), Ds.Nodup → Rel { E with xold := mX Ds } σ ι h w → TR { n := k, ds := Ds.map mark } σ ι s a →
    c.wpIn (wideR none) 0 P (fun e a' w' => ∃ Ds' s' h' σ' ι', Ds'.Nodup ∧ Q e s' h' ∧ Rel { E with xold := mX Ds' } σ' ι' h' w' ∧ TR { n := k, ds := Ds'.map mark } σ' ι' s' a') a w
def heldM (idK idL l : Nat) (r : Loop) (σ0 : Sig) (h : Heap) : Heap := (idK, .sem (knowC σ0)) :: (idL, .sem (objC l (.loop r))) :: h
end
end Go.Proofs.Ytfjoaeghnfkdlaa
namespace Go.Proofs.Ytfjoaeghnfkdlaa
set_option maxRecDepth 100000
open Go.RowKit
def rfOf' : Code → Option (Array Tmp × Code × Code)
  | .rangeFunc _ ps a b => some (ps, a, b)
  | .seq x y => match rfOf' x with | some r => some r | none => rfOf' y
  | .block _ c | .loop c | .scope c => rfOf' c
  | .cond _ x y => match rfOf' x with | some r => some r | none => rfOf' y
  | _ => none
def rfOf (c : Option Code) : Option (Array Tmp × Code × Code) := c.elim none rfOf'
section
variable {P : Program} {k : Nat} {Q : List Deferred → Exit → Slots → Heap → Prop} {ds : List Deferred} {s : Slots} {h : Heap} {next : List Deferred → Slots → Heap → Prop}
end
end Go.Proofs.Ytfjoaeghnfkdlaa
namespace Go.Proofs.Ytfjoaeghnfkdlaa
set_option maxRecDepth 100000
open Go.RowKit
theorem FnH.drop' {P : Program} {f : FuncId} {args : List AV} {hin : Heap} {R : AV → Heap → Prop} (hf : FnH P f args hin (fun r h' => ∃ h2, LeH h' h2 ∧ R r h2)) : FnH P f args hin R :=
  ⟨hf.1, fun may pin σ ι w vs hr hv => (hf.2 may pin σ ι w vs hr hv).mono fun e w' ⟨u, r, h', σ', ι', h1, ⟨h2, hl, hR⟩, h3, h4⟩ => ⟨u, r, h2, σ', ι', h1, hR, h3, h4.le hl⟩⟩
end Go.Proofs.Ytfjoaeghnfkdlaa
namespace Go.Proofs.Ytfjoaeghnfkdlaa
set_option maxRecDepth 100000
open Go.RowKit
section
variable {P : Program} {n : Md} {Q : Exit → Slots → Heap → Prop} {s : Slots} {h : Heap} {ops : Array Oper} {rest : List Oper} {o : Oper} {K : Slots → Prop}
def tlR (e : TypeId) (xs : List AV) (σ : Sig) (H : Array Obj) (v : Value) : Prop :=
  ∃ g off cap cur, v = .slice (some ⟨g, off, none⟩) xs.length cap ∧ H[g]? = some (.cells cur e (0, 0)) ∧ xs.length ≤ cap ∧ cap ≤ maxLen ∧ off + cap ≤ cur.size ∧ L2 (VR0 σ) xs ((cur.toList.drop off).take xs.length)
def tlC (e : TypeId) (xs : List AV) : SemC where
  rel := tlR e xs
  keep := fun σ σ' H H' v ⟨g, off, cap, cur, h1, h2, h3, h4, h5, h6⟩ hs hw => ⟨g, off, cap, cur, h1, by rw [hw g (.inl (by rw [h1]; rfl))]; exact h2, h3, h4, h5, h6.mono fun _ _ h => h.mono hs⟩
  lt := fun σ H v g ⟨g', off, cap, cur, h1, h2, _⟩ hg => by
    have hg := hg.one (fun vs e => by rw [h1] at e; cases e)
    rw [h1] at hg; simp only [footOf, Option.some.injEq] at hg; subst hg
    exact (Array.getElem?_eq_some_iff.1 h2).1
theorem Rel.tl {E : Env} {σ : Sig} {ι : Nat → Value} {w : World} {id : Nat} {e : TypeId} {xs : List AV} (hr : Rel E σ ι h w) (hg : hget h id = some (.sem (tlC e xs))) : tlR e xs σ w.heap (ι id) := hr.ch id _ hg
theorem o_blit {α : Type} {f : α → List AV} {l : List α} {t e : TypeId} {sz len : Nat} {parts : Array (Nat × Operand)} {xs : List (List AV)} {id : Nat} (ho : o.op = .buildSlice t len parts) (hgd : o.guard = none) (hco : constsOk o = true) (hd : dstOk n o.dst = true) (ht : sliceE P t = some e) (hz : sizeQ P e sz = true) {z0 : List AV} (h0 : zeroA P e = some z0) (hsz : Nat.blt 0 sz = true) (hb : Nat.ble (len * sz) 16777216 = true)
    (hp : partsA s parts.toList 0 = some xs) (hl : Nat.beq parts.toList.length len = true) (hs : szOk sz xs = true) (hxs : xs = l.map f) (hfr : freshAll id s h = true)
    (hk : O P n ops Q rest (putS s o.dst (.own id)) ((id, .row e sz (l.map f)) :: h)) : O P n ops Q (o :: rest) s h := ⟨aops_one hgd fun E σ ι a w hr ht' => by
  have hsz := (by simpa [Nat.blt_eq] using hsz : 0 < sz)
  have hb := Nat.ble_eq ▸ hb
  have hl := Nat.eq_of_beq_eq_true hl
  simp only [freshAll, Bool.and_eq_true, Nat.ble_eq] at hfr
  have hx : ∀ x ∈ o.op.operands.toList, VR σ ι (evA s x) (a.eval x) := fun x hx => evA_sound (List.all_eq_true.1 hco x hx) fun t _ => ht'.at_ t
  have hmem : ∀ p ∈ parts.toList, VR σ ι (evA s p.2) (a.eval p.2) := fun p hp => hx p.2 (by rw [ho]; simp only [Op.operands]; simpa using ⟨p.1, by simpa using hp⟩)
  obtain ⟨h1, h2⟩ := partsA_spec (a := a) parts.toList 0 xs hp hmem
  obtain ⟨zi, z, hzi, hzz, _⟩ := zeroA_spec h0
  have hvs : ∀ v ∈ parts.toList.map (fun p => a.eval p.2), v.cells.size = sz := fun v hv => by
    obtain ⟨j, hj⟩ := List.getElem?_of_mem hv
    have hjl : j < xs.length := by rw [h2.1]; exact (List.getElem?_eq_some_iff.1 hj).1
    have h3 := h2.2 j xs[j] v (List.getElem?_eq_getElem hjl) hj
    rw [← Array.length_toList, ← h3.1]
    exact szOk_spec hs _ (List.getElem_mem hjl)
  have hxl : xs.length = len := by rw [h2.1, List.length_map, hl]
  have hml : (parts.toList.map (fun p => a.eval p.2)).length = len := by rw [List.length_map, hl]
  obtain ⟨r, hr1, hr2, hr3⟩ := Go.Great.fill_dense hsz (parts.toList.map (fun p => a.eval p.2)) 0 ((Array.range (len * sz)).map (z.cells[· % z.cells.size]!)) hvs (by rw [hml]; simp)
  have hparts : (parts.map fun (i, x) => (i, a.eval x)).toList = (((parts.toList.map (fun p => a.eval p.2)).zipIdx 0).map fun x => (x.2, x.1)) := by
    rw [Array.toList_map, list_of_pairs (parts.toList.map fun (i, x) => (i, a.eval x)) 0 (by simpa [Function.comp_def] using h1)]
    simp [Function.comp_def]
  have hrl : r.toList = ((parts.toList.map (fun p => a.eval p.2)).map fun v => v.cells.toList).flatten := by
    refine flat_cells hsz _ r hvs (by rw [hr2, hml]; simp) fun k => ?_
    rw [hr3 k]
    simp only [Nat.zero_mul, Nat.zero_le, true_and, Nat.zero_add, Nat.sub_zero]
    split
    · rfl
    · rename_i hk
      rw [hml] at hk
      apply Array.getElem?_eq_none; simp; omega
  have hrun : (execOp a.eval o).run P w = .ok (.value (.slice (some ⟨w.heap.size, 0, none⟩) len len)) (w.alloc (.cells r e)) := by
    have hr1' : Instr.fill (fun i => some (i * sz, sz)) ((Array.range (len * sz)).map (z.cells[· % z.cells.size]!)) (parts.map fun (i, x) => (i, a.eval x)).toList = some r := by rw [hparts]; exact hr1
    have h5 := run_buildSlice (P := P) w (sliceE_spec ht) hz hzi hzz (by omega) hr1'
    simp only [execOp, ho, Sem.run_bind, Sem.run_pure, h5, Result.andThen_ok]
  have hL : L2 (VR0 σ) xs.flatten r.toList := by rw [hrl]; exact l2_flatten h2
  have hrs : r.size = len * sz := by
    have h9 := hL.1
    rw [flatten_length (szOk_spec hs), hxl] at h9
    rw [← Array.length_toList (xs := r), ← h9]
  have hnew := hr.turn (id := id) (u := .slice (some ⟨w.heap.size, 0, none⟩) len len) (h' := (id, .row e sz (l.map f)) :: h) (c' := .row e sz (l.map f)) (w' := w.alloc (.cells r e))
    (fun i c hi hc => by
      rw [hget_cons, if_neg (fun e => hi e.symm)] at hc
      exact ⟨hc, .inr (freshH_get hfr.2 i c hc).2⟩)
    (by rw [hget_cons, if_pos rfl])
    ⟨hsz, by rw [← hxs]; exact szOk_spec hs, r.toList, by
      rw [upd_eq, ← hxs, hxl]
      have hll : len ≤ len * sz := Nat.le_mul_of_pos_right _ hsz
      exact ⟨by rw [Array.length_toList (xs := r)]; exact hrs, .inr ⟨w.heap.size, len, r, rfl, Nat.zero_le _, heap_alloc_new w _, Nat.le_refl _, by simp only [maxLen]; omega, hrs, by rw [← hrs, ← Array.length_toList (xs := r)]; exact List.take_length⟩⟩, by rw [← hxs]; exact hL⟩
    rfl rfl rfl (by simp) (fun k hk _ => Below.heap_alloc _ _ _ hk) (fun g hv => by cases hv; exact .inr (Nat.le_refl _)) (.inl hfr.1.1)
  unfold Oper.wp
  rw [hrun]
  refine hk.out E σ _ _ _ hnew ((ht'.upd hfr.1.1 hfr.1.2 _).putS hd ?_)
  have h5 := VR.own (σ := σ) (ι := upd ι id (.slice (some ⟨w.heap.size, 0, none⟩) len len)) id (by rw [upd_eq]; rfl)
  rwa [upd_eq] at h5⟩
end
end Go.Proofs.Ytfjoaeghnfkdlaa
