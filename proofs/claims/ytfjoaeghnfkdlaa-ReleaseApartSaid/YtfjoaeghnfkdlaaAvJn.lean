/- A part of what is the call's own, lent out and taken back. No condition. -/
import Derived.Test.YtfjoaeghnfkdlaaAvLend
namespace Go.Proofs.Ytfjoaeghnfkdlaa
set_option linter.unusedSimpArgs false
set_option linter.unusedVariables false
set_option maxRecDepth 100000
set_option linter.unusedVariables false
set_option linter.unusedSimpArgs false
open Go.RowKit
section
variable {P : Program} {n : Md} {Q : Exit → Slots → Heap → Prop} {s : Slots} {h : Heap} {ops : Array Oper} {rest : List Oper} {o : Oper} {K : Slots → Prop}
/-- These blocks are lent, under names of their own; what comes back of them takes their place. -/
theorem Rel.lend {E : Env} {σ : Sig} {ι : Nat → Value} {w : World} (ρ : Nat → Nat) {hin : Heap} (hr : Rel E σ ι h w) (hsub : LeH h (renH ρ hin)) (hlow : lowQ (hids hin) = true) (hinj : injQ ρ (hids hin) = true)
    (hrow : (rowsR ρ (hids hin)).all (Nat.ble 5) = true) (hlone : loneL (rowsR ρ (hids hin)) (hdelL ((hids hin).map ρ) h) = true) :
    ∃ may pin, Rel ⟨w, σ, may, pin, []⟩ σ (fun i => ι (ρ i)) hin w ∧ ∀ (w' : World) (h' : Heap) (σ' : Sig) (ι' : Nat → Value), Rel ⟨w, σ, may, pin, []⟩ σ' ι' h' w' → closedH (hids hin) h' = true →
      ∃ ι2, Rel E σ' ι2 (renH ρ h' ++ hdelL ((hids hin).map ρ) h) w' ∧ Sig.le σ σ' ∧ (∀ i ∈ hids hin, ι' i = ι2 (ρ i)) ∧ ∀ (n : Md) (s : Slots) (a : Act), TR n σ ι s a → TR n σ' ι2 (killL (rowsR ρ (hids hin)) s) a := by
  have hinj' : ∀ i ∈ hids hin, ∀ j ∈ hids hin, ρ i = ρ j → i = j := fun i hi j hj e => injQ_spec hinj hi hj e
  have hlt : ∀ i ∈ hids hin, i < 10 := fun i hi => by simpa [Nat.blt_eq] using List.all_eq_true.1 hlow i hi
  have hin1 : ∀ i c, hget hin i = some c → hget h (ρ i) = some (renC ρ c) := fun i c hc => hsub (ρ i) _ (by rw [hget_renH (fun _ h => h) hinj' i (hget_ids hc), hc]; rfl)
  let may := (hids hin).filterMap fun i => (footOf (ι (ρ i))).map fun g => (i, g)
  let pin := ((hids hin).filter (· < 5)).map fun i => (i, ι (ρ i))
  have hmay : ∀ i g, (i, g) ∈ may ↔ i ∈ hids hin ∧ footOf (ι (ρ i)) = some g := fun i g => by
    simp only [may, List.mem_filterMap, Option.map_eq_some_iff, Prod.mk.injEq]
    constructor
    · rintro ⟨j, hj, g', h6, rfl, rfl⟩; exact ⟨hj, h6⟩
    · rintro ⟨hj, h6⟩; exact ⟨i, hj, g, h6, rfl, rfl⟩
  have hr1 : Rel ⟨w, σ, may, pin, []⟩ σ (fun i => ι (ρ i)) hin w := by
    refine ⟨rfl, rfl, rfl, Nat.le_refl _, fun _ _ _ => rfl, fun _ _ => rfl, hr.sub, fun i c hc => ?_, fun i c hc g hg => ⟨.inl ((hmay i g).2 ⟨hget_ids hc, hg⟩), (hr.foot (ρ i) _ (hin1 i c hc) g hg).2⟩,
      fun i j c d hc hd g hi hj => hinj' i (hget_ids hc) j (hget_ids hd) (hr.dj (ρ i) (ρ j) _ _ (hin1 i c hc) (hin1 j d hd) g hi hj), fun p hp => ?_, fun p hp => ?_, fun p hp => (by cases hp)⟩
    · have h6 := hr.ch (ρ i) _ (hin1 i c hc)
      cases c with
      | blk ty cs =>
        obtain ⟨g, cur, k1, k2, k3⟩ := h6
        exact ⟨g, cur, k1, k2, by rw [← renL_length ρ cs]; exact k3.1, fun j x y a b => (k3.2 j (ren ρ x) y (by rw [renL_get, a]; rfl) b).unren x rfl⟩
      | row e sz xs => exact h6
      | sem c => exact h6
    · obtain ⟨i, hi, rfl⟩ := List.mem_map.1 hp
      exact ⟨by simpa using (List.mem_filter.1 hi).2, rfl⟩
    · obtain ⟨i, g⟩ := p
      exact hlt i ((hmay i g).1 hp).1
  refine ⟨may, pin, hr1, fun w' h' σ' ι' h5 c2 => ?_⟩
  have hle : Sig.le σ σ' := fun a v ha => by rw [h5.sigOld a (hr.sig_lt ha)]; exact ha
  have hkeep : ∀ g, g < w.heap.size → (∀ i ∈ hids hin, footOf (ι (ρ i)) ≠ some g) → w'.heap[g]? = w.heap[g]? := fun g hg hne => h5.old g hg fun i hm => hne i ((hmay i g).1 hm).1 ((hmay i g).1 hm).2
  have hinget : ∀ i ∈ hids hin, ∃ c, hget hin i = some c := by
    intro i hi
    have : ∀ (l : Heap), i ∈ hids l → ∃ c, hget l i = some c := by
      intro l
      induction l with
      | nil => intro h; cases h
      | cons p r ih =>
        intro hm
        obtain ⟨j, d⟩ := p
        rw [hget_cons]
        by_cases hj : j = i
        · exact ⟨d, by rw [if_pos hj]⟩
        · rw [if_neg hj]
          exact ih (by simp only [hids, List.map_cons, List.mem_cons] at hm; rcases hm with rfl | hm; exact absurd rfl hj; exact hm)
    exact this hin hi
  let inv : Nat → Nat := fun k => ((hids hin).find? (fun i => Nat.beq (ρ i) k)).getD 0
  have hinv : ∀ i ∈ hids hin, inv (ρ i) = i := fun i hi => by
    show ((hids hin).find? (fun j => Nat.beq (ρ j) (ρ i))).getD 0 = i
    cases hq : (hids hin).find? (fun j => Nat.beq (ρ j) (ρ i)) with
    | none => have := List.find?_eq_none.1 hq i hi; simp at this
    | some j =>
      have hb := List.find?_some hq
      exact hinj' j (List.mem_of_find?_eq_some hq) i hi (Nat.eq_of_beq_eq_true hb)
  let ι2 : Nat → Value := fun k => if k ∈ (hids hin).map ρ then ι' (inv k) else ι k
  have e2 : ∀ i ∈ hids hin, ι' i = ι2 (ρ i) := fun i hi => by simp only [ι2, if_pos (List.mem_map_of_mem hi), hinv i hi]
  have e3 : ∀ k, k ∉ (hids hin).map ρ → ι k = ι2 k := fun i hi => by simp only [ι2, if_neg hi]
  have e5 : ∀ i ∈ hids hin, i < 5 → ι (ρ i) = ι2 (ρ i) := fun i hi h5' => by
    rw [← e2 i hi]
    exact (h5.pin (i, ι (ρ i)) (List.mem_map.2 ⟨i, List.mem_filter.2 ⟨hi, by simpa using h5'⟩, rfl⟩)).2.symm
  have hdrop : ∀ k c, hget (hdelL ((hids hin).map ρ) h) k = some c → k ∉ (hids hin).map ρ ∧ hget h k = some c := fun i c hc => by
    rw [hget_hdelL] at hc
    split at hc
    · cases hc
    · exact ⟨by assumption, hc⟩
  have hsub' : ∀ i ∈ hids h', i ∈ hids hin := by
    have : ∀ (l : Heap), closedH (hids hin) l = true → ∀ i ∈ hids l, i ∈ hids hin := by
      intro l
      induction l with
      | nil => intro _ i hi; cases hi
      | cons p r ih =>
        intro hcl i hi
        obtain ⟨j, d⟩ := p
        have hj : (hids hin).any (Nat.beq j) = true ∧ closedH (hids hin) r = true := by
          cases d with
          | blk ty cs => simp only [closedH, Bool.and_eq_true] at hcl; exact ⟨hcl.1.1, hcl.2⟩
          | row e sz xs => simp only [closedH, Bool.and_eq_true] at hcl; exact hcl
          | sem c => simp only [closedH, Bool.and_eq_true] at hcl; exact hcl
        simp only [hids, List.map_cons, List.mem_cons] at hi
        rcases hi with rfl | hi
        · obtain ⟨k, hk, hb⟩ := List.any_eq_true.1 hj.1
          rw [Nat.eq_of_beq_eq_true hb]; exact hk
        · exact ih hj.2 i hi
    exact this h' c2
  have hh : ∀ k c, hget (renH ρ h' ++ hdelL ((hids hin).map ρ) h) k = some c → (∃ i d, k = ρ i ∧ i ∈ hids hin ∧ hget h' i = some d ∧ c = renC ρ d) ∨ (k ∉ (hids hin).map ρ ∧ hget h k = some c) := fun k c hc => by
    rw [hget_append] at hc
    split at hc
    · rename_i d hd; cases hc
      obtain ⟨i, hi, rfl⟩ := hget_renH_inv hd
      rw [hget_renH hsub' hinj' i (hsub' i hi)] at hd
      obtain ⟨d0, h6, rfl⟩ := Option.map_eq_some_iff.1 hd
      exact .inl ⟨i, d0, rfl, hsub' i hi, h6, rfl⟩
    · exact .inr (hdrop k c hc)
  have hfar : ∀ k c, k ∉ (hids hin).map ρ → hget h k = some c → ∀ g, footOf (ι k) = some g → ∀ j ∈ hids hin, footOf (ι (ρ j)) ≠ some g := fun k c hk hc g hg j hj e => by
    obtain ⟨d, hd⟩ := hinget j hj
    exact hk (hr.dj k (ρ j) c _ hc (hin1 j d hd) g hg e ▸ List.mem_map_of_mem hj)
  have hf1 : ∀ i c, hget h' i = some c → ∀ g, footOf (ι' i) = some g → (i ∈ hids hin ∧ footOf (ι (ρ i)) = some g) ∨ w.heap.size ≤ g := fun i c hc g hg => by
    rcases (h5.foot i c hc g hg).1 with h6 | h6
    · exact .inl ((hmay i g).1 h6)
    · exact .inr h6
  have hnew : Rel E σ' ι2 (renH ρ h' ++ hdelL ((hids hin).map ρ) h) w' := by
    refine ⟨h5.os.trans hr.os, h5.tape.trans hr.tape, h5.output.trans hr.output, Nat.le_trans hr.size h5.size, ?_, ?_, h5.sub, ?_, ?_, ?_, ?_, hr.low, ?_⟩
    · intro b hb hm
      rw [hkeep b (Nat.lt_of_lt_of_le hb hr.size) fun i hi e => by
        obtain ⟨c, hc⟩ := hinget i hi
        rcases (hr.foot (ρ i) _ (hin1 i c hc) b e).1 with h6 | h6
        · exact hm _ h6
        · omega]
      exact hr.old b hb hm
    · intro a ha
      rw [h5.sigOld a (Nat.lt_of_lt_of_le ha hr.size)]; exact hr.sigOld a ha
    · intro k c hc
      rcases hh k c hc with ⟨i, d, rfl, h7, h6, rfl⟩ | ⟨h6, h7⟩
      · have h8 := h5.ch i d h6
        have h9 := (closedH_get c2 i d h6).2
        cases d with
        | blk ty cs =>
          obtain ⟨g, cur, k1, k2, k3⟩ := h8
          refine ⟨g, cur, by rw [← e2 i h7]; exact k1, k2, by rw [renL_length]; exact k3.1, fun j x y a b => ?_⟩
          rw [renL_get] at a
          cases hq : cs[j]? with
          | none => rw [hq] at a; cases a
          | some q => rw [hq] at a; cases a; exact (k3.2 j q y hq b).reren e2 (closedL_get h9 j q hq)
        | row e sz xs =>
          obtain ⟨k0, k1, vs, k2, k3⟩ := h8
          exact ⟨k0, k1, vs, by rw [← e2 i h7]; exact k2, k3⟩
        | sem c => show c.rel _ _ _; rw [← e2 i h7]; exact h8
      · have h8 := (hr.ch k c h7).keep hle fun g hg => hkeep g (hr.foot_lt h7 hg) (hfar k c h6 h7 g hg)
        cases c with
        | blk ty cs =>
          obtain ⟨g, cur, k1, k2, k3⟩ := h8
          refine ⟨g, cur, by rw [← e3 k h6]; exact k1, k2, k3.1, fun j x y a b => (k3.2 j x y a b).same fun m hm => ?_⟩
          by_cases hmm : m ∈ (hids hin).map ρ
          · obtain ⟨i, hi, rfl⟩ := List.mem_map.1 hmm
            by_cases hk5 : i < 5
            · exact e5 i hi hk5
            · have h9 := loneH_get (List.all_eq_true.1 hlone (ρ i) (mem_rowsR hi (by omega))) k (.blk ty cs) (by rw [hget_hdelL, if_neg h6]; exact h7)
              rw [hasIdL_get h9 j x a] at hm; cases hm
          · exact e3 m hmm
        | row e sz xs =>
          obtain ⟨k0, k1, vs, k2, k3⟩ := h8
          exact ⟨k0, k1, vs, by rw [← e3 k h6]; exact k2, k3⟩
        | sem c => show c.rel _ _ _; rw [← e3 k h6]; exact h8
    · intro k c hc g hg
      rcases hh k c hc with ⟨i, d, rfl, h7, h6, rfl⟩ | ⟨h6, h7⟩
      · rw [← e2 i h7] at hg
        refine ⟨?_, (h5.foot i d h6 g hg).2⟩
        rcases hf1 i d h6 g hg with ⟨hj, hfj⟩ | hge
        · obtain ⟨d0, hd0⟩ := hinget i hj
          exact (hr.foot (ρ i) _ (hin1 i d0 hd0) g hfj).1
        · exact .inr (Nat.le_trans hr.size hge)
      · rw [← e3 k h6] at hg
        obtain ⟨h8, h9⟩ := hr.foot k c h7 g hg
        exact ⟨h8, fun o => by rw [h5.sigOld _ (hr.foot_lt h7 hg)]; exact h9 o⟩
    · have cross : ∀ i k c d, hget h' i = some c → k ∉ (hids hin).map ρ → hget h k = some d → ∀ g, footOf (ι' i) = some g → footOf (ι k) = some g → False := fun i k c d h6 h8 h9 g hg hg2 => by
        rcases hf1 i c h6 g hg with ⟨hk, hfk⟩ | hge
        · exact hfar k d h8 h9 g hg2 i hk hfk
        · have := hr.foot_lt h9 hg2; omega
      intro k l c d hc hd g hi hj
      rcases hh k c hc with ⟨i, c0, rfl, h7, h6, rfl⟩ | ⟨h6, h7⟩
      · rw [← e2 i h7] at hi
        rcases hh l d hd with ⟨j, d0, rfl, h9, h8, rfl⟩ | ⟨h8, h9⟩
        · rw [← e2 j h9] at hj
          rw [h5.dj i j c0 d0 h6 h8 g hi hj]
        · rw [← e3 l h8] at hj
          exact (cross i l c0 d h6 h8 h9 g hi hj).elim
      · rw [← e3 k h6] at hi
        rcases hh l d hd with ⟨j, d0, rfl, h9, h8, rfl⟩ | ⟨h8, h9⟩
        · rw [← e2 j h9] at hj
          exact (cross j k d0 c h8 h6 h7 g hj hi).elim
        · rw [← e3 l h8] at hj
          exact hr.dj k l c d h7 h9 g hi hj
    · intro p hp
      obtain ⟨h6, h7⟩ := hr.pin p hp
      refine ⟨h6, ?_⟩
      by_cases hm : p.1 ∈ (hids hin).map ρ
      · obtain ⟨i, hi, e⟩ := List.mem_map.1 hm
        rw [← e]
        by_cases hi5 : i < 5
        · rw [← e5 i hi hi5, e]; exact h7
        · have h8 := List.all_eq_true.1 hrow (ρ i) (mem_rowsR hi (by omega))
          rw [e] at h8
          have := Nat.ble_eq ▸ h8
          omega
      · rw [← e3 p.1 hm]; exact h7
    · intro p hp
      obtain ⟨h6, h7, h8⟩ := hr.xo p hp
      have hlt2 := (Array.getElem?_eq_some_iff.1 h7).1
      refine ⟨h6, (hkeep p.1 hlt2 fun i hi e => ?_).trans h7, fun k c hc e => ?_⟩
      · obtain ⟨c, hc⟩ := hinget i hi
        exact h8 (ρ i) _ (hin1 i c hc) e
      · rcases hh k c hc with ⟨i, d, rfl, h9, h10, rfl⟩ | ⟨h9, h10⟩
        · rw [← e2 i h9] at e
          rcases hf1 i d h10 p.1 e with ⟨hj, hfj⟩ | hge
          · obtain ⟨d0, hd0⟩ := hinget i hj
            exact h8 (ρ i) _ (hin1 i d0 hd0) hfj
          · omega
        · rw [← e3 k h9] at e
          exact h8 k c h10 e
  have epin : ∀ k, k < 5 → ι2 k = ι k := fun k hk => by
    by_cases hm : k ∈ (hids hin).map ρ
    · obtain ⟨i, hi, e⟩ := List.mem_map.1 hm
      rw [← e]
      by_cases hi5 : i < 5
      · exact (e5 i hi hi5).symm
      · have h8 := List.all_eq_true.1 hrow (ρ i) (mem_rowsR hi (by omega))
        rw [e] at h8
        have := Nat.ble_eq ▸ h8
        omega
    · exact (e3 k hm).symm
  refine ⟨ι2, hnew, hle, e2, fun n s a ht => ⟨ht.size, ⟨ht.defers.1, fun p hp => let ⟨h1, h2⟩ := ht.defers.2 p hp; ⟨h1, (epin _ h1).trans h2⟩⟩, fun t => ?_⟩⟩
  rcases get_killL (rowsR ρ (hids hin)) s t with h6 | ⟨h6, h7⟩
  · rw [h6]; exact .base _ _ (.undef _)
  · rw [h6]
    refine ((ht.at_ t).mono hle).same fun k hk => ?_
    by_cases hm : k ∈ (hids hin).map ρ
    · obtain ⟨i, hi, rfl⟩ := List.mem_map.1 hm
      by_cases hk5 : i < 5
      · exact e5 i hi hk5
      · rw [h7 _ (mem_rowsR hi (by omega))] at hk; cases hk
    · exact e3 k hm
end
end Go.Proofs.Ytfjoaeghnfkdlaa
