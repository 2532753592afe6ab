/- Functions that turn blocks that they are handed. No condition. -/
import Derived.Test.YtfjoaeghnfkdlaaAvTac
namespace Go.Proofs.Ytfjoaeghnfkdlaa
set_option linter.unusedSimpArgs false
set_option linter.unusedVariables false
set_option maxRecDepth 100000
set_option linter.unusedVariables false
set_option linter.unusedSimpArgs false
open Go.RowKit
mutual
/-- Names no other block than these. -/
def closedA (ids : List Nat) : AV → Bool
  | .own i | .ptr i _ | .eptr i _ _ _ | .part i _ | .pptr i _ _ => ids.any (Nat.beq i)
  | .agg cs => closedL ids cs
  | .tup cs => closedL ids cs
  | .fn _ xs ys => closedL ids xs && closedL ids ys
  | _ => true
def closedL (ids : List Nat) : List AV → Bool
  | [] => true
  | x :: xs => closedA ids x && closedL ids xs
end
theorem closedL_get {ids : List Nat} : ∀ {cs : List AV}, closedL ids cs = true → ∀ (j : Nat) (c : AV), cs[j]? = some c → closedA ids c = true
  | [], _, j, c, h => by simp at h
  | x :: xs, hp, 0, c, h => by simp at h; subst h; simp only [closedL, Bool.and_eq_true] at hp; exact hp.1
  | x :: xs, hp, j + 1, c, h => by simp only [closedL, Bool.and_eq_true] at hp; exact closedL_get hp.2 j c (by simpa using h)
theorem VR.agree {σ : Sig} {ι ι' : Nat → Value} {ids : List Nat} (he : ∀ i ∈ ids, ι i = ι' i) {x : AV} {v : Value} (h : VR σ ι x v) : closedA ids x = true → VR σ ι' x v := by
  have mem : ∀ {i : Nat}, ids.any (Nat.beq i) = true → i ∈ ids := fun hb => by
    obtain ⟨j, hj, hb⟩ := List.any_eq_true.1 hb
    rw [Nat.eq_of_beq_eq_true hb]; exact hj
  induction h with
  | base x v h => exact fun _ => .base _ _ h
  | own i h1 =>
    intro h
    have h2 := he i (mem (by simpa [closedA] using h))
    rw [h2] at h1 ⊢
    exact .own i h1
  | ptr i off g h => intro hb; exact .ptr i off g (by rw [← he i (mem (by simpa [closedA] using hb))]; exact h)
  | eptr i sz a b g h => intro hb; exact .eptr i sz a b g (by rw [← he i (mem (by simpa [closedA] using hb))]; exact h)
  | part i j vs v h hj h1 => intro hb; exact .part i j vs v (by rw [← he i (mem (by simpa [closedA] using hb))]; exact h) hj h1
  | pptr i j off g vs u h hj hg => intro hb; exact .pptr i j off g vs u (by rw [← he i (mem (by simpa [closedA] using hb))]; exact h) hj hg
  | agg cs vs h1 h2 ih => intro h; exact .agg cs vs h1 fun j c v hc hv => ih j c v hc hv (closedL_get (by simpa [closedA] using h) j c hc)
  | tup cs vs h1 h2 ih => intro h; exact .tup cs vs h1 fun j c v hc hv => ih j c v hc hv (closedL_get (by simpa [closedA] using h) j c hc)
  | fn f xs ys us vs h1 h2 h3 h4 ih1 ih2 =>
    intro h
    simp only [closedA, Bool.and_eq_true] at h
    exact .fn f xs ys us vs h1 (fun j c v hc hv => ih1 j c v hc hv (closedL_get h.1 j c hc)) h3 fun j c v hc hv => ih2 j c v hc hv (closedL_get h.2 j c hc)
theorem VR.same {σ : Sig} {ι ι' : Nat → Value} {x : AV} {v : Value} (h : VR σ ι x v) : (∀ i, hasId i x = true → ι i = ι' i) → VR σ ι' x v := by
  induction h with
  | base x v h => exact fun _ => .base _ _ h
  | own i h1 =>
    intro h
    have h2 := h i (by simp [hasId])
    rw [h2] at h1 ⊢
    exact .own i h1
  | ptr i off g h => intro hb; exact .ptr i off g (by rw [← hb i (by simp [hasId])]; exact h)
  | eptr i sz a b g h => intro hb; exact .eptr i sz a b g (by rw [← hb i (by simp [hasId])]; exact h)
  | part i j vs v h hj h1 => intro hb; exact .part i j vs v (by rw [← hb i (by simp [hasId])]; exact h) hj h1
  | pptr i j off g vs u h hj hg => intro hb; exact .pptr i j off g vs u (by rw [← hb i (by simp [hasId])]; exact h) hj hg
  | agg cs vs h1 h2 ih =>
    intro h; exact .agg cs vs h1 fun j c v hc hv => ih j c v hc hv fun i hi => h i (by
      cases hn : hasId i (.agg cs) with
      | true => rfl
      | false => rw [hasIdL_get (by simpa [hasId] using hn) j c hc] at hi; cases hi)
  | tup cs vs h1 h2 ih =>
    intro h; exact .tup cs vs h1 fun j c v hc hv => ih j c v hc hv fun i hi => h i (by
      cases hn : hasId i (.tup cs) with
      | true => rfl
      | false => rw [hasIdL_get (by simpa [hasId] using hn) j c hc] at hi; cases hi)
  | fn f xs ys us vs h1 h2 h3 h4 ih1 ih2 =>
    intro h
    refine .fn f xs ys us vs h1 (fun j c v hc hv => ih1 j c v hc hv fun i hi => h i ?_) h3 fun j c v hc hv => ih2 j c v hc hv fun i hi => h i ?_
    · cases hn : hasId i (.fn f xs ys) with
      | true => rfl
      | false => simp only [hasId, Bool.or_eq_false_iff] at hn; rw [hasIdL_get hn.1 j c hc] at hi; cases hi
    · cases hn : hasId i (.fn f xs ys) with
      | true => rfl
      | false => simp only [hasId, Bool.or_eq_false_iff] at hn; rw [hasIdL_get hn.2 j c hc] at hi; cases hi
def closedH (ids : List Nat) : Heap → Bool
  | [] => true
  | (i, .blk _ cs) :: r => ids.any (Nat.beq i) && closedL ids cs && closedH ids r
  | (i, .row _ _ _) :: r => ids.any (Nat.beq i) && closedH ids r
  | (i, .sem _) :: r => ids.any (Nat.beq i) && closedH ids r
theorem closedH_get {ids : List Nat} : ∀ {h : Heap}, closedH ids h = true → ∀ i c, hget h i = some c → i ∈ ids ∧ match c with | .blk _ cs => closedL ids cs = true | _ => True
  | [], _, i, c, hc => by cases hc
  | (i', .blk ty cs) :: r, hf, i, c, hc => by
    simp only [closedH, Bool.and_eq_true] at hf
    rw [hget_cons] at hc
    split at hc
    · rename_i e; subst e; cases hc
      obtain ⟨j, hj, hb⟩ := List.any_eq_true.1 hf.1.1
      exact ⟨by rw [Nat.eq_of_beq_eq_true hb]; exact hj, hf.1.2⟩
    · exact closedH_get hf.2 i c hc
  | (i', .row e sz xs) :: r, hf, i, c, hc => by
    simp only [closedH, Bool.and_eq_true] at hf
    rw [hget_cons] at hc
    split at hc
    · rename_i e; subst e; cases hc
      obtain ⟨j, hj, hb⟩ := List.any_eq_true.1 hf.1
      exact ⟨by rw [Nat.eq_of_beq_eq_true hb]; exact hj, trivial⟩
    · exact closedH_get hf.2 i c hc
  | (i', .sem _) :: r, hf, i, c, hc => by
    simp only [closedH, Bool.and_eq_true] at hf
    rw [hget_cons] at hc
    split at hc
    · rename_i e; subst e; cases hc
      obtain ⟨j, hj, hb⟩ := List.any_eq_true.1 hf.1
      exact ⟨by rw [Nat.eq_of_beq_eq_true hb]; exact hj, trivial⟩
    · exact closedH_get hf.2 i c hc
def hids (h : Heap) : List Nat := h.map (·.1)
theorem hget_ids {h : Heap} {i : Nat} {c : Chunk} (hc : hget h i = some c) : i ∈ hids h := by
  induction h with
  | nil => cases hc
  | cons p r ih =>
    obtain ⟨j, d⟩ := p
    rw [hget_cons] at hc
    split at hc
    · rename_i e; subst e; simp [hids]
    · simp only [hids, List.map_cons, List.mem_cons]; exact .inr (ih hc)
/-- These are named no more. -/
def killL : List Nat → Slots → Slots
  | [], s => s
  | i :: r, s => killL r (killS i s)
theorem get_killL : ∀ (ids : List Nat) (s : Slots) (t : Nat), get (killL ids s) t = .undef ∨ (get (killL ids s) t = get s t ∧ ∀ i ∈ ids, hasId i (get s t) = false)
  | [], s, t => .inr ⟨rfl, fun i hi => by cases hi⟩
  | i :: r, s, t => by
    rw [killL]
    rcases get_killL r (killS i s) t with h | ⟨h1, h2⟩
    · exact .inl h
    · rw [get_killS] at h1 h2
      by_cases hid : hasId i (get s t) = true
      · rw [if_pos hid] at h1; exact .inl h1
      · rw [if_neg hid] at h1 h2
        refine .inr ⟨h1, fun j hj => ?_⟩
        rcases List.mem_cons.1 hj with rfl | hj
        · simpa using hid
        · exact h2 j hj
def loneL (ids : List Nat) (h : Heap) : Bool := ids.all fun i => loneH i h
def hdelL : List Nat → Heap → Heap
  | [], h => h
  | i :: r, h => hdelL r (hdel i h)
theorem hget_hdelL : ∀ (ids : List Nat) (h : Heap) (i : Nat), hget (hdelL ids h) i = if i ∈ ids then none else hget h i
  | [], h, i => by simp [hdelL]
  | j :: r, h, i => by
    rw [hdelL, hget_hdelL, hget_hdel]
    by_cases h1 : i ∈ r
    · simp [h1]
    · by_cases h2 : i = j
      · subst h2; simp
      · simp [h1, h2]
theorem hget_append (h1 h2 : Heap) (i : Nat) : hget (h1 ++ h2) i = match hget h1 i with | some c => some c | none => hget h2 i := by
  induction h1 with
  | nil => rfl
  | cons p r ih =>
    obtain ⟨j, d⟩ := p
    rw [List.cons_append, hget_cons, hget_cons]
    split
    · rfl
    · exact ih
mutual
/-- Blocks under other numbers. -/
def ren (ρ : Nat → Nat) : AV → AV
  | .own i => .own (ρ i)
  | .ptr i o => .ptr (ρ i) o
  | .eptr i sz a b => .eptr (ρ i) sz a b
  | .part i j => .part (ρ i) j
  | .pptr i j off => .pptr (ρ i) j off
  | .agg cs => .agg (renL ρ cs)
  | .tup cs => .tup (renL ρ cs)
  | .fn f xs ys => .fn f (renL ρ xs) (renL ρ ys)
  | x => x
def renL (ρ : Nat → Nat) : List AV → List AV
  | [] => []
  | x :: xs => ren ρ x :: renL ρ xs
end
theorem renL_get (ρ : Nat → Nat) : ∀ (cs : List AV) (j : Nat), (renL ρ cs)[j]? = (cs[j]?).map (ren ρ)
  | [], j => by simp [renL]
  | x :: xs, 0 => by simp [renL]
  | x :: xs, j + 1 => by simp [renL, renL_get ρ xs j]
theorem renL_length (ρ : Nat → Nat) : ∀ (cs : List AV), (renL ρ cs).length = cs.length
  | [] => rfl
  | x :: xs => by simp [renL, renL_length ρ xs]
def renC (ρ : Nat → Nat) : Chunk → Chunk
  | .blk ty cs => .blk ty (renL ρ cs)
  | .row e sz xs => .row e sz xs
  | .sem c => .sem c
def renH (ρ : Nat → Nat) : Heap → Heap
  | [] => []
  | (i, c) :: r => (ρ i, renC ρ c) :: renH ρ r
theorem ren_el {ρ : Nat → Nat} {R : AV → Value → Prop} {R' : AV → Value → Prop} {cs : List AV} {vs : List Value} (h : ∀ (j : Nat) (c : AV) (v : Value), (renL ρ cs)[j]? = some c → vs[j]? = some v → ∀ x, ren ρ x = c → R' x v) :
    ∀ (j : Nat) (c : AV) (v : Value), cs[j]? = some c → vs[j]? = some v → R' c v := fun j c v hc hv => h j (ren ρ c) v (by rw [renL_get, hc]; rfl) hv c rfl
theorem VR0.unren {σ : Sig} {ρ : Nat → Nat} {y : AV} {v : Value} (h : VR0 σ y v) : ∀ x, ren ρ x = y → VR0 σ x v := by
  induction h with
  | undef v => intro x hx; cases x <;> simp only [ren] at hx <;> first | (cases hx; done) | exact .undef v
  | int k n h => intro x hx; cases x <;> simp only [ren] at hx <;> first | (cases hx; done) | (cases hx; exact .int k n h)
  | bool b => intro x hx; cases x <;> simp only [ren] at hx <;> first | (cases hx; done) | (cases hx; exact .bool b)
  | str s => intro x hx; cases x <;> simp only [ren] at hx <;> first | (cases hx; done) | (cases hx; exact .str s)
  | nils => intro x hx; cases x <;> simp only [ren] at hx <;> first | (cases hx; done) | exact .nils
  | empty sz A cap h => intro x hx; cases x <;> simp only [ren] at hx <;> first | (cases hx; done) | (cases hx; exact .empty sz A cap h)
  | lst sz xs b off cap g h1 h2 h3 h4 h5 ih => intro x hx; cases x <;> simp only [ren] at hx <;> first | (cases hx; done) | (cases hx; exact .lst sz xs b off cap g h1 h2 h3 h4 h5)
  | ref cs b off g h4 h5 ih => intro x hx; cases x <;> simp only [ren] at hx <;> first | (cases hx; done) | (cases hx; exact .ref cs b off g h4 h5)
  | agg cs vs h1 h2 ih =>
    intro x hx; cases x <;> simp only [ren] at hx <;> first | (cases hx; done) | skip
    cases hx
    exact .agg _ vs (by rw [← h1, renL_length]) (ren_el (R := VR0 σ) ih)
  | tup cs vs h1 h2 ih =>
    intro x hx; cases x <;> simp only [ren] at hx <;> first | (cases hx; done) | skip
    cases hx
    exact .tup _ vs (by rw [← h1, renL_length]) (ren_el (R := VR0 σ) ih)
  | nilp => intro x hx; cases x <;> simp only [ren] at hx <;> first | (cases hx; done) | exact .nilp
  | fn f xs ys us vs h1 h2 h3 h4 ih1 ih2 =>
    intro x hx; cases x <;> simp only [ren] at hx <;> first | (cases hx; done) | skip
    cases hx
    exact .fn f _ _ us vs (by rw [← h1, renL_length]) (ren_el (R := VR0 σ) ih1) (by rw [← h3, renL_length]) (ren_el (R := VR0 σ) ih2)
  | nilf => intro x hx; cases x <;> simp only [ren] at hx <;> first | (cases hx; done) | exact .nilf
theorem VR.unren {σ : Sig} {ι : Nat → Value} {ρ : Nat → Nat} {y : AV} {v : Value} (h : VR σ ι y v) : ∀ x, ren ρ x = y → VR σ (fun i => ι (ρ i)) x v := by
  induction h with
  | base y v h => exact fun x hx => .base _ _ (h.unren x hx)
  | own i h1 =>
    intro x hx; cases x <;> simp only [ren] at hx <;> first | (cases hx; done) | skip
    rename_i k
    cases hx
    exact VR.own (ι := fun i => ι (ρ i)) k h1
  | ptr i off g h =>
    intro x hx; cases x <;> simp only [ren] at hx <;> first | (cases hx; done) | skip
    cases hx; exact .ptr _ _ g h
  | eptr i sz a b g h =>
    intro x hx; cases x <;> simp only [ren] at hx <;> first | (cases hx; done) | skip
    cases hx; exact .eptr _ _ _ _ g h
  | part i j vs v h hj h1 =>
    intro x hx; cases x <;> simp only [ren] at hx <;> first | (cases hx; done) | skip
    cases hx; exact .part _ _ vs _ h hj h1
  | pptr i j off g vs u h hj hg =>
    intro x hx; cases x <;> simp only [ren] at hx <;> first | (cases hx; done) | skip
    cases hx; exact .pptr _ _ _ g vs u h hj hg
  | agg cs vs h1 h2 ih =>
    intro x hx; cases x <;> simp only [ren] at hx <;> first | (cases hx; done) | skip
    cases hx
    exact .agg _ vs (by rw [← h1, renL_length]) (ren_el (R := VR σ ι) ih)
  | tup cs vs h1 h2 ih =>
    intro x hx; cases x <;> simp only [ren] at hx <;> first | (cases hx; done) | skip
    cases hx
    exact .tup _ vs (by rw [← h1, renL_length]) (ren_el (R := VR σ ι) ih)
  | fn f xs ys us vs h1 h2 h3 h4 ih1 ih2 =>
    intro x hx; cases x <;> simp only [ren] at hx <;> first | (cases hx; done) | skip
    cases hx
    exact .fn f _ _ us vs (by rw [← h1, renL_length]) (ren_el (R := VR σ ι) ih1) (by rw [← h3, renL_length]) (ren_el (R := VR σ ι) ih2)
theorem VR.reren {σ : Sig} {ι ι' : Nat → Value} {ρ : Nat → Nat} {ids : List Nat} (he : ∀ i ∈ ids, ι i = ι' (ρ i)) {x : AV} {v : Value} (h : VR σ ι x v) : closedA ids x = true → VR σ ι' (ren ρ x) v := by
  have mem : ∀ {i : Nat}, ids.any (Nat.beq i) = true → i ∈ ids := fun hb => by
    obtain ⟨j, hj, hb⟩ := List.any_eq_true.1 hb
    rw [Nat.eq_of_beq_eq_true hb]; exact hj
  have el : ∀ {cs : List AV} {vs : List Value}, closedL ids cs = true → (∀ (j : Nat) (c : AV) (v : Value), cs[j]? = some c → vs[j]? = some v → closedA ids c = true → VR σ ι' (ren ρ c) v) →
      ∀ (j : Nat) (c : AV) (v : Value), (renL ρ cs)[j]? = some c → vs[j]? = some v → VR σ ι' c v := fun {cs vs} hcl ih j c v hc hv => by
    rw [renL_get] at hc
    cases hq : cs[j]? with
    | none => rw [hq] at hc; cases hc
    | some q => rw [hq] at hc; cases hc; exact ih j q v hq hv (closedL_get hcl j q hq)
  induction h with
  | base x v h =>
    intro _
    refine .base _ _ ?_
    have pr : ∀ {y : AV} {v : Value}, VR0 σ y v → VR0 σ (ren ρ y) v := by
      intro y v h
      induction h with
      | undef v => exact .undef v
      | int k n h => exact .int k n h
      | bool b => exact .bool b
      | str s => exact .str s
      | nils => exact .nils
      | empty sz A cap h => exact .empty sz A cap h
      | lst sz xs b off cap g h1 h2 h3 h4 h5 ih => exact .lst sz xs b off cap g h1 h2 h3 h4 h5
      | ref cs b off g h4 h5 ih => exact .ref cs b off g h4 h5
      | agg cs vs h1 h2 ih =>
        refine .agg _ vs (by rw [renL_length]; exact h1) fun j c v hc hv => ?_
        rw [renL_get] at hc
        cases hq : cs[j]? with
        | none => rw [hq] at hc; cases hc
        | some q => rw [hq] at hc; cases hc; exact ih j q v hq hv
      | tup cs vs h1 h2 ih =>
        refine .tup _ vs (by rw [renL_length]; exact h1) fun j c v hc hv => ?_
        rw [renL_get] at hc
        cases hq : cs[j]? with
        | none => rw [hq] at hc; cases hc
        | some q => rw [hq] at hc; cases hc; exact ih j q v hq hv
      | nilp => exact .nilp
      | fn f xs ys us vs h1 h2 h3 h4 ih1 ih2 =>
        refine .fn f _ _ us vs (by rw [renL_length]; exact h1) (fun j c v hc hv => ?_) (by rw [renL_length]; exact h3) fun j c v hc hv => ?_
        · rw [renL_get] at hc
          cases hq : xs[j]? with
          | none => rw [hq] at hc; cases hc
          | some q => rw [hq] at hc; cases hc; exact ih1 j q v hq hv
        · rw [renL_get] at hc
          cases hq : ys[j]? with
          | none => rw [hq] at hc; cases hc
          | some q => rw [hq] at hc; cases hc; exact ih2 j q v hq hv
      | nilf => exact .nilf
    exact pr h
  | own i h1 =>
    intro h
    have h2 := he i (mem (by simpa [closedA] using h))
    rw [h2] at h1 ⊢
    exact .own (ρ i) h1
  | ptr i off g h => intro hb; exact .ptr (ρ i) off g (by rw [← he i (mem (by simpa [closedA] using hb))]; exact h)
  | eptr i sz a b g h => intro hb; exact .eptr (ρ i) sz a b g (by rw [← he i (mem (by simpa [closedA] using hb))]; exact h)
  | part i j vs v h hj h1 => intro hb; exact .part (ρ i) j vs v (by rw [← he i (mem (by simpa [closedA] using hb))]; exact h) hj h1
  | pptr i j off g vs u h hj hg => intro hb; exact .pptr (ρ i) j off g vs u (by rw [← he i (mem (by simpa [closedA] using hb))]; exact h) hj hg
  | agg cs vs h1 h2 ih => intro h; exact .agg _ vs (by rw [renL_length]; exact h1) (el (by simpa [closedA] using h) ih)
  | tup cs vs h1 h2 ih => intro h; exact .tup _ vs (by rw [renL_length]; exact h1) (el (by simpa [closedA] using h) ih)
  | fn f xs ys us vs h1 h2 h3 h4 ih1 ih2 =>
    intro h
    simp only [closedA, Bool.and_eq_true] at h
    exact .fn f _ _ us vs (by rw [renL_length]; exact h1) (el h.1 ih1) (by rw [renL_length]; exact h3) (el h.2 ih2)
def injQ (ρ : Nat → Nat) (ids : List Nat) : Bool := ids.all fun i => ids.all fun j => Nat.beq i j || !Nat.beq (ρ i) (ρ j)
theorem injQ_spec {ρ : Nat → Nat} {ids : List Nat} (h : injQ ρ ids = true) {i j : Nat} (hi : i ∈ ids) (hj : j ∈ ids) (he : ρ i = ρ j) : i = j := by
  have := List.all_eq_true.1 (List.all_eq_true.1 h i hi) j hj
  rcases (Bool.or_eq_true _ _).mp this with h1 | h1
  · exact Nat.eq_of_beq_eq_true h1
  · rw [he] at h1; simp at h1
theorem hget_renH {ρ : Nat → Nat} : ∀ {h : Heap} {ids : List Nat}, (∀ i ∈ hids h, i ∈ ids) → (∀ i ∈ ids, ∀ j ∈ ids, ρ i = ρ j → i = j) → ∀ i ∈ ids, hget (renH ρ h) (ρ i) = (hget h i).map (renC ρ)
  | [], ids, _, _, i, _ => rfl
  | (j, c) :: r, ids, hs, hinj, i, hi => by
    rw [renH, hget_cons, hget_cons]
    by_cases e : j = i
    · subst e; simp
    · rw [if_neg e, if_neg (fun e2 => e (hinj j (hs j (by simp [hids])) i hi e2))]
      exact hget_renH (fun k hk => hs k (by simp only [hids, List.map_cons, List.mem_cons]; exact .inr hk)) hinj i hi
theorem hget_renH_inv {ρ : Nat → Nat} : ∀ {h : Heap} {k : Nat} {c : Chunk}, hget (renH ρ h) k = some c → ∃ i ∈ hids h, ρ i = k
  | [], k, c, hc => by cases hc
  | (j, d) :: r, k, c, hc => by
    rw [renH, hget_cons] at hc
    split at hc
    · rename_i e; exact ⟨j, by simp [hids], e⟩
    · obtain ⟨i, hi, e⟩ := hget_renH_inv hc
      exact ⟨i, by simp only [hids, List.map_cons, List.mem_cons]; exact .inr hi, e⟩
/-- The caller's numbers of the rows among them. -/
def rowsR (ρ : Nat → Nat) : List Nat → List Nat
  | [] => []
  | i :: r => bif Nat.ble 5 i then ρ i :: rowsR ρ r else rowsR ρ r
theorem mem_rowsR {ρ : Nat → Nat} : ∀ {ids : List Nat} {i : Nat}, i ∈ ids → 5 ≤ i → ρ i ∈ rowsR ρ ids
  | j :: r, i, hi, h5 => by
    rw [rowsR]
    rcases List.mem_cons.1 hi with rfl | hi
    · rw [Nat.ble_eq.mpr h5]; simp
    · have := mem_rowsR (ρ := ρ) hi h5
      cases Nat.ble 5 j
      · exact this
      · exact List.mem_cons_of_mem _ this
section
variable {P : Program} {n : Md} {Q : Exit → Slots → Heap → Prop} {s : Slots} {h : Heap} {ops : Array Oper} {rest : List Oper} {o : Oper} {K : Slots → Prop}
/-- A call of f with these, and with these blocks to turn. -/
def FnH (P : Program) (f : FuncId) (args : List AV) (hin : Heap) (R : AV → Heap → Prop) : Prop :=
  Entered P f ∧ ∀ (may : List (Nat × Nat)) (pin : List (Nat × Value)) (σ : Sig) (ι : Nat → Value) (w : World) (vs : List Value), Rel ⟨w, σ, may, pin, []⟩ σ ι hin w → L2 (VR σ ι) args vs →
    Calls P f vs.toArray w (fun e w' => ∃ u r h' σ' ι', e = .returned u ∧ R r h' ∧ VR σ' ι' r u ∧ Rel ⟨w, σ, may, pin, []⟩ σ' ι' h' w')
theorem fnhb {f : FuncId} {fn : Func} {c : Code} {args : List AV} {hin : Heap} {R : AV → Heap → Prop} (hf : P.funcs[f]? = some fn) (he : Entered P f) (hb : fn.body = some c) (hl : Nat.ble args.length fn.ntmps = true)
    (hwp : W P { n := fn.ntmps } c (RetQ P fn.results.toList R) (slots0 args 0) hin) : FnH P f args hin R :=
  ⟨he, fun may pin σ ι w vs hr hv => wp_body hf hb (Nat.ble_eq ▸ hl) hwp.out hr hv⟩
theorem Fn.toH {f : FuncId} {args : List AV} {r : AV} (hf : Fn P f args r) (hin : Heap) : FnH P f args hin (fun r' h' => r' = r ∧ h' = hin) :=
  ⟨hf.1, fun may pin σ ι w vs hr hv => (hf.2 σ ι w vs hr.sub hv).mono fun e w' ⟨u, σ', h1, h2, h3⟩ =>
    ⟨u, r, hin, σ', ι, h1, ⟨rfl, rfl⟩, .base _ _ h2, by
      obtain ⟨h4, h5⟩ := hr.back h3
      exact h5⟩⟩
theorem FnH.mono {f : FuncId} {args : List AV} {hin : Heap} {R R' : AV → Heap → Prop} (hf : FnH P f args hin R) (hm : ∀ r h, R r h → R' r h) : FnH P f args hin R' :=
  ⟨hf.1, fun may pin σ ι w vs hr hv => (hf.2 may pin σ ι w vs hr hv).mono fun e w' ⟨u, r, h', σ', ι', h1, h2, h3, h4⟩ => ⟨u, r, h', σ', ι', h1, hm _ _ h2, h3, h4⟩⟩
def lowQ (ids : List Nat) : Bool := ids.all fun i => Nat.blt i 10 || Nat.ble 100 i
theorem lowQ_spec {ids : List Nat} (h : lowQ ids = true) : ∀ i ∈ ids, i < 10 ∨ 100 ≤ i := fun i hi => by
  have := List.all_eq_true.1 h i hi
  rw [Bool.or_eq_true] at this
  exact this.imp (fun q => by simpa [Nat.blt_eq] using q) (fun q => Nat.ble_eq ▸ q)
/-- A call with blocks to turn; the callee has numbers of its own for them. -/
theorem zcall (ρ : Nat → Nat) {f : FuncId} {args : List AV} {hin : Heap} {R : AV → Heap → Prop} (hf : FnH P f args hin R) (hg : o.guard = none) (hc : callA s o = some (f, renL ρ args)) (hsub : LeH h (renH ρ hin)) (hlow : lowQ (hids hin) = true) (hinj : injQ ρ (hids hin) = true)
    (hrow : (rowsR ρ (hids hin)).all (Nat.ble 5) = true) (hlone : loneL (rowsR ρ (hids hin)) (hdelL ((hids hin).map ρ) h) = true) (hco : constsOk o = true) (hdo : dstOk n o.dst = true)
    (hk : ∀ r h', R r h' → closedA (hids hin) r = true ∧ closedH (hids hin) h' = true ∧ O P n ops Q rest (putS (killL (rowsR ρ (hids hin)) s) o.dst (ren ρ r)) (renH ρ h' ++ hdelL ((hids hin).map ρ) h)) : O P n ops Q (o :: rest) s h := by
  refine ⟨aops_one hg fun E σ ι a w hr ht => ?_⟩
  have hx : ∀ x ∈ o.op.operands.toList, VR σ ι (evA s x) (a.eval x) := fun x hx => evA_sound (List.all_eq_true.1 hco x hx) fun t _ => ht.at_ t
  obtain ⟨vs, h1, h2⟩ := callA_spec (P := P) (w := w) hc hf.1 hx
  unfold Oper.wp
  rw [h1, Oper.upon_enter]
  have hinj' : ∀ i ∈ hids hin, ∀ j ∈ hids hin, ρ i = ρ j → i = j := fun i hi j hj e => injQ_spec hinj hi hj e
  have hlt : ∀ i ∈ hids hin, i < 10 ∨ 100 ≤ i := lowQ_spec hlow
  have hin1 : ∀ i c, hget hin i = some c → hget h (ρ i) = some (renC ρ c) := fun i c hc => hsub (ρ i) _ (by rw [hget_renH (fun _ h => h) hinj' i (hget_ids hc), hc]; rfl)
  have h2' : L2 (VR σ (fun i => ι (ρ i))) args vs := ⟨by rw [← renL_length ρ args]; exact h2.1, fun j c v hc hv => (h2.2 j (ren ρ c) v (by rw [renL_get, hc]; rfl) hv).unren c rfl⟩
  let may := (hids hin).flatMap fun i => (feetL (ι (ρ i))).map fun g => (i, g)
  let pin := ((hids hin).filter (· < 5)).map fun i => (i, ι (ρ i))
  have hmay : ∀ i g, (i, g) ∈ may ↔ i ∈ hids hin ∧ Feet (ι (ρ i)) g := fun i g => by
    simp only [may, List.mem_flatMap, List.mem_map, Prod.mk.injEq]
    constructor
    · rintro ⟨j, hj, g', h6, rfl, rfl⟩; exact ⟨hj, mem_feetL.1 h6⟩
    · rintro ⟨hj, h6⟩; exact ⟨i, hj, g, mem_feetL.2 h6, rfl, rfl⟩
  have hr1 : Rel ⟨w, σ, may, pin, []⟩ σ (fun i => ι (ρ i)) hin w := by
    refine ⟨rfl, rfl, rfl, Nat.le_refl _, fun _ _ _ => rfl, fun _ _ => rfl, hr.sub, fun i c hc => ?_, fun i c hc g hg => ⟨.inl ((hmay i g).2 ⟨hget_ids hc, hg⟩), (hr.foot (ρ i) _ (hin1 i c hc) g hg).2⟩,
      fun i j c d hc hd g hi hj => hinj' i (hget_ids hc) j (hget_ids hd) (hr.dj (ρ i) (ρ j) _ _ (hin1 i c hc) (hin1 j d hd) g hi hj), fun p hp => ?_, fun p hp => ?_, fun p hp => (by cases hp)⟩
    · have h6 := hr.ch (ρ i) _ (hin1 i c hc)
      cases c with
      | blk ty cs =>
        obtain ⟨g, cur, k1, k2, k3⟩ := h6
        exact ⟨g, cur, k1, k2, by rw [← renL_length ρ cs]; exact k3.1, fun j x y a b => (k3.2 j (ren ρ x) y (by rw [renL_get, a]; rfl) b).unren x rfl⟩
      | row e sz xs => exact h6
      | sem c => exact h6
    · obtain ⟨i, hi, rfl⟩ := List.mem_map.1 hp
      exact ⟨by simpa using (List.mem_filter.1 hi).2, rfl⟩
    · obtain ⟨i, g⟩ := p
      exact hlt i ((hmay i g).1 hp).1
  refine (hf.2 may pin σ _ w vs hr1 h2').mono ?_
  rintro e w' ⟨u, r, h', σ', ι', rfl, h3, h4, h5⟩
  obtain ⟨c1, c2, c3⟩ := hk r h' h3
  have hle : Sig.le σ σ' := fun a v ha => by rw [h5.sigOld a (hr.sig_lt ha)]; exact ha
  have hkeep : ∀ g, g < w.heap.size → (∀ i ∈ hids hin, ¬ Feet (ι (ρ i)) g) → w'.heap[g]? = w.heap[g]? := fun g hg hne => h5.old g hg fun i hm => hne i ((hmay i g).1 hm).1 ((hmay i g).1 hm).2
  have hinget : ∀ i ∈ hids hin, ∃ c, hget hin i = some c := by
    intro i hi
    have : ∀ (l : Heap), i ∈ hids l → ∃ c, hget l i = some c := by
      intro l
      induction l with
      | nil => intro h; cases h
      | cons p r ih =>
        intro hm
        obtain ⟨j, d⟩ := p
        rw [hget_cons]
        by_cases hj : j = i
        · exact ⟨d, by rw [if_pos hj]⟩
        · rw [if_neg hj]
          exact ih (by simp only [hids, List.map_cons, List.mem_cons] at hm; rcases hm with rfl | hm; exact absurd rfl hj; exact hm)
    exact this hin hi
  let inv : Nat → Nat := fun k => ((hids hin).find? (fun i => Nat.beq (ρ i) k)).getD 0
  have hinv : ∀ i ∈ hids hin, inv (ρ i) = i := fun i hi => by
    show ((hids hin).find? (fun j => Nat.beq (ρ j) (ρ i))).getD 0 = i
    cases hq : (hids hin).find? (fun j => Nat.beq (ρ j) (ρ i)) with
    | none => have := List.find?_eq_none.1 hq i hi; simp at this
    | some j =>
      have hb := List.find?_some hq
      exact hinj' j (List.mem_of_find?_eq_some hq) i hi (Nat.eq_of_beq_eq_true hb)
  let ι2 : Nat → Value := fun k => if k ∈ (hids hin).map ρ then ι' (inv k) else ι k
  have e2 : ∀ i ∈ hids hin, ι' i = ι2 (ρ i) := fun i hi => by simp only [ι2, if_pos (List.mem_map_of_mem hi), hinv i hi]
  have e3 : ∀ k, k ∉ (hids hin).map ρ → ι k = ι2 k := fun i hi => by simp only [ι2, if_neg hi]
  have e5 : ∀ i ∈ hids hin, i < 5 → ι (ρ i) = ι2 (ρ i) := fun i hi h5' => by
    rw [← e2 i hi]
    exact (h5.pin (i, ι (ρ i)) (List.mem_map.2 ⟨i, List.mem_filter.2 ⟨hi, by simpa using h5'⟩, rfl⟩)).2.symm
  have hdrop : ∀ k c, hget (hdelL ((hids hin).map ρ) h) k = some c → k ∉ (hids hin).map ρ ∧ hget h k = some c := fun i c hc => by
    rw [hget_hdelL] at hc
    split at hc
    · cases hc
    · exact ⟨by assumption, hc⟩
  have hsub' : ∀ i ∈ hids h', i ∈ hids hin := by
    have : ∀ (l : Heap), closedH (hids hin) l = true → ∀ i ∈ hids l, i ∈ hids hin := by
      intro l
      induction l with
      | nil => intro _ i hi; cases hi
      | cons p r ih =>
        intro hcl i hi
        obtain ⟨j, d⟩ := p
        have hj : (hids hin).any (Nat.beq j) = true ∧ closedH (hids hin) r = true := by
          cases d with
          | blk ty cs => simp only [closedH, Bool.and_eq_true] at hcl; exact ⟨hcl.1.1, hcl.2⟩
          | row e sz xs => simp only [closedH, Bool.and_eq_true] at hcl; exact hcl
          | sem c => simp only [closedH, Bool.and_eq_true] at hcl; exact hcl
        simp only [hids, List.map_cons, List.mem_cons] at hi
        rcases hi with rfl | hi
        · obtain ⟨k, hk, hb⟩ := List.any_eq_true.1 hj.1
          rw [Nat.eq_of_beq_eq_true hb]; exact hk
        · exact ih hj.2 i hi
    exact this h' c2
  have hh : ∀ k c, hget (renH ρ h' ++ hdelL ((hids hin).map ρ) h) k = some c → (∃ i d, k = ρ i ∧ i ∈ hids hin ∧ hget h' i = some d ∧ c = renC ρ d) ∨ (k ∉ (hids hin).map ρ ∧ hget h k = some c) := fun k c hc => by
    rw [hget_append] at hc
    split at hc
    · rename_i d hd; cases hc
      obtain ⟨i, hi, rfl⟩ := hget_renH_inv hd
      rw [hget_renH hsub' hinj' i (hsub' i hi)] at hd
      obtain ⟨d0, h6, rfl⟩ := Option.map_eq_some_iff.1 hd
      exact .inl ⟨i, d0, rfl, hsub' i hi, h6, rfl⟩
    · exact .inr (hdrop k c hc)
  have hfar : ∀ k c, k ∉ (hids hin).map ρ → hget h k = some c → ∀ g, Feet (ι k) g → ∀ j ∈ hids hin, ¬ Feet (ι (ρ j)) g := fun k c hk hc g hg j hj e => by
    obtain ⟨d, hd⟩ := hinget j hj
    exact hk (hr.dj k (ρ j) c _ hc (hin1 j d hd) g hg e ▸ List.mem_map_of_mem hj)
  have hf1 : ∀ i c, hget h' i = some c → ∀ g, Feet (ι' i) g → (i ∈ hids hin ∧ Feet (ι (ρ i)) g) ∨ w.heap.size ≤ g := fun i c hc g hg => by
    rcases (h5.foot i c hc g hg).1 with h6 | h6
    · exact .inl ((hmay i g).1 h6)
    · exact .inr h6
  have hnew : Rel E σ' ι2 (renH ρ h' ++ hdelL ((hids hin).map ρ) h) w' := by
    refine ⟨h5.os.trans hr.os, h5.tape.trans hr.tape, h5.output.trans hr.output, Nat.le_trans hr.size h5.size, ?_, ?_, h5.sub, ?_, ?_, ?_, ?_, hr.low, ?_⟩
    · intro b hb hm
      rw [hkeep b (Nat.lt_of_lt_of_le hb hr.size) fun i hi e => by
        obtain ⟨c, hc⟩ := hinget i hi
        rcases (hr.foot (ρ i) _ (hin1 i c hc) b e).1 with h6 | h6
        · exact hm _ h6
        · omega]
      exact hr.old b hb hm
    · intro a ha
      rw [h5.sigOld a (Nat.lt_of_lt_of_le ha hr.size)]; exact hr.sigOld a ha
    · intro k c hc
      rcases hh k c hc with ⟨i, d, rfl, h7, h6, rfl⟩ | ⟨h6, h7⟩
      · have h8 := h5.ch i d h6
        have h9 := (closedH_get c2 i d h6).2
        cases d with
        | blk ty cs =>
          obtain ⟨g, cur, k1, k2, k3⟩ := h8
          refine ⟨g, cur, by rw [← e2 i h7]; exact k1, k2, by rw [renL_length]; exact k3.1, fun j x y a b => ?_⟩
          rw [renL_get] at a
          cases hq : cs[j]? with
          | none => rw [hq] at a; cases a
          | some q => rw [hq] at a; cases a; exact (k3.2 j q y hq b).reren e2 (closedL_get h9 j q hq)
        | row e sz xs =>
          obtain ⟨k0, k1, vs, k2, k3⟩ := h8
          exact ⟨k0, k1, vs, by rw [← e2 i h7]; exact k2, k3⟩
        | sem c => show c.rel _ _ _; rw [← e2 i h7]; exact h8
      · have h8 := (hr.ch k c h7).keep hle fun g hg => hkeep g (hr.foot_lt h7 hg) (hfar k c h6 h7 g hg)
        cases c with
        | blk ty cs =>
          obtain ⟨g, cur, k1, k2, k3⟩ := h8
          refine ⟨g, cur, by rw [← e3 k h6]; exact k1, k2, k3.1, fun j x y a b => (k3.2 j x y a b).same fun m hm => ?_⟩
          by_cases hmm : m ∈ (hids hin).map ρ
          · obtain ⟨i, hi, rfl⟩ := List.mem_map.1 hmm
            by_cases hk5 : i < 5
            · exact e5 i hi hk5
            · have h9 := loneH_get (List.all_eq_true.1 hlone (ρ i) (mem_rowsR hi (by omega))) k (.blk ty cs) (by rw [hget_hdelL, if_neg h6]; exact h7)
              rw [hasIdL_get h9 j x a] at hm; cases hm
          · exact e3 m hmm
        | row e sz xs =>
          obtain ⟨k0, k1, vs, k2, k3⟩ := h8
          exact ⟨k0, k1, vs, by rw [← e3 k h6]; exact k2, k3⟩
        | sem c => show c.rel _ _ _; rw [← e3 k h6]; exact h8
    · intro k c hc g hg
      rcases hh k c hc with ⟨i, d, rfl, h7, h6, rfl⟩ | ⟨h6, h7⟩
      · rw [← e2 i h7] at hg
        refine ⟨?_, (h5.foot i d h6 g hg).2⟩
        rcases hf1 i d h6 g hg with ⟨hj, hfj⟩ | hge
        · obtain ⟨d0, hd0⟩ := hinget i hj
          exact (hr.foot (ρ i) _ (hin1 i d0 hd0) g hfj).1
        · exact .inr (Nat.le_trans hr.size hge)
      · rw [← e3 k h6] at hg
        obtain ⟨h8, h9⟩ := hr.foot k c h7 g hg
        exact ⟨h8, fun o => by rw [h5.sigOld _ (hr.foot_lt h7 hg)]; exact h9 o⟩
    · have cross : ∀ i k c d, hget h' i = some c → k ∉ (hids hin).map ρ → hget h k = some d → ∀ g, Feet (ι' i) g → Feet (ι k) g → False := fun i k c d h6 h8 h9 g hg hg2 => by
        rcases hf1 i c h6 g hg with ⟨hk, hfk⟩ | hge
        · exact hfar k d h8 h9 g hg2 i hk hfk
        · have := hr.foot_lt h9 hg2; omega
      intro k l c d hc hd g hi hj
      rcases hh k c hc with ⟨i, c0, rfl, h7, h6, rfl⟩ | ⟨h6, h7⟩
      · rw [← e2 i h7] at hi
        rcases hh l d hd with ⟨j, d0, rfl, h9, h8, rfl⟩ | ⟨h8, h9⟩
        · rw [← e2 j h9] at hj
          rw [h5.dj i j c0 d0 h6 h8 g hi hj]
        · rw [← e3 l h8] at hj
          exact (cross i l c0 d h6 h8 h9 g hi hj).elim
      · rw [← e3 k h6] at hi
        rcases hh l d hd with ⟨j, d0, rfl, h9, h8, rfl⟩ | ⟨h8, h9⟩
        · rw [← e2 j h9] at hj
          exact (cross j k d0 c h8 h6 h7 g hj hi).elim
        · rw [← e3 l h8] at hj
          exact hr.dj k l c d h7 h9 g hi hj
    · intro p hp
      obtain ⟨h6, h7⟩ := hr.pin p hp
      refine ⟨h6, ?_⟩
      by_cases hm : p.1 ∈ (hids hin).map ρ
      · obtain ⟨i, hi, e⟩ := List.mem_map.1 hm
        rw [← e]
        by_cases hi5 : i < 5
        · rw [← e5 i hi hi5, e]; exact h7
        · have h8 := List.all_eq_true.1 hrow (ρ i) (mem_rowsR hi (by omega))
          rw [e] at h8
          have := Nat.ble_eq ▸ h8
          omega
      · rw [← e3 p.1 hm]; exact h7
    · intro p hp
      obtain ⟨h6, h7, h8⟩ := hr.xo p hp
      have hlt2 := (Array.getElem?_eq_some_iff.1 h7).1
      refine ⟨h6, (hkeep p.1 hlt2 fun i hi e => ?_).trans h7, fun k c hc e => ?_⟩
      · obtain ⟨c, hc⟩ := hinget i hi
        exact h8 (ρ i) _ (hin1 i c hc) e
      · rcases hh k c hc with ⟨i, d, rfl, h9, h10, rfl⟩ | ⟨h9, h10⟩
        · rw [← e2 i h9] at e
          rcases hf1 i d h10 p.1 e with ⟨hj, hfj⟩ | hge
          · obtain ⟨d0, hd0⟩ := hinget i hj
            exact h8 (ρ i) _ (hin1 i d0 hd0) hfj
          · omega
        · rw [← e3 k h9] at e
          exact h8 k c h10 e
  have epin : ∀ k, k < 5 → ι2 k = ι k := fun k hk => by
    by_cases hm : k ∈ (hids hin).map ρ
    · obtain ⟨i, hi, e⟩ := List.mem_map.1 hm
      rw [← e]
      by_cases hi5 : i < 5
      · exact (e5 i hi hi5).symm
      · have h8 := List.all_eq_true.1 hrow (ρ i) (mem_rowsR hi (by omega))
        rw [e] at h8
        have := Nat.ble_eq ▸ h8
        omega
    · exact (e3 k hm).symm
  refine c3.out E σ' ι2 _ w' hnew (TR.putS ⟨ht.size, ⟨ht.defers.1, fun p hp => let ⟨h1, h2⟩ := ht.defers.2 p hp; ⟨h1, (epin _ h1).trans h2⟩⟩, fun t => ?_⟩ hdo (h4.reren e2 c1))
  rcases get_killL (rowsR ρ (hids hin)) s t with h6 | ⟨h6, h7⟩
  · rw [h6]; exact .base _ _ (.undef _)
  · rw [h6]
    refine ((ht.at_ t).mono hle).same fun k hk => ?_
    by_cases hm : k ∈ (hids hin).map ρ
    · obtain ⟨i, hi, rfl⟩ := List.mem_map.1 hm
      by_cases hk5 : i < 5
      · exact e5 i hi hk5
      · rw [h7 _ (mem_rowsR hi (by omega))] at hk; cases hk
    · exact e3 k hm
end
end Go.Proofs.Ytfjoaeghnfkdlaa
