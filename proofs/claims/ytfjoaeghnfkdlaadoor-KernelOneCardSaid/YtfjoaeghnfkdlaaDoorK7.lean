/- Functions that turn blocks that they are handed. No condition. -/
import Derived.Test.YtfjoaeghnfkdlaaDoorK6
set_option linter.unusedSimpArgs false
set_option linter.unusedVariables false
set_option maxHeartbeats 1000000
namespace Go.Proofs.YtfjoaeghnfkdlaaDoor
set_option maxRecDepth 100000
open Go.RowKit
mutual
def closedA (ids : List Nat) : AV → Bool
  | .own i | .ptr i _ | .eptr i _ _ _ | .part i _ | .pptr i _ _ => ids.any (Nat.beq i)
  | .agg cs => closedL ids cs
  | .tup cs => closedL ids cs
  | .fn _ xs ys => closedL ids xs && closedL ids ys
  | _ => true
def closedL (ids : List Nat) : List AV → Bool
  | [] => true
  | x :: xs => closedA ids x && closedL ids xs
end
theorem closedL_get {ids : List Nat} : ∀ {cs : List AV}, closedL ids cs = true → ∀ (j : Nat) (c : AV), cs[j]? = some c → closedA ids c = true
  | [], _, j, c, h => by simp at h
  | x :: xs, hp, 0, c, h => by simp at h; subst h; simp only [closedL, Bool.and_eq_true] at hp; exact hp.1
  | x :: xs, hp, j + 1, c, h => by simp only [closedL, Bool.and_eq_true] at hp; exact closedL_get hp.2 j c (by simpa using h)
theorem VR.agree {σ : Sig} {ι ι' : Nat → Value} {ids : List Nat} (he : ∀ i ∈ ids, ι i = ι' i) {x : AV} {v : Value} (h : VR σ ι x v) : closedA ids x = true → VR σ ι' x v := by
  have mem : ∀ {i : Nat}, ids.any (Nat.beq i) = true → i ∈ ids := fun hb => by
    obtain ⟨j, hj, hb⟩ := List.any_eq_true.1 hb
    rw [Nat.eq_of_beq_eq_true hb]; exact hj
  induction h with
  | base x v h => exact fun _ => .base _ _ h
  | own i h1 =>
    intro h
    have h2 := he i (mem (by simpa [closedA] using h))
    rw [h2] at h1 ⊢
    exact .own i h1
  | ptr i off g h => intro hb; exact .ptr i off g (by rw [← he i (mem (by simpa [closedA] using hb))]; exact h)
  | eptr i sz a b g h => intro hb; exact .eptr i sz a b g (by rw [← he i (mem (by simpa [closedA] using hb))]; exact h)
  | part i j vs v h hj h1 => intro hb; exact .part i j vs v (by rw [← he i (mem (by simpa [closedA] using hb))]; exact h) hj h1
  | pptr i j off g vs u h hj hg => intro hb; exact .pptr i j off g vs u (by rw [← he i (mem (by simpa [closedA] using hb))]; exact h) hj hg
  | agg cs vs h1 h2 ih => intro h; exact .agg cs vs h1 fun j c v hc hv => ih j c v hc hv (closedL_get (by simpa [closedA] using h) j c hc)
  | tup cs vs h1 h2 ih => intro h; exact .tup cs vs h1 fun j c v hc hv => ih j c v hc hv (closedL_get (by simpa [closedA] using h) j c hc)
  | fn f xs ys us vs h1 h2 h3 h4 ih1 ih2 =>
    intro h
    simp only [closedA, Bool.and_eq_true] at h
    exact .fn f xs ys us vs h1 (fun j c v hc hv => ih1 j c v hc hv (closedL_get h.1 j c hc)) h3 fun j c v hc hv => ih2 j c v hc hv (closedL_get h.2 j c hc)
theorem VR.same {σ : Sig} {ι ι' : Nat → Value} {x : AV} {v : Value} (h : VR σ ι x v) : (∀ i, hasId i x = true → ι i = ι' i) → VR σ ι' x v := by
  induction h with
  | base x v h => exact fun _ => .base _ _ h
  | own i h1 =>
    intro h
    have h2 := h i (by simp [hasId])
    rw [h2] at h1 ⊢
    exact .own i h1
  | ptr i off g h => intro hb; exact .ptr i off g (by rw [← hb i (by simp [hasId])]; exact h)
  | eptr i sz a b g h => intro hb; exact .eptr i sz a b g (by rw [← hb i (by simp [hasId])]; exact h)
  | part i j vs v h hj h1 => intro hb; exact .part i j vs v (by rw [← hb i (by simp [hasId])]; exact h) hj h1
  | pptr i j off g vs u h hj hg => intro hb; exact .pptr i j off g vs u (by rw [← hb i (by simp [hasId])]; exact h) hj hg
  | agg cs vs h1 h2 ih =>
    intro h; exact .agg cs vs h1 fun j c v hc hv => ih j c v hc hv fun i hi => h i (by
      cases hn : hasId i (.agg cs) with
      | true => rfl
      | false => rw [hasIdL_get (by simpa [hasId] using hn) j c hc] at hi; cases hi)
  | tup cs vs h1 h2 ih =>
    intro h; exact .tup cs vs h1 fun j c v hc hv => ih j c v hc hv fun i hi => h i (by
      cases hn : hasId i (.tup cs) with
      | true => rfl
      | false => rw [hasIdL_get (by simpa [hasId] using hn) j c hc] at hi; cases hi)
  | fn f xs ys us vs h1 h2 h3 h4 ih1 ih2 =>
    intro h
    refine .fn f xs ys us vs h1 (fun j c v hc hv => ih1 j c v hc hv fun i hi => h i ?_) h3 fun j c v hc hv => ih2 j c v hc hv fun i hi => h i ?_
    · cases hn : hasId i (.fn f xs ys) with
      | true => rfl
      | false => simp only [hasId, Bool.or_eq_false_iff] at hn; rw [hasIdL_get hn.1 j c hc] at hi; cases hi
    · cases hn : hasId i (.fn f xs ys) with
      | true => rfl
      | false => simp only [hasId, Bool.or_eq_false_iff] at hn; rw [hasIdL_get hn.2 j c hc] at hi; cases hi
def closedH (ids : List Nat) : Heap → Bool
  | [] => true
  | (i, .blk _ cs) :: r => ids.any (Nat.beq i) && closedL ids cs && closedH ids r
  | (i, .row _ _ _) :: r => ids.any (Nat.beq i) && closedH ids r
  | (i, .sem _) :: r => ids.any (Nat.beq i) && closedH ids r
theorem closedH_get {ids : List Nat} : ∀ {h : Heap}, closedH ids h = true → ∀ i c, hget h i = some c → i ∈ ids ∧ match c with | .blk _ cs => closedL ids cs = true | _ => True
  | [], _, i, c, hc => by cases hc
  | (i', .blk ty cs) :: r, hf, i, c, hc => by
    simp only [closedH, Bool.and_eq_true] at hf
    rw [hget_cons] at hc
    split at hc
    · rename_i e; subst e; cases hc
      obtain ⟨j, hj, hb⟩ := List.any_eq_true.1 hf.1.1
      exact ⟨by rw [Nat.eq_of_beq_eq_true hb]; exact hj, hf.1.2⟩
    · exact closedH_get hf.2 i c hc
  | (i', .row e sz xs) :: r, hf, i, c, hc => by
    simp only [closedH, Bool.and_eq_true] at hf
    rw [hget_cons] at hc
    split at hc
    · rename_i e; subst e; cases hc
      obtain ⟨j, hj, hb⟩ := List.any_eq_true.1 hf.1
      exact ⟨by rw [Nat.eq_of_beq_eq_true hb]; exact hj, trivial⟩
    · exact closedH_get hf.2 i c hc
  | (i', .sem _) :: r, hf, i, c, hc => by
    simp only [closedH, Bool.and_eq_true] at hf
    rw [hget_cons] at hc
    split at hc
    · rename_i e; subst e; cases hc
      obtain ⟨j, hj, hb⟩ := List.any_eq_true.1 hf.1
      exact ⟨by rw [Nat.eq_of_beq_eq_true hb]; exact hj, trivial⟩
    · exact closedH_get hf.2 i c hc
def hids (h : Heap) : List Nat := h.map (·.1)
theorem hget_ids {h : Heap} {i : Nat} {c : Chunk} (hc : hget h i = some c) : i ∈ hids h := by
  induction h with
  | nil => cases hc
  | cons p r ih =>
    obtain ⟨j, d⟩ := p
    rw [hget_cons] at hc
    split at hc
    · rename_i e; subst e; simp [hids]
    · simp only [hids, List.map_cons, List.mem_cons]; exact .inr (ih hc)
def killL : List Nat → Slots → Slots
  | [], s => s
  | i :: r, s => killL r (killS i s)
theorem get_killL : ∀ (ids : List Nat) (s : Slots) (t : Nat), get (killL ids s) t = .undef ∨ (get (killL ids s) t = get s t ∧ ∀ i ∈ ids, hasId i (get s t) = false)
  | [], s, t => .inr ⟨rfl, fun i hi => by cases hi⟩
  | i :: r, s, t => by
    rw [killL]
    rcases get_killL r (killS i s) t with h | ⟨h1, h2⟩
    · exact .inl h
    · rw [get_killS] at h1 h2
      by_cases hid : hasId i (get s t) = true
      · rw [if_pos hid] at h1; exact .inl h1
      · rw [if_neg hid] at h1 h2
        refine .inr ⟨h1, fun j hj => ?_⟩
        rcases List.mem_cons.1 hj with rfl | hj
        · simpa using hid
        · exact h2 j hj
def loneL (ids : List Nat) (h : Heap) : Bool := ids.all fun i => loneH i h
def hdelL : List Nat → Heap → Heap
  | [], h => h
  | i :: r, h => hdelL r (hdel i h)
theorem hget_hdelL : ∀ (ids : List Nat) (h : Heap) (i : Nat), hget (hdelL ids h) i = if i ∈ ids then none else hget h i
  | [], h, i => by simp [hdelL]
  | j :: r, h, i => by
    rw [hdelL, hget_hdelL, hget_hdel]
    by_cases h1 : i ∈ r
    · simp [h1]
    · by_cases h2 : i = j
      · subst h2; simp
      · simp [h1, h2]
theorem hget_append (h1 h2 : Heap) (i : Nat) : hget (h1 ++ h2) i = match hget h1 i with | some c => some c | none => hget h2 i := by
  induction h1 with
  | nil => rfl
  | cons p r ih =>
    obtain ⟨j, d⟩ := p
    rw [List.cons_append, hget_cons, hget_cons]
    split
    · rfl
    · exact ih
mutual
def ren (ρ : Nat → Nat) : AV → AV
  | .own i => .own (ρ i)
  | .ptr i o => .ptr (ρ i) o
  | .eptr i sz a b => .eptr (ρ i) sz a b
  | .part i j => .part (ρ i) j
  | .pptr i j off => .pptr (ρ i) j off
  | .agg cs => .agg (renL ρ cs)
  | .tup cs => .tup (renL ρ cs)
  | .fn f xs ys => .fn f (renL ρ xs) (renL ρ ys)
  | x => x
def renL (ρ : Nat → Nat) : List AV → List AV
  | [] => []
  | x :: xs => ren ρ x :: renL ρ xs
end
theorem renL_get (ρ : Nat → Nat) : ∀ (cs : List AV) (j : Nat), (renL ρ cs)[j]? = (cs[j]?).map (ren ρ)
  | [], j => by simp [renL]
  | x :: xs, 0 => by simp [renL]
  | x :: xs, j + 1 => by simp [renL, renL_get ρ xs j]
theorem renL_length (ρ : Nat → Nat) : ∀ (cs : List AV), (renL ρ cs).length = cs.length
  | [] => rfl
  | x :: xs => by simp [renL, renL_length ρ xs]
def renC (ρ : Nat → Nat) : Chunk → Chunk
  | .blk ty cs => .blk ty (renL ρ cs)
  | .row e sz xs => .row e sz xs
  | .sem c => .sem c
def renH (ρ : Nat → Nat) : Heap → Heap
  | [] => []
  | (i, c) :: r => (ρ i, renC ρ c) :: renH ρ r
theorem ren_el {ρ : Nat → Nat} {R : AV → Value → Prop} {R' : AV → Value → Prop} {cs : List AV} {vs : List Value} (h : ∀ (j : Nat) (c : AV) (v : Value), (renL ρ cs)[j]? = some c → vs[j]? = some v → ∀ x, ren ρ x = c → R' x v) :
    ∀ (j : Nat) (c : AV) (v : Value), cs[j]? = some c → vs[j]? = some v → R' c v := fun j c v hc hv => h j (ren ρ c) v (by rw [renL_get, hc]; rfl) hv c rfl
theorem VR0.unren {σ : Sig} {ρ : Nat → Nat} {y : AV} {v : Value} (h : VR0 σ y v) : ∀ x, ren ρ x = y → VR0 σ x v := by
  induction h with
  | undef v => intro x hx; cases x <;> simp only [ren] at hx <;> first | (cases hx; done) | exact .undef v
  | int k n h => intro x hx; cases x <;> simp only [ren] at hx <;> first | (cases hx; done) | (cases hx; exact .int k n h)
  | bool b => intro x hx; cases x <;> simp only [ren] at hx <;> first | (cases hx; done) | (cases hx; exact .bool b)
  | str s => intro x hx; cases x <;> simp only [ren] at hx <;> first | (cases hx; done) | (cases hx; exact .str s)
  | nils => intro x hx; cases x <;> simp only [ren] at hx <;> first | (cases hx; done) | exact .nils
  | empty sz A cap h => intro x hx; cases x <;> simp only [ren] at hx <;> first | (cases hx; done) | (cases hx; exact .empty sz A cap h)
  | lst sz xs b off cap g h1 h2 h3 h4 h5 ih => intro x hx; cases x <;> simp only [ren] at hx <;> first | (cases hx; done) | (cases hx; exact .lst sz xs b off cap g h1 h2 h3 h4 h5)
  | ref cs b off g h4 h5 ih => intro x hx; cases x <;> simp only [ren] at hx <;> first | (cases hx; done) | (cases hx; exact .ref cs b off g h4 h5)
  | agg cs vs h1 h2 ih =>
    intro x hx; cases x <;> simp only [ren] at hx <;> first | (cases hx; done) | skip
    cases hx
    exact .agg _ vs (by rw [← h1, renL_length]) (ren_el (R := VR0 σ) ih)
  | tup cs vs h1 h2 ih =>
    intro x hx; cases x <;> simp only [ren] at hx <;> first | (cases hx; done) | skip
    cases hx
    exact .tup _ vs (by rw [← h1, renL_length]) (ren_el (R := VR0 σ) ih)
  | nilp => intro x hx; cases x <;> simp only [ren] at hx <;> first | (cases hx; done) | exact .nilp
  | fn f xs ys us vs h1 h2 h3 h4 ih1 ih2 =>
    intro x hx; cases x <;> simp only [ren] at hx <;> first | (cases hx; done) | skip
    cases hx
    exact .fn f _ _ us vs (by rw [← h1, renL_length]) (ren_el (R := VR0 σ) ih1) (by rw [← h3, renL_length]) (ren_el (R := VR0 σ) ih2)
  | nilf => intro x hx; cases x <;> simp only [ren] at hx <;> first | (cases hx; done) | exact .nilf
theorem VR.unren {σ : Sig} {ι : Nat → Value} {ρ : Nat → Nat} {y : AV} {v : Value} (h : VR σ ι y v) : ∀ x, ren ρ x = y → VR σ (fun i => ι (ρ i)) x v := by
  induction h with
  | base y v h => exact fun x hx => .base _ _ (h.unren x hx)
  | own i h1 =>
    intro x hx; cases x <;> simp only [ren] at hx <;> first | (cases hx; done) | skip
    rename_i k
    cases hx
    exact VR.own (ι := fun i => ι (ρ i)) k h1
  | ptr i off g h =>
    intro x hx; cases x <;> simp only [ren] at hx <;> first | (cases hx; done) | skip
    cases hx; exact .ptr _ _ g h
  | eptr i sz a b g h =>
    intro x hx; cases x <;> simp only [ren] at hx <;> first | (cases hx; done) | skip
    cases hx; exact .eptr _ _ _ _ g h
  | part i j vs v h hj h1 =>
    intro x hx; cases x <;> simp only [ren] at hx <;> first | (cases hx; done) | skip
    cases hx; exact .part _ _ vs _ h hj h1
  | pptr i j off g vs u h hj hg =>
    intro x hx; cases x <;> simp only [ren] at hx <;> first | (cases hx; done) | skip
    cases hx; exact .pptr _ _ _ g vs u h hj hg
  | agg cs vs h1 h2 ih =>
    intro x hx; cases x <;> simp only [ren] at hx <;> first | (cases hx; done) | skip
    cases hx
    exact .agg _ vs (by rw [← h1, renL_length]) (ren_el (R := VR σ ι) ih)
  | tup cs vs h1 h2 ih =>
    intro x hx; cases x <;> simp only [ren] at hx <;> first | (cases hx; done) | skip
    cases hx
    exact .tup _ vs (by rw [← h1, renL_length]) (ren_el (R := VR σ ι) ih)
  | fn f xs ys us vs h1 h2 h3 h4 ih1 ih2 =>
    intro x hx; cases x <;> simp only [ren] at hx <;> first | (cases hx; done) | skip
    cases hx
    exact .fn f _ _ us vs (by rw [← h1, renL_length]) (ren_el (R := VR σ ι) ih1) (by rw [← h3, renL_length]) (ren_el (R := VR σ ι) ih2)
theorem VR.reren {σ : Sig} {ι ι' : Nat → Value} {ρ : Nat → Nat} {ids : List Nat} (he : ∀ i ∈ ids, ι i = ι' (ρ i)) {x : AV} {v : Value} (h : VR σ ι x v) : closedA ids x = true → VR σ ι' (ren ρ x) v := by
  have mem : ∀ {i : Nat}, ids.any (Nat.beq i) = true → i ∈ ids := fun hb => by
    obtain ⟨j, hj, hb⟩ := List.any_eq_true.1 hb
    rw [Nat.eq_of_beq_eq_true hb]; exact hj
  have el : ∀ {cs : List AV} {vs : List Value}, closedL ids cs = true → (∀ (j : Nat) (c : AV) (v : Value), cs[j]? = some c → vs[j]? = some v → closedA ids c = true → VR σ ι' (ren ρ c) v) →
      ∀ (j : Nat) (c : AV) (v : Value), (renL ρ cs)[j]? = some c → vs[j]? = some v → VR σ ι' c v := fun {cs vs} hcl ih j c v hc hv => by
    rw [renL_get] at hc
    cases hq : cs[j]? with
    | none => rw [hq] at hc; cases hc
    | some q => rw [hq] at hc; cases hc; exact ih j q v hq hv (closedL_get hcl j q hq)
  induction h with
  | base x v h =>
    intro _
    refine .base _ _ ?_
    have pr : ∀ {y : AV} {v : Value}, VR0 σ y v → VR0 σ (ren ρ y) v := by
      intro y v h
      induction h with
      | undef v => exact .undef v
      | int k n h => exact .int k n h
      | bool b => exact .bool b
      | str s => exact .str s
      | nils => exact .nils
      | empty sz A cap h => exact .empty sz A cap h
      | lst sz xs b off cap g h1 h2 h3 h4 h5 ih => exact .lst sz xs b off cap g h1 h2 h3 h4 h5
      | ref cs b off g h4 h5 ih => exact .ref cs b off g h4 h5
      | agg cs vs h1 h2 ih =>
        refine .agg _ vs (by rw [renL_length]; exact h1) fun j c v hc hv => ?_
        rw [renL_get] at hc
        cases hq : cs[j]? with
        | none => rw [hq] at hc; cases hc
        | some q => rw [hq] at hc; cases hc; exact ih j q v hq hv
      | tup cs vs h1 h2 ih =>
        refine .tup _ vs (by rw [renL_length]; exact h1) fun j c v hc hv => ?_
        rw [renL_get] at hc
        cases hq : cs[j]? with
        | none => rw [hq] at hc; cases hc
        | some q => rw [hq] at hc; cases hc; exact ih j q v hq hv
      | nilp => exact .nilp
      | fn f xs ys us vs h1 h2 h3 h4 ih1 ih2 =>
        refine .fn f _ _ us vs (by rw [renL_length]; exact h1) (fun j c v hc hv => ?_) (by rw [renL_length]; exact h3) fun j c v hc hv => ?_
        · rw [renL_get] at hc
          cases hq : xs[j]? with
          | none => rw [hq] at hc; cases hc
          | some q => rw [hq] at hc; cases hc; exact ih1 j q v hq hv
        · rw [renL_get] at hc
          cases hq : ys[j]? with
          | none => rw [hq] at hc; cases hc
          | some q => rw [hq] at hc; cases hc; exact ih2 j q v hq hv
      | nilf => exact .nilf
    exact pr h
  | own i h1 =>
    intro h
    have h2 := he i (mem (by simpa [closedA] using h))
    rw [h2] at h1 ⊢
    exact .own (ρ i) h1
  | ptr i off g h => intro hb; exact .ptr (ρ i) off g (by rw [← he i (mem (by simpa [closedA] using hb))]; exact h)
  | eptr i sz a b g h => intro hb; exact .eptr (ρ i) sz a b g (by rw [← he i (mem (by simpa [closedA] using hb))]; exact h)
  | part i j vs v h hj h1 => intro hb; exact .part (ρ i) j vs v (by rw [← he i (mem (by simpa [closedA] using hb))]; exact h) hj h1
  | pptr i j off g vs u h hj hg => intro hb; exact .pptr (ρ i) j off g vs u (by rw [← he i (mem (by simpa [closedA] using hb))]; exact h) hj hg
  | agg cs vs h1 h2 ih => intro h; exact .agg _ vs (by rw [renL_length]; exact h1) (el (by simpa [closedA] using h) ih)
  | tup cs vs h1 h2 ih => intro h; exact .tup _ vs (by rw [renL_length]; exact h1) (el (by simpa [closedA] using h) ih)
  | fn f xs ys us vs h1 h2 h3 h4 ih1 ih2 =>
    intro h
    simp only [closedA, Bool.and_eq_true] at h
    exact .fn f _ _ us vs (by rw [renL_length]; exact h1) (el h.1 ih1) (by rw [renL_length]; exact h3) (el h.2 ih2)
def injQ (ρ : Nat → Nat) (ids : List Nat) : Bool := ids.all fun i => ids.all fun j => Nat.beq i j || !Nat.beq (ρ i) (ρ j)
theorem injQ_spec {ρ : Nat → Nat} {ids : List Nat} (h : injQ ρ ids = true) {i j : Nat} (hi : i ∈ ids) (hj : j ∈ ids) (he : ρ i = ρ j) : i = j := by
  have := List.all_eq_true.1 (List.all_eq_true.1 h i hi) j hj
  rcases (Bool.or_eq_true _ _).mp this with h1 | h1
  · exact Nat.eq_of_beq_eq_true h1
  · rw [he] at h1; simp at h1
theorem hget_renH {ρ : Nat → Nat} : ∀ {h : Heap} {ids : List Nat}, (∀ i ∈ hids h, i ∈ ids) → (∀ i ∈ ids, ∀ j ∈ ids, ρ i = ρ j → i = j) → ∀ i ∈ ids, hget (renH ρ h) (ρ i) = (hget h i).map (renC ρ)
  | [], ids, _, _, i, _ => rfl
  | (j, c) :: r, ids, hs, hinj, i, hi => by
    rw [renH, hget_cons, hget_cons]
    by_cases e : j = i
    · subst e; simp
    · rw [if_neg e, if_neg (fun e2 => e (hinj j (hs j (by simp [hids])) i hi e2))]
      exact hget_renH (fun k hk => hs k (by simp only [hids, List.map_cons, List.mem_cons]; exact .inr hk)) hinj i hi
theorem hget_renH_inv {ρ : Nat → Nat} : ∀ {h : Heap} {k : Nat} {c : Chunk}, hget (renH ρ h) k = some c → ∃ i ∈ hids h, ρ i = k
  | [], k, c, hc => by cases hc
  | (j, d) :: r, k, c, hc => by
    rw [renH, hget_cons] at hc
    split at hc
    · rename_i e; exact ⟨j, by simp [hids], e⟩
    · obtain ⟨i, hi, e⟩ := hget_renH_inv hc
      exact ⟨i, by simp only [hids, List.map_cons, List.mem_cons]; exact .inr hi, e⟩
def rowsR (ρ : Nat → Nat) : List Nat → List Nat
  | [] => []
  | i :: r => bif Nat.ble 5 i then ρ i :: rowsR ρ r else rowsR ρ r
theorem mem_rowsR {ρ : Nat → Nat} : ∀ {ids : List Nat} {i : Nat}, i ∈ ids → 5 ≤ i → ρ i ∈ rowsR ρ ids
  | j :: r, i, hi, h5 => by
    rw [rowsR]
    rcases List.mem_cons.1 hi with rfl | hi
    · rw [Nat.ble_eq.mpr h5]; simp
    · have := mem_rowsR (ρ := ρ) hi h5
      cases Nat.ble 5 j
      · exact this
      · exact List.mem_cons_of_mem _ this
section
variable {P : Program} {n : Md} {Q : Exit → Slots → Heap → Prop} {s : Slots} {h : Heap} {ops : Array Oper} {rest : List Oper} {o : Oper} {K : Slots → Prop}
def FnH (P : Program) (f : FuncId) (args : List AV) (hin : Heap) (R : AV → Heap → Prop) : Prop :=
  Entered P f ∧ ∀ (may : List (Nat × Nat)) (pin : List (Nat × Value)) (σ : Sig) (ι : Nat → Value) (w : World) (vs : List Value), Rel ⟨w, σ, may, pin, []⟩ σ ι hin w → L2 (VR σ ι) args vs →
    Calls P f vs.toArray w (fun e w' => ∃ u r h' σ' ι', e = .returned u ∧ R r h' ∧ VR σ' ι' r u ∧ Rel ⟨w, σ, may, pin, []⟩ σ' ι' h' w')
theorem fnhb {f : FuncId} {fn : Func} {c : Code} {args : List AV} {hin : Heap} {R : AV → Heap → Prop} (hf : P.funcs[f]? = some fn) (he : Entered P f) (hb : fn.body = some c) (hl : Nat.ble args.length fn.ntmps = true)
    (hwp : W P { n := fn.ntmps } c (RetQ P fn.results.toList R) (slots0 args 0) hin) : FnH P f args hin R :=
  ⟨he, fun may pin σ ι w vs hr hv => wp_body hf hb (Nat.ble_eq ▸ hl) hwp.out hr hv⟩
theorem FnH.mono {f : FuncId} {args : List AV} {hin : Heap} {R R' : AV → Heap → Prop} (hf : FnH P f args hin R) (hm : ∀ r h, R r h → R' r h) : FnH P f args hin R' :=
  ⟨hf.1, fun may pin σ ι w vs hr hv => (hf.2 may pin σ ι w vs hr hv).mono fun e w' ⟨u, r, h', σ', ι', h1, h2, h3, h4⟩ => ⟨u, r, h', σ', ι', h1, hm _ _ h2, h3, h4⟩⟩
def lowQ (ids : List Nat) : Bool := ids.all fun i => Nat.blt i 10 || Nat.ble 100 i
theorem lowQ_spec {ids : List Nat} (h : lowQ ids = true) : ∀ i ∈ ids, i < 10 ∨ 100 ≤ i := fun i hi => by
  have := List.all_eq_true.1 h i hi
  rw [Bool.or_eq_true] at this
  exact this.imp (fun q => by simpa [Nat.blt_eq] using q) (fun q => Nat.ble_eq ▸ q)
theorem zcall (ρ : Nat → Nat) {f : FuncId} {args : List AV} {hin : Heap} {R : AV → Heap → Prop} (hf : FnH P f args hin R) (hg : o.guard = none) (hc : callA s o = some (f, renL ρ args)) (hsub : LeH h (renH ρ hin)) (hlow : lowQ (hids hin) = true) (hinj : injQ ρ (hids hin) = true)
    (hrow : (rowsR ρ (hids hin)).all (Nat.ble 5) = true) (hlone : loneL (rowsR ρ (hids hin)) (hdelL ((hids hin).map ρ) h) = true) (hco : constsOk o = true) (hdo : dstOk n o.dst = true)
    (hk : ∀ r h', R r h' → closedA (hids hin) r = true ∧ closedH (hids hin) h' = true ∧ O P n ops Q rest (putS (killL (rowsR ρ (hids hin)) s) o.dst (ren ρ r)) (renH ρ h' ++ hdelL ((hids hin).map ρ) h)) : O P n ops Q (o :: rest) s h := by
  refine ⟨aops_one hg fun E σ ι a w hr ht => ?_⟩
  have hx : ∀ x ∈ o.op.operands.toList, VR σ ι (evA s x) (a.eval x) := fun x hx => evA_sound (List.all_eq_true.1 hco x hx) fun t _ => ht.at_ t
  obtain ⟨vs, h1, h2⟩ := callA_spec (P := P) (w := w) hc hf.1 hx
  unfold Oper.wp
  rw [h1, Oper.upon_enter]
  have hinj' : ∀ i ∈ hids hin, ∀ j ∈ hids hin, ρ i = ρ j → i = j := fun i hi j hj e => injQ_spec hinj hi hj e
  have hlt : ∀ i ∈ hids hin, i < 10 ∨ 100 ≤ i := lowQ_spec hlow
  have hin1 : ∀ i c, hget hin i = some c → hget h (ρ i) = some (renC ρ c) := fun i c hc => hsub (ρ i) _ (by rw [hget_renH (fun _ h => h) hinj' i (hget_ids hc), hc]; rfl)
  have h2' : L2 (VR σ (fun i => ι (ρ i))) args vs := ⟨by rw [← renL_length ρ args]; exact h2.1, fun j c v hc hv => (h2.2 j (ren ρ c) v (by rw [renL_get, hc]; rfl) hv).unren c rfl⟩
  let may := (hids hin).flatMap fun i => (feetL (ι (ρ i))).map fun g => (i, g)
  let pin := ((hids hin).filter (· < 5)).map fun i => (i, ι (ρ i))
  have hmay : ∀ i g, (i, g) ∈ may ↔ i ∈ hids hin ∧ Feet (ι (ρ i)) g := fun i g => by
    simp only [may, List.mem_flatMap, List.mem_map, Prod.mk.injEq]
    constructor
    · rintro ⟨j, hj, g', h6, rfl, rfl⟩; exact ⟨hj, mem_feetL.1 h6⟩
    · rintro ⟨hj, h6⟩; exact ⟨i, hj, g, mem_feetL.2 h6, rfl, rfl⟩
  have hr1 : Rel ⟨w, σ, may, pin, []⟩ σ (fun i => ι (ρ i)) hin w := by
    refine ⟨rfl, rfl, rfl, Nat.le_refl _, fun _ _ _ => rfl, fun _ _ => rfl, hr.sub, fun i c hc => ?_, fun i c hc g hg => ⟨.inl ((hmay i g).2 ⟨hget_ids hc, hg⟩), (hr.foot (ρ i) _ (hin1 i c hc) g hg).2⟩,
      fun i j c d hc hd g hi hj => hinj' i (hget_ids hc) j (hget_ids hd) (hr.dj (ρ i) (ρ j) _ _ (hin1 i c hc) (hin1 j d hd) g hi hj), fun p hp => ?_, fun p hp => ?_, fun p hp => (by cases hp)⟩
    · have h6 := hr.ch (ρ i) _ (hin1 i c hc)
      cases c with
      | blk ty cs =>
        obtain ⟨g, cur, k1, k2, k3⟩ := h6
        exact ⟨g, cur, k1, k2, by rw [← renL_length ρ cs]; exact k3.1, fun j x y a b => (k3.2 j (ren ρ x) y (by rw [renL_get, a]; rfl) b).unren x rfl⟩
      | row e sz xs => exact h6
      | sem c => exact h6
    · obtain ⟨i, hi, rfl⟩ := List.mem_map.1 hp
      exact ⟨by simpa using (List.mem_filter.1 hi).2, rfl⟩
    · obtain ⟨i, g⟩ := p
      exact hlt i ((hmay i g).1 hp).1
  refine (hf.2 may pin σ _ w vs hr1 h2').mono ?_
  rintro e w' ⟨u, r, h', σ', ι', rfl, h3, h4, h5⟩
  obtain ⟨c1, c2, c3⟩ := hk r h' h3
  have hle : Sig.le σ σ' := fun a v ha => by rw [h5.sigOld a (hr.sig_lt ha)]; exact ha
  have hkeep : ∀ g, g < w.heap.size → (∀ i ∈ hids hin, ¬ Feet (ι (ρ i)) g) → w'.heap[g]? = w.heap[g]? := fun g hg hne => h5.old g hg fun i hm => hne i ((hmay i g).1 hm).1 ((hmay i g).1 hm).2
  have hinget : ∀ i ∈ hids hin, ∃ c, hget hin i = some c := by
    intro i hi
    have : ∀ (l : Heap), i ∈ hids l → ∃ c, hget l i = some c := by
      intro l
      induction l with
      | nil => intro h; cases h
      | cons p r ih =>
        intro hm
        obtain ⟨j, d⟩ := p
        rw [hget_cons]
        by_cases hj : j = i
        · exact ⟨d, by rw [if_pos hj]⟩
        · rw [if_neg hj]
          exact ih (by simp only [hids, List.map_cons, List.mem_cons] at hm; rcases hm with rfl | hm; exact absurd rfl hj; exact hm)
    exact this hin hi
  let inv : Nat → Nat := fun k => ((hids hin).find? (fun i => Nat.beq (ρ i) k)).getD 0
  have hinv : ∀ i ∈ hids hin, inv (ρ i) = i := fun i hi => by
    show ((hids hin).find? (fun j => Nat.beq (ρ j) (ρ i))).getD 0 = i
    cases hq : (hids hin).find? (fun j => Nat.beq (ρ j) (ρ i)) with
    | none => have := List.find?_eq_none.1 hq i hi; simp at this
    | some j =>
      have hb := List.find?_some hq
      exact hinj' j (List.mem_of_find?_eq_some hq) i hi (Nat.eq_of_beq_eq_true hb)
  let ι2 : Nat → Value := fun k => if k ∈ (hids hin).map ρ then ι' (inv k) else ι k
  have e2 : ∀ i ∈ hids hin, ι' i = ι2 (ρ i) := fun i hi => by simp only [ι2, if_pos (List.mem_map_of_mem hi), hinv i hi]
  have e3 : ∀ k, k ∉ (hids hin).map ρ → ι k = ι2 k := fun i hi => by simp only [ι2, if_neg hi]
  have e5 : ∀ i ∈ hids hin, i < 5 → ι (ρ i) = ι2 (ρ i) := fun i hi h5' => by
    rw [← e2 i hi]
    exact (h5.pin (i, ι (ρ i)) (List.mem_map.2 ⟨i, List.mem_filter.2 ⟨hi, by simpa using h5'⟩, rfl⟩)).2.symm
  have hdrop : ∀ k c, hget (hdelL ((hids hin).map ρ) h) k = some c → k ∉ (hids hin).map ρ ∧ hget h k = some c := fun i c hc => by
    rw [hget_hdelL] at hc
    split at hc
    · cases hc
    · exact ⟨by assumption, hc⟩
  have hsub' : ∀ i ∈ hids h', i ∈ hids hin := by
    have : ∀ (l : Heap), closedH (hids hin) l = true → ∀ i ∈ hids l, i ∈ hids hin := by
      intro l
      induction l with
      | nil => intro _ i hi; cases hi
      | cons p r ih =>
        intro hcl i hi
        obtain ⟨j, d⟩ := p
        have hj : (hids hin).any (Nat.beq j) = true ∧ closedH (hids hin) r = true := by
          cases d with
          | blk ty cs => simp only [closedH, Bool.and_eq_true] at hcl; exact ⟨hcl.1.1, hcl.2⟩
          | row e sz xs => simp only [closedH, Bool.and_eq_true] at hcl; exact hcl
          | sem c => simp only [closedH, Bool.and_eq_true] at hcl; exact hcl
        simp only [hids, List.map_cons, List.mem_cons] at hi
        rcases hi with rfl | hi
        · obtain ⟨k, hk, hb⟩ := List.any_eq_true.1 hj.1
          rw [Nat.eq_of_beq_eq_true hb]; exact hk
        · exact ih hj.2 i hi
    exact this h' c2
  have hh : ∀ k c, hget (renH ρ h' ++ hdelL ((hids hin).map ρ) h) k = some c → (∃ i d, k = ρ i ∧ i ∈ hids hin ∧ hget h' i = some d ∧ c = renC ρ d) ∨ (k ∉ (hids hin).map ρ ∧ hget h k = some c) := fun k c hc => by
    rw [hget_append] at hc
    split at hc
    · rename_i d hd; cases hc
      obtain ⟨i, hi, rfl⟩ := hget_renH_inv hd
      rw [hget_renH hsub' hinj' i (hsub' i hi)] at hd
      obtain ⟨d0, h6, rfl⟩ := Option.map_eq_some_iff.1 hd
      exact .inl ⟨i, d0, rfl, hsub' i hi, h6, rfl⟩
    · exact .inr (hdrop k c hc)
  have hfar : ∀ k c, k ∉ (hids hin).map ρ → hget h k = some c → ∀ g, Feet (ι k) g → ∀ j ∈ hids hin, ¬ Feet (ι (ρ j)) g := fun k c hk hc g hg j hj e => by
    obtain ⟨d, hd⟩ := hinget j hj
    exact hk (hr.dj k (ρ j) c _ hc (hin1 j d hd) g hg e ▸ List.mem_map_of_mem hj)
  have hf1 : ∀ i c, hget h' i = some c → ∀ g, Feet (ι' i) g → (i ∈ hids hin ∧ Feet (ι (ρ i)) g) ∨ w.heap.size ≤ g := fun i c hc g hg => by
    rcases (h5.foot i c hc g hg).1 with h6 | h6
    · exact .inl ((hmay i g).1 h6)
    · exact .inr h6
  have hnew : Rel E σ' ι2 (renH ρ h' ++ hdelL ((hids hin).map ρ) h) w' := by
    refine ⟨h5.os.trans hr.os, h5.tape.trans hr.tape, h5.output.trans hr.output, Nat.le_trans hr.size h5.size, ?_, ?_, h5.sub, ?_, ?_, ?_, ?_, hr.low, ?_⟩
    · intro b hb hm
      rw [hkeep b (Nat.lt_of_lt_of_le hb hr.size) fun i hi e => by
        obtain ⟨c, hc⟩ := hinget i hi
        rcases (hr.foot (ρ i) _ (hin1 i c hc) b e).1 with h6 | h6
        · exact hm _ h6
        · omega]
      exact hr.old b hb hm
    · intro a ha
      rw [h5.sigOld a (Nat.lt_of_lt_of_le ha hr.size)]; exact hr.sigOld a ha
    · intro k c hc
      rcases hh k c hc with ⟨i, d, rfl, h7, h6, rfl⟩ | ⟨h6, h7⟩
      · have h8 := h5.ch i d h6
        have h9 := (closedH_get c2 i d h6).2
        cases d with
        | blk ty cs =>
          obtain ⟨g, cur, k1, k2, k3⟩ := h8
          refine ⟨g, cur, by rw [← e2 i h7]; exact k1, k2, by rw [renL_length]; exact k3.1, fun j x y a b => ?_⟩
          rw [renL_get] at a
          cases hq : cs[j]? with
          | none => rw [hq] at a; cases a
          | some q => rw [hq] at a; cases a; exact (k3.2 j q y hq b).reren e2 (closedL_get h9 j q hq)
        | row e sz xs =>
          obtain ⟨k0, k1, vs, k2, k3⟩ := h8
          exact ⟨k0, k1, vs, by rw [← e2 i h7]; exact k2, k3⟩
        | sem c => show c.rel _ _ _; rw [← e2 i h7]; exact h8
      · have h8 := (hr.ch k c h7).keep hle fun g hg => hkeep g (hr.foot_lt h7 hg) (hfar k c h6 h7 g hg)
        cases c with
        | blk ty cs =>
          obtain ⟨g, cur, k1, k2, k3⟩ := h8
          refine ⟨g, cur, by rw [← e3 k h6]; exact k1, k2, k3.1, fun j x y a b => (k3.2 j x y a b).same fun m hm => ?_⟩
          by_cases hmm : m ∈ (hids hin).map ρ
          · obtain ⟨i, hi, rfl⟩ := List.mem_map.1 hmm
            by_cases hk5 : i < 5
            · exact e5 i hi hk5
            · have h9 := loneH_get (List.all_eq_true.1 hlone (ρ i) (mem_rowsR hi (by omega))) k (.blk ty cs) (by rw [hget_hdelL, if_neg h6]; exact h7)
              rw [hasIdL_get h9 j x a] at hm; cases hm
          · exact e3 m hmm
        | row e sz xs =>
          obtain ⟨k0, k1, vs, k2, k3⟩ := h8
          exact ⟨k0, k1, vs, by rw [← e3 k h6]; exact k2, k3⟩
        | sem c => show c.rel _ _ _; rw [← e3 k h6]; exact h8
    · intro k c hc g hg
      rcases hh k c hc with ⟨i, d, rfl, h7, h6, rfl⟩ | ⟨h6, h7⟩
      · rw [← e2 i h7] at hg
        refine ⟨?_, (h5.foot i d h6 g hg).2⟩
        rcases hf1 i d h6 g hg with ⟨hj, hfj⟩ | hge
        · obtain ⟨d0, hd0⟩ := hinget i hj
          exact (hr.foot (ρ i) _ (hin1 i d0 hd0) g hfj).1
        · exact .inr (Nat.le_trans hr.size hge)
      · rw [← e3 k h6] at hg
        obtain ⟨h8, h9⟩ := hr.foot k c h7 g hg
        exact ⟨h8, fun o => by rw [h5.sigOld _ (hr.foot_lt h7 hg)]; exact h9 o⟩
    · have cross : ∀ i k c d, hget h' i = some c → k ∉ (hids hin).map ρ → hget h k = some d → ∀ g, Feet (ι' i) g → Feet (ι k) g → False := fun i k c d h6 h8 h9 g hg hg2 => by
        rcases hf1 i c h6 g hg with ⟨hk, hfk⟩ | hge
        · exact hfar k d h8 h9 g hg2 i hk hfk
        · have := hr.foot_lt h9 hg2; omega
      intro k l c d hc hd g hi hj
      rcases hh k c hc with ⟨i, c0, rfl, h7, h6, rfl⟩ | ⟨h6, h7⟩
      · rw [← e2 i h7] at hi
        rcases hh l d hd with ⟨j, d0, rfl, h9, h8, rfl⟩ | ⟨h8, h9⟩
        · rw [← e2 j h9] at hj
          rw [h5.dj i j c0 d0 h6 h8 g hi hj]
        · rw [← e3 l h8] at hj
          exact (cross i l c0 d h6 h8 h9 g hi hj).elim
      · rw [← e3 k h6] at hi
        rcases hh l d hd with ⟨j, d0, rfl, h9, h8, rfl⟩ | ⟨h8, h9⟩
        · rw [← e2 j h9] at hj
          exact (cross j k d0 c h8 h6 h7 g hj hi).elim
        · rw [← e3 l h8] at hj
          exact hr.dj k l c d h7 h9 g hi hj
    · intro p hp
      obtain ⟨h6, h7⟩ := hr.pin p hp
      refine ⟨h6, ?_⟩
      by_cases hm : p.1 ∈ (hids hin).map ρ
      · obtain ⟨i, hi, e⟩ := List.mem_map.1 hm
        rw [← e]
        by_cases hi5 : i < 5
        · rw [← e5 i hi hi5, e]; exact h7
        · have h8 := List.all_eq_true.1 hrow (ρ i) (mem_rowsR hi (by omega))
          rw [e] at h8
          have := Nat.ble_eq ▸ h8
          omega
      · rw [← e3 p.1 hm]; exact h7
    · intro p hp
      obtain ⟨h6, h7, h8⟩ := hr.xo p hp
      have hlt2 := (Array.getElem?_eq_some_iff.1 h7).1
      refine ⟨h6, (hkeep p.1 hlt2 fun i hi e => ?_).trans h7, fun k c hc e => ?_⟩
      · obtain ⟨c, hc⟩ := hinget i hi
        exact h8 (ρ i) _ (hin1 i c hc) e
      · rcases hh k c hc with ⟨i, d, rfl, h9, h10, rfl⟩ | ⟨h9, h10⟩
        · rw [← e2 i h9] at e
          rcases hf1 i d h10 p.1 e with ⟨hj, hfj⟩ | hge
          · obtain ⟨d0, hd0⟩ := hinget i hj
            exact h8 (ρ i) _ (hin1 i d0 hd0) hfj
          · omega
        · rw [← e3 k h9] at e
          exact h8 k c h10 e
  have epin : ∀ k, k < 5 → ι2 k = ι k := fun k hk => by
    by_cases hm : k ∈ (hids hin).map ρ
    · obtain ⟨i, hi, e⟩ := List.mem_map.1 hm
      rw [← e]
      by_cases hi5 : i < 5
      · exact (e5 i hi hi5).symm
      · have h8 := List.all_eq_true.1 hrow (ρ i) (mem_rowsR hi (by omega))
        rw [e] at h8
        have := Nat.ble_eq ▸ h8
        omega
    · exact (e3 k hm).symm
  refine c3.out E σ' ι2 _ w' hnew (TR.putS ⟨ht.size, ⟨ht.defers.1, fun p hp => let ⟨h1, h2⟩ := ht.defers.2 p hp; ⟨h1, (epin _ h1).trans h2⟩⟩, fun t => ?_⟩ hdo (h4.reren e2 c1))
  rcases get_killL (rowsR ρ (hids hin)) s t with h6 | ⟨h6, h7⟩
  · rw [h6]; exact .base _ _ (.undef _)
  · rw [h6]
    refine ((ht.at_ t).mono hle).same fun k hk => ?_
    by_cases hm : k ∈ (hids hin).map ρ
    · obtain ⟨i, hi, rfl⟩ := List.mem_map.1 hm
      by_cases hk5 : i < 5
      · exact e5 i hi hk5
      · rw [h7 _ (mem_rowsR hi (by omega))] at hk; cases hk
    · exact e3 k hm
end
end Go.Proofs.YtfjoaeghnfkdlaaDoor
namespace Go.Proofs.YtfjoaeghnfkdlaaDoor
set_option maxRecDepth 100000
open Go.RowKit
section
variable {P : Program} {n : Md} {Q : Exit → Slots → Heap → Prop} {s : Slots} {h : Heap} {ops : Array Oper} {rest : List Oper} {o : Oper} {K : Slots → Prop}
theorem flatten_set {β : Type} {sz : Nat} : ∀ {xs : List (List β)} {i j : Nat} {c ws : List β}, (∀ c ∈ xs, c.length = sz) → xs[i]? = some c → j + ws.length ≤ sz →
    (xs.set i (c.take j ++ ws ++ c.drop (j + ws.length))).flatten = xs.flatten.take (i * sz + j) ++ ws ++ xs.flatten.drop (i * sz + j + ws.length)
  | [], i, j, c, ws, _, hi, _ => by simp at hi
  | x :: xs, 0, j, c, ws, hsz, hi, hl => by
    simp at hi; subst hi
    have h1 : x.length = sz := hsz x (by simp)
    simp only [List.set_cons_zero, List.flatten_cons, Nat.zero_mul, Nat.zero_add]
    rw [List.take_append_of_le_length (by omega), List.drop_append_of_le_length (by omega)]
    simp
  | x :: xs, i + 1, j, c, ws, hsz, hi, hl => by
    have h1 : x.length = sz := hsz x (by simp)
    have ih := flatten_set (xs := xs) (i := i) (j := j) (c := c) (ws := ws) (fun c hc => hsz c (by simp [hc])) (by simpa using hi) hl
    simp only [List.set_cons_succ, List.flatten_cons, ih]
    have e1 : (i + 1) * sz + j = x.length + (i * sz + j) := by rw [h1, Nat.add_mul]; omega
    have e2 : (i + 1) * sz + j + ws.length = x.length + (i * sz + j + ws.length) := by rw [h1, Nat.add_mul]; omega
    have t1 : ∀ (k : Nat) (r : List β), (x ++ r).take (x.length + k) = x ++ r.take k := fun k r => by rw [List.take_append, List.take_of_length_le (by omega), Nat.add_sub_cancel_left]
    have t2 : ∀ (k : Nat) (r : List β), (x ++ r).drop (x.length + k) = r.drop k := fun k r => by rw [List.drop_append, List.drop_of_length_le (by omega), Nat.add_sub_cancel_left, List.nil_append]
    rw [e2, e1, t1, t2, List.append_assoc, List.append_assoc, List.append_assoc]
theorem a1_storeE {α : Type} [Inhabited α] {t e' : TypeId} {x y : Operand} {id sz i j : Nat} {l : List α} {f : α → List AV} {v : AV} (x' : α) (ho : o.op = .store t x y) (hx : evA s x = .eptr id sz i j)
    (hg : hget h id = some (.row e' sz (l.map f))) (hv : evA s y = v) (hq : celQ v = true) (hp : pureL (celA v) = true) (hz : sizeQ P t (celA v).length = true) (hl : j + (celA v).length ≤ sz) (hx' : f x' = spl (f (l.getD i default)) j (celA v))
    (hi : i < l.length) (hco : constsOk o = true) (hd : o.dst = none) (hk : AOps P n ops Q rest s ((id, .row e' sz ((l.set i x').map f)) :: h)) : A1 P n ops Q o rest s h := fun E σ ι a w hr ht => by
  subst hv
  have hX : VR σ ι (evA s x) (a.eval x) := evA_sound (List.all_eq_true.1 hco x (by rw [ho]; simp [Op.operands])) fun t _ => ht.at_ t
  have hY : VR σ ι (evA s y) (a.eval y) := evA_sound (List.all_eq_true.1 hco y (by rw [ho]; simp [Op.operands])) fun t _ => ht.at_ t
  rw [hx] at hX
  obtain ⟨g, h1, h2⟩ := hX.eptr_inv
  obtain ⟨hsz0, hsz, vs, hown, hL2⟩ := hr.ch id _ hg
  rcases hown.2 with ⟨h3, _⟩ | ⟨g', cap, cur, h3, _, h4, h5, h6, h7, h8⟩
  · rw [h3] at h1; cases h1
  rw [h3] at h1
  simp only [footOf, Option.some.injEq] at h1
  subst h1
  obtain ⟨hL, hone⟩ := hY.cel hq
  have hlen : (a.eval y).cells.size = (celA (evA s y)).length := by rw [← Array.length_toList]; exact hL.1.symm
  have hil : i < (l.map f).length := by simpa using hi
  have hbound : i * sz + j + (a.eval y).cells.size ≤ (l.map f).length * sz := by
    have : (i + 1) * sz ≤ (l.map f).length * sz := Nat.mul_le_mul_right _ hil
    rw [Nat.add_mul] at this; omega
  have hcap : (l.map f).length * sz ≤ cap * sz := Nat.mul_le_mul_right _ h5
  have hrun := run_store_at (P := P) (t := t) (off := i * sz + j) (v := a.eval y) h4 (by rw [hlen]; exact hz) (by omega) hone
  obtain ⟨cur', hcur'⟩ : ∃ cur', cur' = (cur.toList.take (i * sz + j) ++ (a.eval y).cells.toList ++ cur.toList.drop (i * sz + j + (a.eval y).cells.size)).toArray := ⟨_, rfl⟩
  rw [← hcur'] at hrun
  have hs' : cur'.size = cur.size := by
    rw [hcur']; simp only [List.size_toArray, List.length_append, List.length_take, List.length_drop, Array.length_toList]; omega
  have htk : cur'.toList.take ((l.map f).length * sz) = vs.take (i * sz + j) ++ (a.eval y).cells.toList ++ vs.drop (i * sz + j + (a.eval y).cells.toList.length) := by
    obtain ⟨N, hN⟩ : ∃ N, N = (l.map f).length * sz := ⟨_, rfl⟩
    obtain ⟨us, hus⟩ : ∃ us, us = (a.eval y).cells.toList := ⟨_, rfl⟩
    have hul : us.length = (a.eval y).cells.size := by rw [hus, Array.length_toList (xs := (a.eval y).cells)]
    rw [hcur', ← h8, ← hN, ← hus, ← hul]
    rw [← hN] at hbound hcap
    rw [← hul] at hbound
    have hcl : cur.toList.length = cur.size := Array.length_toList (xs := cur)
    generalize cur.toList = cl at *
    rw [List.toList_toArray, List.take_take, List.take_append, List.take_append, List.drop_take, show min (i * sz + j) N = i * sz + j by omega]
    have e2 : (List.take (i * sz + j) cl).length = i * sz + j := by rw [List.length_take]; omega
    rw [List.length_append, e2, List.take_of_length_le (l := us) (by omega), List.take_take, show min N (i * sz + j) = i * sz + j by omega]
  unfold Oper.wp
  have hrun' : (execOp a.eval o).run P w = .ok .skip (w.setRow g' cur') := by
    simp only [execOp, ho, h2, Instr.storeAt, Instr.sureAddr, Sem.run_bind, Sem.run_pure, Result.andThen_ok, hrun]
  rw [hrun', Oper.upon_skip, hd]
  have hsame : upd ι id (ι id) = ι := by funext i; unfold upd; split <;> simp_all
  have hget' : l.getD i default = l[i] := by simp [hi]
  have hfi : (l.map f)[i]? = some (f (l.getD i default)) := by simp [hi]
  have hci : (f (l.getD i default)).length = sz := hsz _ (List.mem_of_getElem? hfi)
  have hxs : (l.set i x').map f = (l.map f).set i ((f (l.getD i default)).take j ++ celA (evA s y) ++ (f (l.getD i default)).drop (j + (celA (evA s y)).length)) := by
    rw [List.map_set, hx', spl_eq _ _ _ (by omega)]
  have hnew := hr.turn (id := id) (u := ι id) (h' := (id, .row e' sz ((l.set i x').map f)) :: h) (c' := .row e' sz ((l.set i x').map f)) (w' := w.setRow g' cur')
    (fun i c hi hc => by rw [hget_cons, if_neg (fun e => hi e.symm)] at hc; exact ⟨hc, .inl rfl⟩) (by rw [hget_cons, if_pos rfl])
    ⟨hsz0, fun c hc => by
      rw [hxs] at hc
      rcases List.mem_or_eq_of_mem_set hc with hc | rfl
      · exact hsz c hc
      · simp only [List.length_append, List.length_take, List.length_drop]; omega,
      cur'.toList.take ((l.map f).length * sz), by
        rw [hsame, show ((l.set i x').map f).length = (l.map f).length by simp]
        refine ⟨by rw [List.length_take, Array.length_toList (xs := cur')]; omega, .inr ⟨g', cap, cur', h3, Nat.zero_le _, setRow_heap w g' cur cur' e' (0, 0) h4, h5, h6, by omega, rfl⟩⟩, by
      rw [htk, hxs, flatten_set hsz hfi hl]
      rw [show (a.eval y).cells.toList.length = (celA (evA s y)).length by rw [Array.length_toList, hlen]]
      exact ((hL2.take _).append (l2_pure hL hp)).append (hL2.drop _)⟩
    rfl rfl rfl (by simp) (fun k hk hne => setRow_other w g' k _ fun e => hne _ hg (by rw [e, h3]; rfl))
    (fun g2 hg2 => .inl ⟨_, hg, hg2⟩) (.inr rfl)
  rw [hsame] at hnew
  exact hk E σ ι _ _ hnew ht
theorem ao_se {α : Type} [Inhabited α] {t e' : TypeId} {x y : Operand} {id sz i j : Nat} {l : List α} {f : α → List AV} {v : AV} {x' : α} (ho : o.op = .store t x y) (hx : evA s x = .eptr id sz i j)
    (hg : hget h id = some (.row e' sz (l.map f))) (hv : evA s y = v) (hq : celQ v = true) (hp : pureL (celA v) = true) (hz : sizeQ P t (celA v).length = true) (hl : Nat.ble (j + (celA v).length) sz = true) (hx' : f x' = spl (f (l.getD i default)) j (celA v))
    (hi : i < l.length) (hgd : o.guard = none) (hco : constsOk o = true) (hd : o.dst = none) (hk : O P n ops Q rest s ((id, .row e' sz ((l.set i x').map f)) :: h)) : O P n ops Q (o :: rest) s h :=
  ⟨aops_one hgd (a1_storeE x' ho hx hg hv hq hp hz (Nat.ble_eq ▸ hl) hx' hi hco hd hk.out)⟩
/-! ## A row of the call's own is cut short -/
theorem a1_cut {α : Type} {t e : TypeId} {x y : Operand} {id sz b : Nat} {k : IntKind} {l : List α} {f : α → List AV} (ho : o.op = .slice t x none (some y) none) (ht : sliceE P t = some e) (hz : sizeQ P e sz = true) (hx : evA s x = .own id)
    (hg : hget h id = some (.row e sz (l.map f))) (hy : evA s y = .int k b) (hb : b ≤ l.length) (h5 : Nat.ble 5 id = true) (hlo : loneH id h = true) (hco : constsOk o = true) (hd : dstOk n o.dst = true)
    (hk : AOps P n ops Q rest (putS (killS id s) o.dst (.own id)) ((id, .row e sz ((l.take b).map f)) :: h)) : A1 P n ops Q o rest s h := fun E σ ι a w hr ht' => by
  have hX : VR σ ι (evA s x) (a.eval x) := evA_sound (List.all_eq_true.1 hco x (by rw [ho]; simp [Op.operands])) fun t _ => ht'.at_ t
  have hY : VR σ ι (evA s y) (a.eval y) := evA_sound (List.all_eq_true.1 hco y (by rw [ho]; simp [Op.operands])) fun t _ => ht'.at_ t
  rw [hx] at hX
  rw [hy] at hY
  obtain ⟨hsz0, hsz, vs, hown, hL⟩ := hr.ch id _ hg
  have e1 := hX.own_inv
  obtain ⟨A, cap, e2, e3, e4⟩ := hr.rowForm hg
  have hle : b ≤ cap := by rw [List.length_map] at e3; omega
  have rb : ∀ c, (Instr.sliceBound (a.eval y) cap c).run P w = .ok b w := fun c => by
    have h4 : (0 : Int) ≤ (b : Int) ∧ (b : Int) ≤ (cap : Int) := by omega
    simp only [Instr.sliceBound, hY.int_inv.1, asIntOf, Sem.run_bind, Sem.run_pure, Result.andThen_ok, h4, and_self, if_true, Int.toNat_natCast]
  have hrun : (execOp a.eval o).run P w = .ok (.value (.slice A b cap)) w := by
    have hadd : A.map (fun x => x.add 0) = A := by
      cases A with
      | none => rfl
      | some ad => simp [Addr.add]
    simp [execOp, ho, Instr.sliceAt, run_underlying (sliceE_spec ht), Instr.slice, e1, e2, Instr.sliceBounds, rb, sizeQ_run hz, hadd]
  have hnew := hr.turn (id := id) (u := .slice A b cap) (h' := (id, .row e sz ((l.take b).map f)) :: h) (c' := .row e sz ((l.take b).map f)) (w' := w)
    (fun i c hi hc => by
      rw [hget_cons, if_neg (fun e => hi e.symm)] at hc
      exact ⟨hc, .inr (loneH_get hlo i c hc)⟩)
    (by rw [hget_cons, if_pos rfl])
    ⟨hsz0, fun c hc => by
      obtain ⟨q, hq, rfl⟩ := List.mem_map.1 hc
      exact hsz _ (List.mem_map_of_mem (List.mem_of_mem_take hq)), vs.take (b * sz), by
        rw [upd_eq]
        have hlen : ((l.take b).map f).length = b := by simp; omega
        have hbb : b * sz ≤ l.length * sz := Nat.mul_le_mul_right _ hb
        have hvl := hown.1
        rw [List.length_map] at hvl
        rw [hlen]
        refine ⟨by rw [List.length_take]; omega, ?_⟩
        rcases hown.2 with ⟨h1, h2⟩ | ⟨g, cap', cur, h1, _, h3, h4, h5', h6, h7⟩
        · rw [h1] at e2
          injection e2 with q1 q2 q3
          rw [List.length_map] at h2
          exact .inl ⟨by rw [← q1, ← q3, show b = 0 by omega], by omega⟩
        · rw [h1] at e2
          injection e2 with q1 q2 q3
          subst q1; subst q3
          refine .inr ⟨g, cap', cur, rfl, Nat.zero_le _, h3, hle, h5', h6, ?_⟩
          rw [← h7, List.take_take]
          rw [List.length_map]
          congr 1; omega, by
        have := hL.take (b * sz)
        rw [show (l.take b).map f = (l.map f).take b by rw [List.map_take]]
        rwa [show ((l.map f).take b).flatten = (l.map f).flatten.take (b * sz) from ?_]
        have : ∀ (xs : List (List AV)) (b : Nat), (∀ c ∈ xs, c.length = sz) → (xs.take b).flatten = xs.flatten.take (b * sz) := by
          intro xs
          induction xs with
          | nil => intro b _; simp
          | cons x xs ih =>
            intro b hs
            cases b with
            | zero => simp
            | succ b =>
              have hx1 := hs x List.mem_cons_self
              rw [List.take_succ_cons, List.flatten_cons, List.flatten_cons, ih b (fun c hc => hs c (List.mem_cons_of_mem _ hc)), List.take_append, List.take_of_length_le (l := x) (by rw [hx1, Nat.add_mul]; omega), hx1, show (b + 1) * sz - sz = b * sz by rw [Nat.add_mul]; omega]
        exact this _ _ hsz⟩
    rfl rfl rfl (Nat.le_refl _) (fun _ _ _ => rfl)
    (fun g hv => .inl ⟨_, hg, by rw [e2]; cases A <;> exact hv⟩) (.inl (Nat.ble_eq ▸ h5))
  unfold Oper.wp
  rw [hrun]
  refine hk E σ _ _ _ hnew ((ht'.kill id (Nat.ble_eq ▸ h5) _).putS hd ?_)
  have h2 := VR.own (σ := σ) (ι := upd ι id (.slice A b cap)) id (by rw [upd_eq]; cases A <;> rfl)
  rwa [upd_eq] at h2
theorem ao_cut {α : Type} {t e : TypeId} {x y : Operand} {id sz b : Nat} {k : IntKind} {l : List α} {f : α → List AV} (ho : o.op = .slice t x none (some y) none) (hx : evA s x = .own id)
    (hg : hget h id = some (.row e sz (l.map f))) (ht : sliceE P t = some e) (hz : sizeQ P e sz = true) (hy : evA s y = .int k b) (hb : b ≤ l.length) (h5 : Nat.ble 5 id = true) (hlo : loneH id h = true) (hgd : o.guard = none) (hco : constsOk o = true) (hd : dstOk n o.dst = true)
    (hk : O P n ops Q rest (putS (killS id s) o.dst (.own id)) ((id, .row e sz ((l.take b).map f)) :: h)) : O P n ops Q (o :: rest) s h := ⟨aops_one hgd (a1_cut ho ht hz hx hg hy hb h5 hlo hco hd hk.out)⟩
end
end Go.Proofs.YtfjoaeghnfkdlaaDoor
namespace Go.Proofs.YtfjoaeghnfkdlaaDoor
set_option maxRecDepth 100000
open Go.RowKit
section
variable {P : Program} {n : Md} {Q : Exit → Slots → Heap → Prop} {s : Slots} {h : Heap} {ops : Array Oper} {rest : List Oper} {o : Oper} {K : Slots → Prop}
def lendA (h : Heap) : Nat → AV → AV
  | 0, x => x
  | k + 1, x => bif pureA x then x else match x with
    | .own id => match hget h id with
      | some (.row _ sz xs) => .lst sz xs
      | _ => .own id
    | .ptr id off => match hget h id with
      | some (.blk _ cs) => bif pureL (cs.map (lendA h k)) then .ref ((cs.map (lendA h k)).drop off) else .ptr id off
      | _ => .ptr id off
    | .agg cs => .agg (cs.map (lendA h k))
    | .tup cs => .tup (cs.map (lendA h k))
    | .fn f xs ys => .fn f (xs.map (lendA h k)) (ys.map (lendA h k))
    | x => x
mutual
def flatA : AV → Bool
  | .lst _ _ | .ref _ | .own _ | .ptr _ _ | .eptr _ _ _ _ | .part _ _ | .pptr _ _ _ => false
  | .agg cs | .tup cs => flatL cs
  | .fn _ xs ys => flatL xs && flatL ys
  | _ => true
def flatL : List AV → Bool
  | [] => true
  | x :: xs => flatA x && flatL xs
end
/-! ## The tail of a row of the call's own is cleared -/
theorem turn_dummy {α : Type} (f : α → List AV) (id : Nat) (e : TypeId) (sz : Nat) (hsz : 0 < sz) (hf : freshAll id s h = true) : Turns n s h s ((id, .row e sz (([] : List α).map f)) :: h) := by
  intro E σ ι a w hr ht
  simp only [freshAll, Bool.and_eq_true, Nat.ble_eq] at hf
  refine ⟨σ, upd ι id (.slice none 0 0), ?_, ht.upd hf.1.1 hf.1.2 (.slice none 0 0)⟩
  refine hr.turn (c' := .row e sz []) ?_ (by rw [hget_cons, if_pos rfl]; rfl) ⟨hsz, by simp, [], by rw [upd_eq]; exact World.ownsRow_nil w 0 e sz, L2.nil _⟩ rfl rfl rfl (Nat.le_refl _) (fun _ _ _ => rfl) (fun g hg => by cases hg) (.inl hf.1.1)
  intro i c hi hc
  rw [hget_cons, if_neg (fun e => hi e.symm)] at hc
  exact ⟨hc, .inr (freshH_get hf.2 i c hc).2⟩
theorem turn_nil (sz : Nat) {t : Nat} (hs : get s t = .nils) : Turns n s h ((t, .lst sz []) :: s) h := fun E σ ι a w hr ht => by
  refine ⟨σ, ι, hr, ht.size, ht.defers, fun u => ?_⟩
  rw [get_cons]
  split
  · rename_i e; subst e
    have h2 := ht.at_ t
    rw [hs] at h2
    generalize a.tmps.getD t undef = q at h2 ⊢
    cases h2 with
    | base _ _ h0 => cases h0 with | nils => exact .base _ _ (.empty _ _ _ (by simp))
  · exact ht.at_ u
theorem ok_indexE {α : Type} [Inhabited α] {l : List α} {f : α → List AV} {t e : TypeId} {x y : Operand} {sz : Nat} {ik : IntKind} {i : Nat} {z : α} (hz0 : l.getD i default = z) (ho : o.op = .indexAddr t x y) (hx : evA s x = .lst sz (l.map f))
    (hy : evA s y = .int ik i) (ht : sliceE P t = some e) (hz : sizeQ P e sz = true) (hi : i < l.length) : OkO P o s h (.ref (f z)) := hz0 ▸ ok_index ho ht hz hx hy hi
end
end Go.Proofs.YtfjoaeghnfkdlaaDoor
