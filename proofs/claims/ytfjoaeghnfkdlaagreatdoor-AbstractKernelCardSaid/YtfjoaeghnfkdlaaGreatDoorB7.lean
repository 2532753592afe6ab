/- Functions that turn blocks that they are handed. No condition. -/
import Derived.Test.YtfjoaeghnfkdlaaGreatDoorB6
set_option linter.unusedSimpArgs false
set_option linter.unusedVariables false
set_option maxHeartbeats 1000000
set_option maxRecDepth 100000
namespace Go.Proofs.YtfjoaeghnfkdlaaGreatDoor
open Go.RowKit
mutual
def qI (ids : List Nat) : AV -> Bool
 | .own i | .ptr i _ | .eptr i _ _ _ | .part i _ | .pptr i _ _ => ids.any (Nat.beq i)
 | .agg cs => wJ ids cs
 | .tup cs => wJ ids cs
 | .fn _ xs ys => wJ ids xs && wJ ids ys
 | _ => true
def wJ (ids : List Nat) : List AV -> Bool
 | [] => true
 | x :: xs => qI ids x && wJ ids xs
end
theorem vP {ids : List Nat} : ∀ {cs : List AV}, wJ ids cs = true -> ∀ (j : Nat) (c : AV), cs[j]? = some c -> qI ids c = true
 | [], _, j, c, h => by simp at h
 | x :: xs, hp, 0, c, h => by simp at h; subst h; simp only [wJ, Bool.and_eq_true] at hp; exact hp.1
 | x :: xs, hp, j + 1, c, h => by simp only [wJ, Bool.and_eq_true] at hp; exact vP hp.2 j c (by simpa using h)
theorem VR.agree {σ : Sig} {ι ι' : Nat -> Value} {ids : List Nat} (he : ∀ i ∈ ids, ι i = ι' i) {x : AV} {v : Value} (h : VR σ ι x v) : qI ids x = true -> VR σ ι' x v := by
 have mem : ∀ {i : Nat}, ids.any (Nat.beq i) = true -> i ∈ ids := fun hb => by
  obtain ⟨j, hj, hb⟩ := List.any_eq_true.1 hb
  rw [Nat.eq_of_beq_eq_true hb]; exact hj
 induction h with
 | base x v h => exact fun _ => .base _ _ h
 | own i h1 =>
  intro h
  have h2 := he i (mem (by simpa [qI] using h))
  rw [h2] at h1 ⊢
  exact .own i h1
 | ptr i off g h => intro hb; exact .ptr i off g (by rw [<- he i (mem (by simpa [qI] using hb))]; exact h)
 | eptr i sz a b g h => intro hb; exact .eptr i sz a b g (by rw [<- he i (mem (by simpa [qI] using hb))]; exact h)
 | part i j vs v h hj h1 => intro hb; exact .part i j vs v (by rw [<- he i (mem (by simpa [qI] using hb))]; exact h) hj h1
 | pptr i j off g vs u h hj hg => intro hb; exact .pptr i j off g vs u (by rw [<- he i (mem (by simpa [qI] using hb))]; exact h) hj hg
 | agg cs vs h1 h2 ih => intro h; exact .agg cs vs h1 fun j c v hc hv => ih j c v hc hv (vP (by simpa [qI] using h) j c hc)
 | tup cs vs h1 h2 ih => intro h; exact .tup cs vs h1 fun j c v hc hv => ih j c v hc hv (vP (by simpa [qI] using h) j c hc)
 | fn f xs ys us vs h1 h2 h3 h4 ih1 ih2 =>
  intro h
  simp only [qI, Bool.and_eq_true] at h
  exact .fn f xs ys us vs h1 (fun j c v hc hv => ih1 j c v hc hv (vP h.1 j c hc)) h3 fun j c v hc hv => ih2 j c v hc hv (vP h.2 j c hc)
theorem VR.same {σ : Sig} {ι ι' : Nat -> Value} {x : AV} {v : Value} (h : VR σ ι x v) : (∀ i, jg i x = true -> ι i = ι' i) -> VR σ ι' x v := by
 induction h with
 | base x v h => exact fun _ => .base _ _ h
 | own i h1 =>
  intro h
  have h2 := h i (by simp [jg])
  rw [h2] at h1 ⊢
  exact .own i h1
 | ptr i off g h => intro hb; exact .ptr i off g (by rw [<- hb i (by simp [jg])]; exact h)
 | eptr i sz a b g h => intro hb; exact .eptr i sz a b g (by rw [<- hb i (by simp [jg])]; exact h)
 | part i j vs v h hj h1 => intro hb; exact .part i j vs v (by rw [<- hb i (by simp [jg])]; exact h) hj h1
 | pptr i j off g vs u h hj hg => intro hb; exact .pptr i j off g vs u (by rw [<- hb i (by simp [jg])]; exact h) hj hg
 | agg cs vs h1 h2 ih =>
  intro h; exact .agg cs vs h1 fun j c v hc hv => ih j c v hc hv fun i hi => h i (by
   cases hn : jg i (.agg cs) with
   | true => rfl
   | false => rw [qA (by simpa [jg] using hn) j c hc] at hi; cases hi)
 | tup cs vs h1 h2 ih =>
  intro h; exact .tup cs vs h1 fun j c v hc hv => ih j c v hc hv fun i hi => h i (by
   cases hn : jg i (.tup cs) with
   | true => rfl
   | false => rw [qA (by simpa [jg] using hn) j c hc] at hi; cases hi)
 | fn f xs ys us vs h1 h2 h3 h4 ih1 ih2 =>
  intro h
  refine .fn f xs ys us vs h1 (fun j c v hc hv => ih1 j c v hc hv fun i hi => h i ?_) h3 fun j c v hc hv => ih2 j c v hc hv fun i hi => h i ?_
  ·cases hn : jg i (.fn f xs ys) with
   | true => rfl
   | false => simp only [jg, Bool.or_eq_false_iff] at hn; rw [qA hn.1 j c hc] at hi; cases hi
  ·cases hn : jg i (.fn f xs ys) with
   | true => rfl
   | false => simp only [jg, Bool.or_eq_false_iff] at hn; rw [qA hn.2 j c hc] at hi; cases hi
def qB (ids : List Nat) : j8 -> Bool
 | [] => true
 | (i, .blk _ cs) :: r => ids.any (Nat.beq i) && wJ ids cs && qB ids r
 | (i, .row _ _ _) :: r => ids.any (Nat.beq i) && qB ids r
 | (i, .sem _) :: r => ids.any (Nat.beq i) && qB ids r
theorem wm {ids : List Nat} : ∀ {h : j8}, qB ids h = true -> ∀ i c, j9 h i = some c -> i ∈ ids ∧ match c with | .blk _ cs => wJ ids cs = true | _ => True
 | [], _, i, c, hc => by cases hc
 | (i', .blk ty cs) :: r, hf, i, c, hc => by
  simp only [qB, Bool.and_eq_true] at hf
  rw [j7] at hc
  split at hc
  ·rename_i e; subst e; cases hc
   obtain ⟨j, hj, hb⟩ := List.any_eq_true.1 hf.1.1
   exact ⟨by rw [Nat.eq_of_beq_eq_true hb]; exact hj, hf.1.2⟩
  ·exact wm hf.2 i c hc
 | (i', .row e sz xs) :: r, hf, i, c, hc => by
  simp only [qB, Bool.and_eq_true] at hf
  rw [j7] at hc
  split at hc
  ·rename_i e; subst e; cases hc
   obtain ⟨j, hj, hb⟩ := List.any_eq_true.1 hf.1
   exact ⟨by rw [Nat.eq_of_beq_eq_true hb]; exact hj, trivial⟩
  ·exact wm hf.2 i c hc
 | (i', .sem _) :: r, hf, i, c, hc => by
  simp only [qB, Bool.and_eq_true] at hf
  rw [j7] at hc
  split at hc
  ·rename_i e; subst e; cases hc
   obtain ⟨j, hj, hb⟩ := List.any_eq_true.1 hf.1
   exact ⟨by rw [Nat.eq_of_beq_eq_true hb]; exact hj, trivial⟩
  ·exact wm hf.2 i c hc
def jI (h : j8) : List Nat := h.map (·.1)
theorem wq {h : j8} {i : Nat} {c : Chunk} (hc : j9 h i = some c) : i ∈ jI h := by
 induction h with
 | nil => cases hc
 | cons p r ih =>
  obtain ⟨j, d⟩ := p
  rw [j7] at hc
  split at hc
  ·rename_i e; subst e; simp [jI]
  ·simp only [jI, List.map_cons, List.mem_cons]; exact .inr (ih hc)
def xY : List Nat -> j6 -> j6
 | [], s => s
 | i :: r, s => xY r (qv i s)
theorem Jk : ∀ (ids : List Nat) (s : j6) (t : Nat), get (xY ids s) t = .undef ∨ (get (xY ids s) t = get s t ∧ ∀ i ∈ ids, jg i (get s t) = false)
 | [], s, t => .inr ⟨rfl, fun i hi => by cases hi⟩
 | i :: r, s, t => by
  rw [xY]
  rcases Jk r (qv i s) t with h | ⟨h1, h2⟩
  ·exact .inl h
  ·rw [wX] at h1 h2
   by_cases hid : jg i (get s t) = true
   ·rw [if_pos hid] at h1; exact .inl h1
   ·rw [if_neg hid] at h1 h2
    refine .inr ⟨h1, fun j hj => ?_⟩
    rcases List.mem_cons.1 hj with rfl | hj
    ·simpa using hid
    ·exact h2 j hj
def Vy (ids : List Nat) (h : j8) : Bool := ids.all fun i => wl i h
def vO : List Nat -> j8 -> j8
 | [], h => h
 | i :: r, h => vO r (yf i h)
theorem xa : ∀ (ids : List Nat) (h : j8) (i : Nat), j9 (vO ids h) i = if i ∈ ids then none else j9 h i
 | [], h, i => by simp [vO]
 | j :: r, h, i => by
  rw [vO, xa, vE]
  by_cases h1 : i ∈ r
  ·simp [h1]
  ·by_cases h2 : i = j
   ·subst h2; simp
   ·simp [h1, h2]
theorem xi (h1 h2 : j8) (i : Nat) : j9 (h1 ++ h2) i = match j9 h1 i with | some c => some c | none => j9 h2 i := by
 induction h1 with
 | nil => rfl
 | cons p r ih =>
  obtain ⟨j, d⟩ := p
  rw [List.cons_append, j7, j7]
  split
  ·rfl
  ·exact ih
mutual
def ren (ρ : Nat -> Nat) : AV -> AV
 | .own i => .own (ρ i)
 | .ptr i o => .ptr (ρ i) o
 | .eptr i sz a b => .eptr (ρ i) sz a b
 | .part i j => .part (ρ i) j
 | .pptr i j off => .pptr (ρ i) j off
 | .agg cs => .agg (y3 ρ cs)
 | .tup cs => .tup (y3 ρ cs)
 | .fn f xs ys => .fn f (y3 ρ xs) (y3 ρ ys)
 | x => x
def y3 (ρ : Nat -> Nat) : List AV -> List AV
 | [] => []
 | x :: xs => ren ρ x :: y3 ρ xs
end
theorem qm (ρ : Nat -> Nat) : ∀ (cs : List AV) (j : Nat), (y3 ρ cs)[j]? = (cs[j]?).map (ren ρ)
 | [], j => by simp [y3]
 | x :: xs, 0 => by simp [y3]
 | x :: xs, j + 1 => by simp [y3, qm ρ xs j]
theorem jU (ρ : Nat -> Nat) : ∀ (cs : List AV), (y3 ρ cs).length = cs.length
 | [] => rfl
 | x :: xs => by simp [y3, jU ρ xs]
def j1g (ρ : Nat -> Nat) : Chunk -> Chunk
 | .blk ty cs => .blk ty (y3 ρ cs)
 | .row e sz xs => .row e sz xs
 | .sem c => .sem c
def wb (ρ : Nat -> Nat) : j8 -> j8
 | [] => []
 | (i, c) :: r => (ρ i, j1g ρ c) :: wb ρ r
theorem zD {ρ : Nat -> Nat} {R : AV -> Value -> Prop} {R' : AV -> Value -> Prop} {cs : List AV} {vs : List Value} (h : ∀ (j : Nat) (c : AV) (v : Value), (y3 ρ cs)[j]? = some c -> vs[j]? = some v -> ∀ x, ren ρ x = c -> R' x v) :
  ∀ (j : Nat) (c : AV) (v : Value), cs[j]? = some c -> vs[j]? = some v -> R' c v := fun j c v hc hv => h j (ren ρ c) v (by rw [qm, hc]; rfl) hv c rfl
theorem VR0.unren {σ : Sig} {ρ : Nat -> Nat} {y : AV} {v : Value} (h : VR0 σ y v) : ∀ x, ren ρ x = y -> VR0 σ x v := by
 induction h with
 | undef v => intro x hx; cases x <;> simp only [ren] at hx <;> first | (cases hx; done) | exact .undef v
 | int k n h => intro x hx; cases x <;> simp only [ren] at hx <;> first | (cases hx; done) | (cases hx; exact .int k n h)
 | bool b => intro x hx; cases x <;> simp only [ren] at hx <;> first | (cases hx; done) | (cases hx; exact .bool b)
 | str s => intro x hx; cases x <;> simp only [ren] at hx <;> first | (cases hx; done) | (cases hx; exact .str s)
 | nils => intro x hx; cases x <;> simp only [ren] at hx <;> first | (cases hx; done) | exact .nils
 | empty sz A cap h => intro x hx; cases x <;> simp only [ren] at hx <;> first | (cases hx; done) | (cases hx; exact .empty sz A cap h)
 | lst sz xs b off cap g h1 h2 h3 h4 h5 ih => intro x hx; cases x <;> simp only [ren] at hx <;> first | (cases hx; done) | (cases hx; exact .lst sz xs b off cap g h1 h2 h3 h4 h5)
 | ref cs b off g h4 h5 ih => intro x hx; cases x <;> simp only [ren] at hx <;> first | (cases hx; done) | (cases hx; exact .ref cs b off g h4 h5)
 | agg cs vs h1 h2 ih =>
  intro x hx; cases x <;> simp only [ren] at hx <;> first | (cases hx; done) | skip
  cases hx
  exact .agg _ vs (by rw [<- h1, jU]) (zD (R := VR0 σ) ih)
 | tup cs vs h1 h2 ih =>
  intro x hx; cases x <;> simp only [ren] at hx <;> first | (cases hx; done) | skip
  cases hx
  exact .tup _ vs (by rw [<- h1, jU]) (zD (R := VR0 σ) ih)
 | nilp => intro x hx; cases x <;> simp only [ren] at hx <;> first | (cases hx; done) | exact .nilp
 | fn f xs ys us vs h1 h2 h3 h4 ih1 ih2 =>
  intro x hx; cases x <;> simp only [ren] at hx <;> first | (cases hx; done) | skip
  cases hx
  exact .fn f _ _ us vs (by rw [<- h1, jU]) (zD (R := VR0 σ) ih1) (by rw [<- h3, jU]) (zD (R := VR0 σ) ih2)
 | nilf => intro x hx; cases x <;> simp only [ren] at hx <;> first | (cases hx; done) | exact .nilf
theorem VR.unren {σ : Sig} {ι : Nat -> Value} {ρ : Nat -> Nat} {y : AV} {v : Value} (h : VR σ ι y v) : ∀ x, ren ρ x = y -> VR σ (fun i => ι (ρ i)) x v := by
 induction h with
 | base y v h => exact fun x hx => .base _ _ (h.unren x hx)
 | own i h1 =>
  intro x hx; cases x <;> simp only [ren] at hx <;> first | (cases hx; done) | skip
  rename_i k
  cases hx
  exact VR.own (ι := fun i => ι (ρ i)) k h1
 | ptr i off g h =>
  intro x hx; cases x <;> simp only [ren] at hx <;> first | (cases hx; done) | skip
  cases hx; exact .ptr _ _ g h
 | eptr i sz a b g h =>
  intro x hx; cases x <;> simp only [ren] at hx <;> first | (cases hx; done) | skip
  cases hx; exact .eptr _ _ _ _ g h
 | part i j vs v h hj h1 =>
  intro x hx; cases x <;> simp only [ren] at hx <;> first | (cases hx; done) | skip
  cases hx; exact .part _ _ vs _ h hj h1
 | pptr i j off g vs u h hj hg =>
  intro x hx; cases x <;> simp only [ren] at hx <;> first | (cases hx; done) | skip
  cases hx; exact .pptr _ _ _ g vs u h hj hg
 | agg cs vs h1 h2 ih =>
  intro x hx; cases x <;> simp only [ren] at hx <;> first | (cases hx; done) | skip
  cases hx
  exact .agg _ vs (by rw [<- h1, jU]) (zD (R := VR σ ι) ih)
 | tup cs vs h1 h2 ih =>
  intro x hx; cases x <;> simp only [ren] at hx <;> first | (cases hx; done) | skip
  cases hx
  exact .tup _ vs (by rw [<- h1, jU]) (zD (R := VR σ ι) ih)
 | fn f xs ys us vs h1 h2 h3 h4 ih1 ih2 =>
  intro x hx; cases x <;> simp only [ren] at hx <;> first | (cases hx; done) | skip
  cases hx
  exact .fn f _ _ us vs (by rw [<- h1, jU]) (zD (R := VR σ ι) ih1) (by rw [<- h3, jU]) (zD (R := VR σ ι) ih2)
theorem VR.reren {σ : Sig} {ι ι' : Nat -> Value} {ρ : Nat -> Nat} {ids : List Nat} (he : ∀ i ∈ ids, ι i = ι' (ρ i)) {x : AV} {v : Value} (h : VR σ ι x v) : qI ids x = true -> VR σ ι' (ren ρ x) v := by
 have mem : ∀ {i : Nat}, ids.any (Nat.beq i) = true -> i ∈ ids := fun hb => by
  obtain ⟨j, hj, hb⟩ := List.any_eq_true.1 hb
  rw [Nat.eq_of_beq_eq_true hb]; exact hj
 have el : ∀ {cs : List AV} {vs : List Value}, wJ ids cs = true -> (∀ (j : Nat) (c : AV) (v : Value), cs[j]? = some c -> vs[j]? = some v -> qI ids c = true -> VR σ ι' (ren ρ c) v) ->
   ∀ (j : Nat) (c : AV) (v : Value), (y3 ρ cs)[j]? = some c -> vs[j]? = some v -> VR σ ι' c v := fun {cs vs} hcl ih j c v hc hv => by
  rw [qm] at hc
  cases hq : cs[j]? with
  | none => rw [hq] at hc; cases hc
  | some q => rw [hq] at hc; cases hc; exact ih j q v hq hv (vP hcl j q hq)
 induction h with
 | base x v h =>
  intro _
  refine .base _ _ ?_
  have pr : ∀ {y : AV} {v : Value}, VR0 σ y v -> VR0 σ (ren ρ y) v := by
   intro y v h
   induction h with
   | undef v => exact .undef v
   | int k n h => exact .int k n h
   | bool b => exact .bool b
   | str s => exact .str s
   | nils => exact .nils
   | empty sz A cap h => exact .empty sz A cap h
   | lst sz xs b off cap g h1 h2 h3 h4 h5 ih => exact .lst sz xs b off cap g h1 h2 h3 h4 h5
   | ref cs b off g h4 h5 ih => exact .ref cs b off g h4 h5
   | agg cs vs h1 h2 ih =>
    refine .agg _ vs (by rw [jU]; exact h1) fun j c v hc hv => ?_
    rw [qm] at hc
    cases hq : cs[j]? with
    | none => rw [hq] at hc; cases hc
    | some q => rw [hq] at hc; cases hc; exact ih j q v hq hv
   | tup cs vs h1 h2 ih =>
    refine .tup _ vs (by rw [jU]; exact h1) fun j c v hc hv => ?_
    rw [qm] at hc
    cases hq : cs[j]? with
    | none => rw [hq] at hc; cases hc
    | some q => rw [hq] at hc; cases hc; exact ih j q v hq hv
   | nilp => exact .nilp
   | fn f xs ys us vs h1 h2 h3 h4 ih1 ih2 =>
    refine .fn f _ _ us vs (by rw [jU]; exact h1) (fun j c v hc hv => ?_) (by rw [jU]; exact h3) fun j c v hc hv => ?_
    ·rw [qm] at hc
     cases hq : xs[j]? with
     | none => rw [hq] at hc; cases hc
     | some q => rw [hq] at hc; cases hc; exact ih1 j q v hq hv
    ·rw [qm] at hc
     cases hq : ys[j]? with
     | none => rw [hq] at hc; cases hc
     | some q => rw [hq] at hc; cases hc; exact ih2 j q v hq hv
   | nilf => exact .nilf
  exact pr h
 | own i h1 =>
  intro h
  have h2 := he i (mem (by simpa [qI] using h))
  rw [h2] at h1 ⊢
  exact .own (ρ i) h1
 | ptr i off g h => intro hb; exact .ptr (ρ i) off g (by rw [<- he i (mem (by simpa [qI] using hb))]; exact h)
 | eptr i sz a b g h => intro hb; exact .eptr (ρ i) sz a b g (by rw [<- he i (mem (by simpa [qI] using hb))]; exact h)
 | part i j vs v h hj h1 => intro hb; exact .part (ρ i) j vs v (by rw [<- he i (mem (by simpa [qI] using hb))]; exact h) hj h1
 | pptr i j off g vs u h hj hg => intro hb; exact .pptr (ρ i) j off g vs u (by rw [<- he i (mem (by simpa [qI] using hb))]; exact h) hj hg
 | agg cs vs h1 h2 ih => intro h; exact .agg _ vs (by rw [jU]; exact h1) (el (by simpa [qI] using h) ih)
 | tup cs vs h1 h2 ih => intro h; exact .tup _ vs (by rw [jU]; exact h1) (el (by simpa [qI] using h) ih)
 | fn f xs ys us vs h1 h2 h3 h4 ih1 ih2 =>
  intro h
  simp only [qI, Bool.and_eq_true] at h
  exact .fn f _ _ us vs (by rw [jU]; exact h1) (el h.1 ih1) (by rw [jU]; exact h3) (el h.2 ih2)
def Yb (ρ : Nat -> Nat) (ids : List Nat) : Bool := ids.all fun i => ids.all fun j => Nat.beq i j || !Nat.beq (ρ i) (ρ j)
theorem zK {ρ : Nat -> Nat} {ids : List Nat} (h : Yb ρ ids = true) {i j : Nat} (hi : i ∈ ids) (hj : j ∈ ids) (he : ρ i = ρ j) : i = j := by
 have := List.all_eq_true.1 (List.all_eq_true.1 h i hi) j hj
 rcases (Bool.or_eq_true _ _).mp this with h1 | h1
 ·exact Nat.eq_of_beq_eq_true h1
 ·rw [he] at h1; simp at h1
theorem wa {ρ : Nat -> Nat} : ∀ {h : j8} {ids : List Nat}, (∀ i ∈ jI h, i ∈ ids) -> (∀ i ∈ ids, ∀ j ∈ ids, ρ i = ρ j -> i = j) -> ∀ i ∈ ids, j9 (wb ρ h) (ρ i) = (j9 h i).map (j1g ρ)
 | [], ids, _, _, i, _ => rfl
 | (j, c) :: r, ids, hs, hinj, i, hi => by
  rw [wb, j7, j7]
  by_cases e : j = i
  ·subst e; simp
  ·rw [if_neg e, if_neg (fun e2 => e (hinj j (hs j (by simp [jI])) i hi e2))]
   exact wa (fun k hk => hs k (by simp only [jI, List.map_cons, List.mem_cons]; exact .inr hk)) hinj i hi
theorem xm {ρ : Nat -> Nat} : ∀ {h : j8} {k : Nat} {c : Chunk}, j9 (wb ρ h) k = some c -> ∃ i ∈ jI h, ρ i = k
 | [], k, c, hc => by cases hc
 | (j, d) :: r, k, c, hc => by
  rw [wb, j7] at hc
  split at hc
  ·rename_i e; exact ⟨j, by simp [jI], e⟩
  ·obtain ⟨i, hi, e⟩ := xm hc
   exact ⟨i, by simp only [jI, List.map_cons, List.mem_cons]; exact .inr hi, e⟩
def vF (ρ : Nat -> Nat) : List Nat -> List Nat
 | [] => []
 | i :: r => bif Nat.ble 5 i then ρ i :: vF ρ r else vF ρ r
theorem vi {ρ : Nat -> Nat} : ∀ {ids : List Nat} {i : Nat}, i ∈ ids -> 5 <= i -> ρ i ∈ vF ρ ids
 | j :: r, i, hi, h5 => by
  rw [vF]
  rcases List.mem_cons.1 hi with rfl | hi
  ·rw [Nat.ble_eq.mpr h5]; simp
  ·have := vi (ρ := ρ) hi h5
   cases Nat.ble 5 j
   ·exact this
   ·exact List.mem_cons_of_mem _ this
section
variable {P : Program} {n : Md} {Q : Exit -> j6 -> j8 -> Prop} {s : j6} {h : j8} {ops : Array Oper} {rest : List Oper} {o : Oper} {K : j6 -> Prop}
def FnH (P : Program) (f : FuncId) (args : List AV) (hin : j8) (R : AV -> j8 -> Prop) : Prop :=
 qw P f ∧ ∀ (may : List (Nat × Nat)) (pin : List (Nat × Value)) (σ : Sig) (ι : Nat -> Value) (w : World) (vs : List Value), Rel ⟨w, σ, may, pin, []⟩ σ ι hin w -> L2 (VR σ ι) args vs ->
  Calls P f vs.toArray w (fun e w' => ∃ u r h' σ' ι', e = .returned u ∧ R r h' ∧ VR σ' ι' r u ∧ Rel ⟨w, σ, may, pin, []⟩ σ' ι' h' w')
theorem qo {f : FuncId} {fn : Func} {c : Code} {args : List AV} {hin : j8} {R : AV -> j8 -> Prop} (hf : P.funcs[f]? = some fn) (he : qw P f) (hb : fn.body = some c) (hl : Nat.ble args.length fn.ntmps = true)
  (hwp : W P { n := fn.ntmps } c (JC P fn.results.toList R) (vc args 0) hin) : FnH P f args hin R :=
 ⟨he, fun may pin σ ι w vs hr hv => j03 hf hb (Nat.ble_eq ▸ hl) hwp.out hr hv⟩
theorem FnH.mono {f : FuncId} {args : List AV} {hin : j8} {R R' : AV -> j8 -> Prop} (hf : FnH P f args hin R) (hm : ∀ r h, R r h -> R' r h) : FnH P f args hin R' :=
 ⟨hf.1, fun may pin σ ι w vs hr hv => (hf.2 may pin σ ι w vs hr hv).mono fun e w' ⟨u, r, h', σ', ι', h1, h2, h3, h4⟩ => ⟨u, r, h', σ', ι', h1, hm _ _ h2, h3, h4⟩⟩
def YP (ids : List Nat) : Bool := ids.all fun i => Nat.blt i 10 || Nat.ble 100 i
theorem Vd {ids : List Nat} (h : YP ids = true) : ∀ i ∈ ids, i < 10 ∨ 100 <= i := fun i hi => by
 have := List.all_eq_true.1 h i hi
 rw [Bool.or_eq_true] at this
 exact this.imp (fun q => by simpa [Nat.blt_eq] using q) (fun q => Nat.ble_eq ▸ q)
theorem jL (ρ : Nat -> Nat) {f : FuncId} {args : List AV} {hin : j8} {R : AV -> j8 -> Prop} (hf : FnH P f args hin R) (hg : o.guard = none) (hc : Q8 s o = some (f, y3 ρ args)) (hsub : LeH h (wb ρ hin)) (hlow : YP (jI hin) = true) (hinj : Yb ρ (jI hin) = true)
  (hrow : (vF ρ (jI hin)).all (Nat.ble 5) = true) (hlone : Vy (vF ρ (jI hin)) (vO ((jI hin).map ρ) h) = true) (hco : qC o = true) (hdo : qj n o.dst = true)
  (hk : ∀ r h', R r h' -> qI (jI hin) r = true ∧ qB (jI hin) h' = true ∧ O P n ops Q rest (jX (xY (vF ρ (jI hin)) s) o.dst (ren ρ r)) (wb ρ h' ++ vO ((jI hin).map ρ) h)) : O P n ops Q (o :: rest) s h := by
 refine ⟨v8 hg fun E σ ι a w hr ht => ?_⟩
 have hx : ∀ x ∈ o.op.operands.toList, VR σ ι (evA s x) (a.eval x) := fun x hx => jZ (List.all_eq_true.1 hco x hx) fun t _ => ht.at_ t
 obtain ⟨vs, h1, h2⟩ := xb (P := P) (w := w) hc hf.1 hx
 unfold Oper.wp
 rw [h1, Oper.upon_enter]
 have hinj' : ∀ i ∈ jI hin, ∀ j ∈ jI hin, ρ i = ρ j -> i = j := fun i hi j hj e => zK hinj hi hj e
 have hlt : ∀ i ∈ jI hin, i < 10 ∨ 100 <= i := Vd hlow
 have hin1 : ∀ i c, j9 hin i = some c -> j9 h (ρ i) = some (j1g ρ c) := fun i c hc => hsub (ρ i) _ (by rw [wa (fun _ h => h) hinj' i (wq hc), hc]; rfl)
 have h2' : L2 (VR σ (fun i => ι (ρ i))) args vs := ⟨by rw [<- jU ρ args]; exact h2.1, fun j c v hc hv => (h2.2 j (ren ρ c) v (by rw [qm, hc]; rfl) hv).unren c rfl⟩
 let may := (jI hin).flatMap fun i => (Yp (ι (ρ i))).map fun g => (i, g)
 let pin := ((jI hin).filter (· < 5)).map fun i => (i, ι (ρ i))
 have hmay : ∀ i g, (i, g) ∈ may ↔ i ∈ jI hin ∧ Feet (ι (ρ i)) g := fun i g => by
  simp only [may, List.mem_flatMap, List.mem_map, Prod.mk.injEq]
  constructor
  ·rintro ⟨j, hj, g', h6, rfl, rfl⟩; exact ⟨hj, zP.1 h6⟩
  ·rintro ⟨hj, h6⟩; exact ⟨i, hj, g, zP.2 h6, rfl, rfl⟩
 have hr1 : Rel ⟨w, σ, may, pin, []⟩ σ (fun i => ι (ρ i)) hin w := by
  refine ⟨rfl, rfl, rfl, Nat.le_refl _, fun _ _ _ => rfl, fun _ _ => rfl, hr.sub, fun i c hc => ?_, fun i c hc g hg => ⟨.inl ((hmay i g).2 ⟨wq hc, hg⟩), (hr.foot (ρ i) _ (hin1 i c hc) g hg).2⟩,
   fun i j c d hc hd g hi hj => hinj' i (wq hc) j (wq hd) (hr.dj (ρ i) (ρ j) _ _ (hin1 i c hc) (hin1 j d hd) g hi hj), fun p hp => ?_, fun p hp => ?_, fun p hp => (by cases hp)⟩
  ·have h6 := hr.ch (ρ i) _ (hin1 i c hc)
   cases c with
   | blk ty cs =>
    obtain ⟨g, cur, k1, k2, k3⟩ := h6
    exact ⟨g, cur, k1, k2, by rw [<- jU ρ cs]; exact k3.1, fun j x y a b => (k3.2 j (ren ρ x) y (by rw [qm, a]; rfl) b).unren x rfl⟩
   | row e sz xs => exact h6
   | sem c => exact h6
  ·obtain ⟨i, hi, rfl⟩ := List.mem_map.1 hp
   exact ⟨by simpa using (List.mem_filter.1 hi).2, rfl⟩
  ·obtain ⟨i, g⟩ := p
   exact hlt i ((hmay i g).1 hp).1
 refine (hf.2 may pin σ _ w vs hr1 h2').mono ?_
 rintro e w' ⟨u, r, h', σ', ι', rfl, h3, h4, h5⟩
 obtain ⟨c1, c2, c3⟩ := hk r h' h3
 have hle : Sig.le σ σ' := fun a v ha => by rw [h5.sigOld a (hr.sig_lt ha)]; exact ha
 have hkeep : ∀ g, g < w.heap.size -> (∀ i ∈ jI hin, ¬ Feet (ι (ρ i)) g) -> w'.heap[g]? = w.heap[g]? := fun g hg hne => h5.old g hg fun i hm => hne i ((hmay i g).1 hm).1 ((hmay i g).1 hm).2
 have hinget : ∀ i ∈ jI hin, ∃ c, j9 hin i = some c := by
  intro i hi
  have : ∀ (l : j8), i ∈ jI l -> ∃ c, j9 l i = some c := by
   intro l
   induction l with
   | nil => intro h; cases h
   | cons p r ih =>
    intro hm
    obtain ⟨j, d⟩ := p
    rw [j7]
    by_cases hj : j = i
    ·exact ⟨d, by rw [if_pos hj]⟩
    ·rw [if_neg hj]
     exact ih (by simp only [jI, List.map_cons, List.mem_cons] at hm; rcases hm with rfl | hm; exact absurd rfl hj; exact hm)
  exact this hin hi
 let inv : Nat -> Nat := fun k => ((jI hin).find? (fun i => Nat.beq (ρ i) k)).getD 0
 have hinv : ∀ i ∈ jI hin, inv (ρ i) = i := fun i hi => by
  show ((jI hin).find? (fun j => Nat.beq (ρ j) (ρ i))).getD 0 = i
  cases hq : (jI hin).find? (fun j => Nat.beq (ρ j) (ρ i)) with
  | none => have := List.find?_eq_none.1 hq i hi; simp at this
  | some j =>
   have hb := List.find?_some hq
   exact hinj' j (List.mem_of_find?_eq_some hq) i hi (Nat.eq_of_beq_eq_true hb)
 let ι2 : Nat -> Value := fun k => if k ∈ (jI hin).map ρ then ι' (inv k) else ι k
 have e2 : ∀ i ∈ jI hin, ι' i = ι2 (ρ i) := fun i hi => by simp only [ι2, if_pos (List.mem_map_of_mem hi), hinv i hi]
 have e3 : ∀ k, k ∉ (jI hin).map ρ -> ι k = ι2 k := fun i hi => by simp only [ι2, if_neg hi]
 have e5 : ∀ i ∈ jI hin, i < 5 -> ι (ρ i) = ι2 (ρ i) := fun i hi h5' => by
  rw [<- e2 i hi]
  exact (h5.pin (i, ι (ρ i)) (List.mem_map.2 ⟨i, List.mem_filter.2 ⟨hi, by simpa using h5'⟩, rfl⟩)).2.symm
 have hdrop : ∀ k c, j9 (vO ((jI hin).map ρ) h) k = some c -> k ∉ (jI hin).map ρ ∧ j9 h k = some c := fun i c hc => by
  rw [xa] at hc
  split at hc
  ·cases hc
  ·exact ⟨by assumption, hc⟩
 have hsub' : ∀ i ∈ jI h', i ∈ jI hin := by
  have : ∀ (l : j8), qB (jI hin) l = true -> ∀ i ∈ jI l, i ∈ jI hin := by
   intro l
   induction l with
   | nil => intro _ i hi; cases hi
   | cons p r ih =>
    intro hcl i hi
    obtain ⟨j, d⟩ := p
    have hj : (jI hin).any (Nat.beq j) = true ∧ qB (jI hin) r = true := by
     cases d with
     | blk ty cs => simp only [qB, Bool.and_eq_true] at hcl; exact ⟨hcl.1.1, hcl.2⟩
     | row e sz xs => simp only [qB, Bool.and_eq_true] at hcl; exact hcl
     | sem c => simp only [qB, Bool.and_eq_true] at hcl; exact hcl
    simp only [jI, List.map_cons, List.mem_cons] at hi
    rcases hi with rfl | hi
    ·obtain ⟨k, hk, hb⟩ := List.any_eq_true.1 hj.1
     rw [Nat.eq_of_beq_eq_true hb]; exact hk
    ·exact ih hj.2 i hi
  exact this h' c2
 have hh : ∀ k c, j9 (wb ρ h' ++ vO ((jI hin).map ρ) h) k = some c -> (∃ i d, k = ρ i ∧ i ∈ jI hin ∧ j9 h' i = some d ∧ c = j1g ρ d) ∨ (k ∉ (jI hin).map ρ ∧ j9 h k = some c) := fun k c hc => by
  rw [xi] at hc
  split at hc
  ·rename_i d hd; cases hc
   obtain ⟨i, hi, rfl⟩ := xm hd
   rw [wa hsub' hinj' i (hsub' i hi)] at hd
   obtain ⟨d0, h6, rfl⟩ := Option.map_eq_some_iff.1 hd
   exact .inl ⟨i, d0, rfl, hsub' i hi, h6, rfl⟩
  ·exact .inr (hdrop k c hc)
 have hfar : ∀ k c, k ∉ (jI hin).map ρ -> j9 h k = some c -> ∀ g, Feet (ι k) g -> ∀ j ∈ jI hin, ¬ Feet (ι (ρ j)) g := fun k c hk hc g hg j hj e => by
  obtain ⟨d, hd⟩ := hinget j hj
  exact hk (hr.dj k (ρ j) c _ hc (hin1 j d hd) g hg e ▸ List.mem_map_of_mem hj)
 have hf1 : ∀ i c, j9 h' i = some c -> ∀ g, Feet (ι' i) g -> (i ∈ jI hin ∧ Feet (ι (ρ i)) g) ∨ w.heap.size <= g := fun i c hc g hg => by
  rcases (h5.foot i c hc g hg).1 with h6 | h6
  ·exact .inl ((hmay i g).1 h6)
  ·exact .inr h6
 have hnew : Rel E σ' ι2 (wb ρ h' ++ vO ((jI hin).map ρ) h) w' := by
  refine ⟨h5.os.trans hr.os, h5.tape.trans hr.tape, h5.output.trans hr.output, Nat.le_trans hr.size h5.size, ?_, ?_, h5.sub, ?_, ?_, ?_, ?_, hr.low, ?_⟩
  ·intro b hb hm
   rw [hkeep b (Nat.lt_of_lt_of_le hb hr.size) fun i hi e => by
    obtain ⟨c, hc⟩ := hinget i hi
    rcases (hr.foot (ρ i) _ (hin1 i c hc) b e).1 with h6 | h6
    ·exact hm _ h6
    ·omega]
   exact hr.old b hb hm
  ·intro a ha
   rw [h5.sigOld a (Nat.lt_of_lt_of_le ha hr.size)]; exact hr.sigOld a ha
  ·intro k c hc
   rcases hh k c hc with ⟨i, d, rfl, h7, h6, rfl⟩ | ⟨h6, h7⟩
   ·have h8 := h5.ch i d h6
    have h9 := (wm c2 i d h6).2
    cases d with
    | blk ty cs =>
     obtain ⟨g, cur, k1, k2, k3⟩ := h8
     refine ⟨g, cur, by rw [<- e2 i h7]; exact k1, k2, by rw [jU]; exact k3.1, fun j x y a b => ?_⟩
     rw [qm] at a
     cases hq : cs[j]? with
     | none => rw [hq] at a; cases a
     | some q => rw [hq] at a; cases a; exact (k3.2 j q y hq b).reren e2 (vP h9 j q hq)
    | row e sz xs =>
     obtain ⟨k0, k1, vs, k2, k3⟩ := h8
     exact ⟨k0, k1, vs, by rw [<- e2 i h7]; exact k2, k3⟩
    | sem c => show c.rel _ _ _; rw [<- e2 i h7]; exact h8
   ·have h8 := (hr.ch k c h7).keep hle fun g hg => hkeep g (hr.foot_lt h7 hg) (hfar k c h6 h7 g hg)
    cases c with
    | blk ty cs =>
     obtain ⟨g, cur, k1, k2, k3⟩ := h8
     refine ⟨g, cur, by rw [<- e3 k h6]; exact k1, k2, k3.1, fun j x y a b => (k3.2 j x y a b).same fun m hm => ?_⟩
     by_cases hmm : m ∈ (jI hin).map ρ
     ·obtain ⟨i, hi, rfl⟩ := List.mem_map.1 hmm
      by_cases hk5 : i < 5
      ·exact e5 i hi hk5
      ·have h9 := vM (List.all_eq_true.1 hlone (ρ i) (vi hi (by omega))) k (.blk ty cs) (by rw [xa, if_neg h6]; exact h7)
       rw [qA h9 j x a] at hm; cases hm
     ·exact e3 m hmm
    | row e sz xs =>
     obtain ⟨k0, k1, vs, k2, k3⟩ := h8
     exact ⟨k0, k1, vs, by rw [<- e3 k h6]; exact k2, k3⟩
    | sem c => show c.rel _ _ _; rw [<- e3 k h6]; exact h8
  ·intro k c hc g hg
   rcases hh k c hc with ⟨i, d, rfl, h7, h6, rfl⟩ | ⟨h6, h7⟩
   ·rw [<- e2 i h7] at hg
    refine ⟨?_, (h5.foot i d h6 g hg).2⟩
    rcases hf1 i d h6 g hg with ⟨hj, hfj⟩ | hge
    ·obtain ⟨d0, hd0⟩ := hinget i hj
     exact (hr.foot (ρ i) _ (hin1 i d0 hd0) g hfj).1
    ·exact .inr (Nat.le_trans hr.size hge)
   ·rw [<- e3 k h6] at hg
    obtain ⟨h8, h9⟩ := hr.foot k c h7 g hg
    exact ⟨h8, fun o => by rw [h5.sigOld _ (hr.foot_lt h7 hg)]; exact h9 o⟩
  ·have cross : ∀ i k c d, j9 h' i = some c -> k ∉ (jI hin).map ρ -> j9 h k = some d -> ∀ g, Feet (ι' i) g -> Feet (ι k) g -> False := fun i k c d h6 h8 h9 g hg hg2 => by
    rcases hf1 i c h6 g hg with ⟨hk, hfk⟩ | hge
    ·exact hfar k d h8 h9 g hg2 i hk hfk
    ·have := hr.foot_lt h9 hg2; omega
   intro k l c d hc hd g hi hj
   rcases hh k c hc with ⟨i, c0, rfl, h7, h6, rfl⟩ | ⟨h6, h7⟩
   ·rw [<- e2 i h7] at hi
    rcases hh l d hd with ⟨j, d0, rfl, h9, h8, rfl⟩ | ⟨h8, h9⟩
    ·rw [<- e2 j h9] at hj
     rw [h5.dj i j c0 d0 h6 h8 g hi hj]
    ·rw [<- e3 l h8] at hj
     exact (cross i l c0 d h6 h8 h9 g hi hj).elim
   ·rw [<- e3 k h6] at hi
    rcases hh l d hd with ⟨j, d0, rfl, h9, h8, rfl⟩ | ⟨h8, h9⟩
    ·rw [<- e2 j h9] at hj
     exact (cross j k d0 c h8 h6 h7 g hj hi).elim
    ·rw [<- e3 l h8] at hj
     exact hr.dj k l c d h7 h9 g hi hj
  ·intro p hp
   obtain ⟨h6, h7⟩ := hr.pin p hp
   refine ⟨h6, ?_⟩
   by_cases hm : p.1 ∈ (jI hin).map ρ
   ·obtain ⟨i, hi, e⟩ := List.mem_map.1 hm
    rw [<- e]
    by_cases hi5 : i < 5
    ·rw [<- e5 i hi hi5, e]; exact h7
    ·have h8 := List.all_eq_true.1 hrow (ρ i) (vi hi (by omega))
     rw [e] at h8
     have := Nat.ble_eq ▸ h8
     omega
   ·rw [<- e3 p.1 hm]; exact h7
  ·intro p hp
   obtain ⟨h6, h7, h8⟩ := hr.xo p hp
   have hlt2 := (Array.getElem?_eq_some_iff.1 h7).1
   refine ⟨h6, (hkeep p.1 hlt2 fun i hi e => ?_).trans h7, fun k c hc e => ?_⟩
   ·obtain ⟨c, hc⟩ := hinget i hi
    exact h8 (ρ i) _ (hin1 i c hc) e
   ·rcases hh k c hc with ⟨i, d, rfl, h9, h10, rfl⟩ | ⟨h9, h10⟩
    ·rw [<- e2 i h9] at e
     rcases hf1 i d h10 p.1 e with ⟨hj, hfj⟩ | hge
     ·obtain ⟨d0, hd0⟩ := hinget i hj
      exact h8 (ρ i) _ (hin1 i d0 hd0) hfj
     ·omega
    ·rw [<- e3 k h9] at e
     exact h8 k c h10 e
 have epin : ∀ k, k < 5 -> ι2 k = ι k := fun k hk => by
  by_cases hm : k ∈ (jI hin).map ρ
  ·obtain ⟨i, hi, e⟩ := List.mem_map.1 hm
   rw [<- e]
   by_cases hi5 : i < 5
   ·exact (e5 i hi hi5).symm
   ·have h8 := List.all_eq_true.1 hrow (ρ i) (vi hi (by omega))
    rw [e] at h8
    have := Nat.ble_eq ▸ h8
    omega
  ·exact (e3 k hm).symm
 refine c3.out E σ' ι2 _ w' hnew (TR.putS ⟨ht.size, ⟨ht.defers.1, fun p hp => let ⟨h1, h2⟩ := ht.defers.2 p hp; ⟨h1, (epin _ h1).trans h2⟩⟩, fun t => ?_⟩ hdo (h4.reren e2 c1))
 rcases Jk (vF ρ (jI hin)) s t with h6 | ⟨h6, h7⟩
 ·rw [h6]; exact .base _ _ (.undef _)
 ·rw [h6]
  refine ((ht.at_ t).mono hle).same fun k hk => ?_
  by_cases hm : k ∈ (jI hin).map ρ
  ·obtain ⟨i, hi, rfl⟩ := List.mem_map.1 hm
   by_cases hk5 : i < 5
   ·exact e5 i hi hk5
   ·rw [h7 _ (vi hi (by omega))] at hk; cases hk
  ·exact e3 k hm
end
section
variable {P : Program} {n : Md} {Q : Exit -> j6 -> j8 -> Prop} {s : j6} {h : j8} {ops : Array Oper} {rest : List Oper} {o : Oper} {K : j6 -> Prop}
theorem z7 {β : Type} {sz : Nat} : ∀ {xs : List (List β)} {i j : Nat} {c ws : List β}, (∀ c ∈ xs, c.length = sz) -> xs[i]? = some c -> j + ws.length <= sz ->
  (xs.set i (c.take j ++ ws ++ c.drop (j + ws.length))).flatten = xs.flatten.take (i * sz + j) ++ ws ++ xs.flatten.drop (i * sz + j + ws.length)
 | [], i, j, c, ws, _, hi, _ => by simp at hi
 | x :: xs, 0, j, c, ws, hsz, hi, hl => by
  simp at hi; subst hi
  have h1 : x.length = sz := hsz x (by simp)
  simp only [List.set_cons_zero, List.flatten_cons, Nat.zero_mul, Nat.zero_add]
  rw [List.take_append_of_le_length (by omega), List.drop_append_of_le_length (by omega)]
  simp
 | x :: xs, i + 1, j, c, ws, hsz, hi, hl => by
  have h1 : x.length = sz := hsz x (by simp)
  have ih := z7 (xs := xs) (i := i) (j := j) (c := c) (ws := ws) (fun c hc => hsz c (by simp [hc])) (by simpa using hi) hl
  simp only [List.set_cons_succ, List.flatten_cons, ih]
  have e1 : (i + 1) * sz + j = x.length + (i * sz + j) := by rw [h1, Nat.add_mul]; omega
  have e2 : (i + 1) * sz + j + ws.length = x.length + (i * sz + j + ws.length) := by rw [h1, Nat.add_mul]; omega
  have t1 : ∀ (k : Nat) (r : List β), (x ++ r).take (x.length + k) = x ++ r.take k := fun k r => by rw [List.take_append, List.take_of_length_le (by omega), Nat.add_sub_cancel_left]
  have t2 : ∀ (k : Nat) (r : List β), (x ++ r).drop (x.length + k) = r.drop k := fun k r => by rw [List.drop_append, List.drop_of_length_le (by omega), Nat.add_sub_cancel_left, List.nil_append]
  rw [e2, e1, t1, t2, List.append_assoc, List.append_assoc, List.append_assoc]
theorem j0u {α : Type} [Inhabited α] {t e' : TypeId} {x y : Operand} {id sz i j : Nat} {l : List α} {f : α -> List AV} {v : AV} (x' : α) (ho : o.op = .store t x y) (hx : evA s x = .eptr id sz i j)
  (hg : j9 h id = some (.row e' sz (l.map f))) (hv : evA s y = v) (hq : J2 v = true) (hp : wk (qk v) = true) (hz : q9 P t (qk v).length = true) (hl : j + (qk v).length <= sz) (hx' : f x' = spl (f (l.getD i default)) j (qk v))
  (hi : i < l.length) (hco : qC o = true) (hd : o.dst = none) (hk : xq P n ops Q rest s ((id, .row e' sz ((l.set i x').map f)) :: h)) : A1 P n ops Q o rest s h := fun E σ ι a w hr ht => by
 subst hv
 have hX : VR σ ι (evA s x) (a.eval x) := jZ (List.all_eq_true.1 hco x (by rw [ho]; simp [Op.operands])) fun t _ => ht.at_ t
 have hY : VR σ ι (evA s y) (a.eval y) := jZ (List.all_eq_true.1 hco y (by rw [ho]; simp [Op.operands])) fun t _ => ht.at_ t
 rw [hx] at hX
 obtain ⟨g, h1, h2⟩ := hX.eptr_inv
 obtain ⟨hsz0, hsz, vs, hown, hL2⟩ := hr.ch id _ hg
 rcases hown.2 with ⟨h3, _⟩ | ⟨g', cap, cur, h3, _, h4, h5, h6, h7, h8⟩
 ·rw [h3] at h1; cases h1
 rw [h3] at h1
 simp only [jC, Option.some.injEq] at h1
 subst h1
 obtain ⟨hL, hone⟩ := hY.cel hq
 have hlen : (a.eval y).cells.size = (qk (evA s y)).length := by rw [<- Array.length_toList]; exact hL.1.symm
 have hil : i < (l.map f).length := by simpa using hi
 have hbound : i * sz + j + (a.eval y).cells.size <= (l.map f).length * sz := by
  have : (i + 1) * sz <= (l.map f).length * sz := Nat.mul_le_mul_right _ hil
  rw [Nat.add_mul] at this; omega
 have hcap : (l.map f).length * sz <= cap * sz := Nat.mul_le_mul_right _ h5
 have hrun := xC (P := P) (t := t) (off := i * sz + j) (v := a.eval y) h4 (by rw [hlen]; exact hz) (by omega) hone
 obtain ⟨cur', hcur'⟩ : ∃ cur', cur' = (cur.toList.take (i * sz + j) ++ (a.eval y).cells.toList ++ cur.toList.drop (i * sz + j + (a.eval y).cells.size)).toArray := ⟨_, rfl⟩
 rw [<- hcur'] at hrun
 have hs' : cur'.size = cur.size := by
  rw [hcur']; simp only [List.size_toArray, List.length_append, List.length_take, List.length_drop, Array.length_toList]; omega
 have htk : cur'.toList.take ((l.map f).length * sz) = vs.take (i * sz + j) ++ (a.eval y).cells.toList ++ vs.drop (i * sz + j + (a.eval y).cells.toList.length) := by
  obtain ⟨N, hN⟩ : ∃ N, N = (l.map f).length * sz := ⟨_, rfl⟩
  obtain ⟨us, hus⟩ : ∃ us, us = (a.eval y).cells.toList := ⟨_, rfl⟩
  have hul : us.length = (a.eval y).cells.size := by rw [hus, Array.length_toList (xs := (a.eval y).cells)]
  rw [hcur', <- h8, <- hN, <- hus, <- hul]
  rw [<- hN] at hbound hcap
  rw [<- hul] at hbound
  have hcl : cur.toList.length = cur.size := Array.length_toList (xs := cur)
  generalize cur.toList = cl at *
  rw [List.toList_toArray, List.take_take, List.take_append, List.take_append, List.drop_take, show min (i * sz + j) N = i * sz + j by omega]
  have e2 : (List.take (i * sz + j) cl).length = i * sz + j := by rw [List.length_take]; omega
  rw [List.length_append, e2, List.take_of_length_le (l := us) (by omega), List.take_take, show min N (i * sz + j) = i * sz + j by omega]
 unfold Oper.wp
 have hrun' : (execOp a.eval o).run P w = .ok .skip (w.setRow g' cur') := by
  simp only [execOp, ho, h2, Instr.storeAt, Instr.sureAddr, Sem.run_bind, Sem.run_pure, Result.andThen_ok, hrun]
 rw [hrun', Oper.upon_skip, hd]
 have hsame : upd ι id (ι id) = ι := by funext i; unfold upd; split <;> simp_all
 have hget' : l.getD i default = l[i] := by simp [hi]
 have hfi : (l.map f)[i]? = some (f (l.getD i default)) := by simp [hi]
 have hci : (f (l.getD i default)).length = sz := hsz _ (List.mem_of_getElem? hfi)
 have hxs : (l.set i x').map f = (l.map f).set i ((f (l.getD i default)).take j ++ qk (evA s y) ++ (f (l.getD i default)).drop (j + (qk (evA s y)).length)) := by
  rw [List.map_set, hx', Ji _ _ _ (by omega)]
 have hnew := hr.turn (id := id) (u := ι id) (h' := (id, .row e' sz ((l.set i x').map f)) :: h) (c' := .row e' sz ((l.set i x').map f)) (w' := w.setRow g' cur')
  (fun i c hi hc => by rw [j7, if_neg (fun e => hi e.symm)] at hc; exact ⟨hc, .inl rfl⟩) (by rw [j7, if_pos rfl])
  ⟨hsz0, fun c hc => by
   rw [hxs] at hc
   rcases List.mem_or_eq_of_mem_set hc with hc | rfl
   ·exact hsz c hc
   ·simp only [List.length_append, List.length_take, List.length_drop]; omega,
   cur'.toList.take ((l.map f).length * sz), by
    rw [hsame, show ((l.set i x').map f).length = (l.map f).length by simp]
    refine ⟨by rw [List.length_take, Array.length_toList (xs := cur')]; omega, .inr ⟨g', cap, cur', h3, Nat.zero_le _, setRow_heap w g' cur cur' e' (0, 0) h4, h5, h6, by omega, rfl⟩⟩, by
   rw [htk, hxs, z7 hsz hfi hl]
   rw [show (a.eval y).cells.toList.length = (qk (evA s y)).length by rw [Array.length_toList, hlen]]
   exact ((hL2.take _).append (QR hL hp)).append (hL2.drop _)⟩
  rfl rfl rfl (by simp) (fun k hk hne => setRow_other w g' k _ fun e => hne _ hg (by rw [e, h3]; rfl))
  (fun g2 hg2 => .inl ⟨_, hg, hg2⟩) (.inr rfl)
 rw [hsame] at hnew
 exact hk E σ ι _ _ hnew ht
theorem yc {α : Type} [Inhabited α] {t e' : TypeId} {x y : Operand} {id sz i j : Nat} {l : List α} {f : α -> List AV} {v : AV} {x' : α} (ho : o.op = .store t x y) (hx : evA s x = .eptr id sz i j)
  (hg : j9 h id = some (.row e' sz (l.map f))) (hv : evA s y = v) (hq : J2 v = true) (hp : wk (qk v) = true) (hz : q9 P t (qk v).length = true) (hl : Nat.ble (j + (qk v).length) sz = true) (hx' : f x' = spl (f (l.getD i default)) j (qk v))
  (hi : i < l.length) (hgd : o.guard = none) (hco : qC o = true) (hd : o.dst = none) (hk : O P n ops Q rest s ((id, .row e' sz ((l.set i x').map f)) :: h)) : O P n ops Q (o :: rest) s h :=
 ⟨v8 hgd (j0u x' ho hx hg hv hq hp hz (Nat.ble_eq ▸ hl) hx' hi hco hd hk.out)⟩
/-! ## A row of the call's own is cut short -/
theorem j6Q {α : Type} {t e : TypeId} {x y : Operand} {id sz b : Nat} {k : IntKind} {l : List α} {f : α -> List AV} (ho : o.op = .slice t x none (some y) none) (ht : qD P t = some e) (hz : q9 P e sz = true) (hx : evA s x = .own id)
  (hg : j9 h id = some (.row e sz (l.map f))) (hy : evA s y = .int k b) (hb : b <= l.length) (h5 : Nat.ble 5 id = true) (hlo : wl id h = true) (hco : qC o = true) (hd : qj n o.dst = true)
  (hk : xq P n ops Q rest (jX (qv id s) o.dst (.own id)) ((id, .row e sz ((l.take b).map f)) :: h)) : A1 P n ops Q o rest s h := fun E σ ι a w hr ht' => by
 have hX : VR σ ι (evA s x) (a.eval x) := jZ (List.all_eq_true.1 hco x (by rw [ho]; simp [Op.operands])) fun t _ => ht'.at_ t
 have hY : VR σ ι (evA s y) (a.eval y) := jZ (List.all_eq_true.1 hco y (by rw [ho]; simp [Op.operands])) fun t _ => ht'.at_ t
 rw [hx] at hX
 rw [hy] at hY
 obtain ⟨hsz0, hsz, vs, hown, hL⟩ := hr.ch id _ hg
 have e1 := hX.own_inv
 obtain ⟨A, cap, e2, e3, e4⟩ := hr.rowForm hg
 have hle : b <= cap := by rw [List.length_map] at e3; omega
 have rb : ∀ c, (Instr.sliceBound (a.eval y) cap c).run P w = .ok b w := fun c => by
  have h4 : (0 : Int) <= (b : Int) ∧ (b : Int) <= (cap : Int) := by omega
  simp only [Instr.sliceBound, hY.int_inv.1, asIntOf, Sem.run_bind, Sem.run_pure, Result.andThen_ok, h4, and_self, if_true, Int.toNat_natCast]
 have hrun : (execOp a.eval o).run P w = .ok (.value (.slice A b cap)) w := by
  have hadd : A.map (fun x => x.add 0) = A := by
   cases A with
   | none => rfl
   | some ad => simp [Addr.add]
  simp [execOp, ho, Instr.sliceAt, run_underlying (qF ht), Instr.slice, e1, e2, Instr.sliceBounds, rb, vV hz, hadd]
 have hnew := hr.turn (id := id) (u := .slice A b cap) (h' := (id, .row e sz ((l.take b).map f)) :: h) (c' := .row e sz ((l.take b).map f)) (w' := w)
  (fun i c hi hc => by
    rw [j7, if_neg (fun e => hi e.symm)] at hc
    exact ⟨hc, .inr (vM hlo i c hc)⟩)
  (by rw [j7, if_pos rfl])
  ⟨hsz0, fun c hc => by
   obtain ⟨q, hq, rfl⟩ := List.mem_map.1 hc
   exact hsz _ (List.mem_map_of_mem (List.mem_of_mem_take hq)), vs.take (b * sz), by
    rw [jM]
    have hlen : ((l.take b).map f).length = b := by simp; omega
    have hbb : b * sz <= l.length * sz := Nat.mul_le_mul_right _ hb
    have hvl := hown.1
    rw [List.length_map] at hvl
    rw [hlen]
    refine ⟨by rw [List.length_take]; omega, ?_⟩
    rcases hown.2 with ⟨h1, h2⟩ | ⟨g, cap', cur, h1, _, h3, h4, h5', h6, h7⟩
    ·rw [h1] at e2
     injection e2 with q1 q2 q3
     rw [List.length_map] at h2
     exact .inl ⟨by rw [<- q1, <- q3, show b = 0 by omega], by omega⟩
    ·rw [h1] at e2
     injection e2 with q1 q2 q3
     subst q1; subst q3
     refine .inr ⟨g, cap', cur, rfl, Nat.zero_le _, h3, hle, h5', h6, ?_⟩
     rw [<- h7, List.take_take]
     rw [List.length_map]
     congr 1; omega, by
    have := hL.take (b * sz)
    rw [show (l.take b).map f = (l.map f).take b by rw [List.map_take]]
    rwa [show ((l.map f).take b).flatten = (l.map f).flatten.take (b * sz) from ?_]
    have : ∀ (xs : List (List AV)) (b : Nat), (∀ c ∈ xs, c.length = sz) -> (xs.take b).flatten = xs.flatten.take (b * sz) := by
     intro xs
     induction xs with
     | nil => intro b _; simp
     | cons x xs ih =>
      intro b hs
      cases b with
      | zero => simp
      | succ b =>
       have hx1 := hs x List.mem_cons_self
       rw [List.take_succ_cons, List.flatten_cons, List.flatten_cons, ih b (fun c hc => hs c (List.mem_cons_of_mem _ hc)), List.take_append, List.take_of_length_le (l := x) (by rw [hx1, Nat.add_mul]; omega), hx1, show (b + 1) * sz - sz = b * sz by rw [Nat.add_mul]; omega]
    exact this _ _ hsz⟩
  rfl rfl rfl (Nat.le_refl _) (fun _ _ _ => rfl)
  (fun g hv => .inl ⟨_, hg, by rw [e2]; cases A <;> exact hv⟩) (.inl (Nat.ble_eq ▸ h5))
 unfold Oper.wp
 rw [hrun]
 refine hk E σ _ _ _ hnew ((ht'.kill id (Nat.ble_eq ▸ h5) _).putS hd ?_)
 have h2 := VR.own (σ := σ) (ι := upd ι id (.slice A b cap)) id (by rw [jM]; cases A <;> rfl)
 rwa [jM] at h2
theorem j6E {α : Type} {t e : TypeId} {x y : Operand} {id sz b : Nat} {k : IntKind} {l : List α} {f : α -> List AV} (ho : o.op = .slice t x none (some y) none) (hx : evA s x = .own id)
  (hg : j9 h id = some (.row e sz (l.map f))) (ht : qD P t = some e) (hz : q9 P e sz = true) (hy : evA s y = .int k b) (hb : b <= l.length) (h5 : Nat.ble 5 id = true) (hlo : wl id h = true) (hgd : o.guard = none) (hco : qC o = true) (hd : qj n o.dst = true)
  (hk : O P n ops Q rest (jX (qv id s) o.dst (.own id)) ((id, .row e sz ((l.take b).map f)) :: h)) : O P n ops Q (o :: rest) s h := ⟨v8 hgd (j6Q ho ht hz hx hg hy hb h5 hlo hco hd hk.out)⟩
end
section
variable {P : Program} {n : Md} {Q : Exit -> j6 -> j8 -> Prop} {s : j6} {h : j8} {ops : Array Oper} {rest : List Oper} {o : Oper} {K : j6 -> Prop}
/-! ## The tail of a row of the call's own is cleared -/
theorem jA {α : Type} (f : α -> List AV) (id : Nat) (e : TypeId) (sz : Nat) (hsz : 0 < sz) (hf : jd id s h = true) : Turns n s h s ((id, .row e sz (([] : List α).map f)) :: h) := by
 intro E σ ι a w hr ht
 simp only [jd, Bool.and_eq_true, Nat.ble_eq] at hf
 refine ⟨σ, upd ι id (.slice none 0 0), ?_, ht.upd hf.1.1 hf.1.2 (.slice none 0 0)⟩
 refine hr.turn (c' := .row e sz []) ?_ (by rw [j7, if_pos rfl]; rfl) ⟨hsz, by simp, [], by rw [jM]; exact World.ownsRow_nil w 0 e sz, L2.nil _⟩ rfl rfl rfl (Nat.le_refl _) (fun _ _ _ => rfl) (fun g hg => by cases hg) (.inl hf.1.1)
 intro i c hi hc
 rw [j7, if_neg (fun e => hi e.symm)] at hc
 exact ⟨hc, .inr (ju hf.2 i c hc).2⟩
theorem V8 (sz : Nat) {t : Nat} (hs : get s t = .nils) : Turns n s h ((t, .lst sz []) :: s) h := fun E σ ι a w hr ht => by
 refine ⟨σ, ι, hr, ht.size, ht.defers, fun u => ?_⟩
 rw [qO]
 split
 ·rename_i e; subst e
  have h2 := ht.at_ t
  rw [hs] at h2
  generalize a.tmps.getD t undef = q at h2 ⊢
  cases h2 with
  | base _ _ h0 => cases h0 with | nils => exact .base _ _ (.empty _ _ _ (by simp))
 ·exact ht.at_ u
theorem qe {α : Type} [Inhabited α] {l : List α} {f : α -> List AV} {t e : TypeId} {x y : Operand} {sz : Nat} {ik : IntKind} {i : Nat} {z : α} (hz0 : l.getD i default = z) (ho : o.op = .indexAddr t x y) (hx : evA s x = .lst sz (l.map f))
  (hy : evA s y = .int ik i) (ht : qD P t = some e) (hz : q9 P e sz = true) (hi : i < l.length) : OkO P o s h (.ref (f z)) := hz0 ▸ VT ho ht hz hx hy hi
end
end Go.Proofs.YtfjoaeghnfkdlaaGreatDoor
