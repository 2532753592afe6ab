/- No walk comes to a place more often than the loops that hold it let one (plain). No condition. -/
import Derived.Test.YtffciebjpiljgaaPo
namespace Go.Proofs.Ytffciebjpiljgaa
set_option linter.unusedSimpArgs false
set_option linter.unusedVariables false
set_option maxRecDepth 100000
set_option linter.unusedSimpArgs false
set_option linter.unusedVariables false
set_option maxRecDepth 100000
open Go.RowKit
def prodq (f : Span → Nat) (q : Span → Bool) : List Span → Nat
  | [] => 1
  | s :: l => (if q s = true then f s else 1) * prodq f q l
theorem prodq_pos {f : Span → Nat} (hf : ∀ s, 1 ≤ f s) (q : Span → Bool) : ∀ l, 1 ≤ prodq f q l
  | [] => Nat.le_refl 1
  | s :: l => by
    have h1 := prodq_pos hf q l
    have h2 := hf s
    rw [prodq]
    have : 1 ≤ (if q s = true then f s else 1) := by split <;> omega
    exact Nat.le_trans h1 (Nat.le_mul_of_pos_left _ this)
theorem prodq_mono {f : Span → Nat} (hf : ∀ s, 1 ≤ f s) {q q' : Span → Bool} : ∀ (l : List Span), (∀ x ∈ l, q x = true → q' x = true) → prodq f q l ≤ prodq f q' l
  | [], _ => Nat.le_refl 1
  | s :: l, h => by
    rw [prodq, prodq]
    refine Nat.mul_le_mul ?_ (prodq_mono hf l fun x hx => h x (List.mem_cons_of_mem _ hx))
    have h2 := hf s
    by_cases e : q s = true
    · rw [if_pos e, if_pos (h s List.mem_cons_self e)]; exact Nat.le_refl _
    · rw [if_neg e]; split <;> omega
theorem prodq_or {f : Span → Nat} {a : Span → Bool} {s : Span} (ha : a s = false) : ∀ (l : List Span), l.Pairwise (fun x y => x.to < y.to) → prodq f (fun x => a x || decide (x = s)) l = (if s ∈ l then f s else 1) * prodq f a l
  | [], _ => by simp [prodq]
  | x :: l, h => by
    rw [List.pairwise_cons] at h
    rw [prodq, prodq, prodq_or ha l h.2]
    by_cases e : x = s
    · subst e
      have hn : x ∉ l := fun hm => by have := h.1 x hm; omega
      rw [if_pos (by simp), if_neg hn, if_pos List.mem_cons_self, ha, if_neg (by decide), Nat.one_mul]
      try rw [Nat.one_mul]
    · have e1 : (a x || decide (x = s)) = a x := by rw [decide_eq_false e, Bool.or_false]
      rw [e1]
      by_cases hm : s ∈ l
      · rw [if_pos hm, if_pos (List.mem_cons_of_mem _ hm), Nat.mul_left_comm]
      · have hm2 : s ∉ x :: l := fun hh => by
          rcases List.mem_cons.1 hh with q | q
          · exact e q.symm
          · exact hm q
        rw [if_neg hm, if_neg hm2, Nat.one_mul, Nat.one_mul]
section
variable {p : List Instr} (pc : Nat)
def PB (p : List Instr) (pc : Nat) (P : Span) : Nat := prodq (fun s => turnsC p s + 1) (fun s => inQ P s && hasB s pc) (loopsL p)
theorem PB_pos (P : Span) : 1 ≤ PB p pc P := prodq_pos (fun s => by omega) _ _
theorem PB_in (hf : FineP p) (hn : ∀ i, 0 ≤ (p.getD i default).n) {P s : Span} (hP : isPart p P) (h1 : s ∈ loopsL p) (h2 : inQ P s = true) (h3 : hasB s pc = true) : (turnsC p s + 1) * PB p pc s ≤ PB p pc P := by
  have h := prodq_or (f := fun s => turnsC p s + 1) (a := fun x => inQ s x && hasB x pc) (s := s) (by
    have : inQ s s = false := by rw [inQ, decide_eq_false_iff_not]; exact fun e => e.1 rfl
    simp only [this, Bool.false_and]) (loopsL p) loops_inc
  rw [if_pos h1] at h
  have h4 := in_part hf hn hP h1 h2
  unfold PB
  rw [← h]
  refine prodq_mono (fun s => by omega) _ fun x hx hq => ?_
  rw [Bool.or_eq_true, decide_eq_true_eq, Bool.and_eq_true] at hq
  rw [Bool.and_eq_true]
  rcases hq with ⟨q1, q2⟩ | rfl
  · refine ⟨?_, q2⟩
    have := in_part hf hn (.inl h1) hx q1
    rw [inQ, decide_eq_true_eq]
    exact ⟨fun e => by subst e; omega, by omega, by omega⟩
  · exact ⟨h2, h3⟩
/-! Bounds. -/
def leO (x : Option Nat) (n : Nat) : Prop := ∀ v, x = some v → v ≤ n
theorem leO.none (n : Nat) : leO none n := fun v h => (nomatch h)
theorem leO.mono {x : Option Nat} {n m : Nat} (h : leO x n) (hm : n ≤ m) : leO x m := fun v e => Nat.le_trans (h v e) hm
theorem leO.add {a b : Option Nat} {n : Nat} (h : leO a n) (h' : leO b n) : leO (bo max a b) n := fun v e => by
  cases a with
  | none => exact h' v e
  | some a =>
    cases b with
    | none => exact h v e
    | some b =>
      have := h a rfl
      have := h' b rfl
      simp only [bo, Option.some.injEq] at e; omega
theorem leO.mul {a b : Option Nat} {n m : Nat} (h : leO a n) (h' : leO b m) : leO (po a b) (n + m) := fun v e => by
  cases a with
  | none => cases e
  | some a =>
    cases b with
    | none => cases e
    | some b =>
      have := h a rfl
      have := h' b rfl
      simp only [po, Option.some.injEq] at e; omega
theorem leO.pow {a : Option Nat} {n : Nat} (h : leO a n) : ∀ r, leO (maxR.pow a r) (r * n)
  | 0 => fun v e => by cases e; omega
  | r + 1 => by
    have := h.mul (leO.pow h r)
    have e : (r + 1) * n = n + r * n := by rw [Nat.succ_mul, Nat.add_comm]
    rw [e]; exact this
theorem leO.rds {one on : GW (Option Nat)} {a b : Nat} (h1 : leO one.thr a) (h2 : leO one.fin a) (h3 : leO on.fin b) : ∀ r, leO (maxR.rds one on r) (r * a + b)
  | 0 => h3.mono (by omega)
  | r + 1 => by
    have ih := leO.rds h1 h2 h3 r
    have e : (r + 1) * a = r * a + a := Nat.succ_mul _ _
    exact (h2.mono (by omega)).add ((h1.mul ih).mono (by omega))
def leG (v : GW (Option Nat)) (n : Nat) : Prop := leO v.thr n ∧ leO v.fin n
theorem leG.close {v on : GW (Option Nat)} {a b : Nat} (h1 : leG v a) (h2 : leG on b) (r : Nat) : leG (maxR.close v v on r) ((r + 1) * a + b) := by
  have e : (r + 1) * a = r * a + a := Nat.succ_mul _ _
  refine ⟨?_, ?_⟩
  · exact (h1.1.mul ((h1.1.pow r).mul h2.1)).mono (by omega)
  · exact (h1.2.mono (by omega)).add ((h1.1.mul (leO.rds h1.1 h1.2 h2.2 r)).mono (by omega))
theorem leG.sum {f : Nat → GW (Option Nat)} {m : Nat} : ∀ (l : List Int), (∀ x ∈ l, leG (f x.toNat) m) → leG (sumG maxR f l) m
  | [], _ => ⟨leO.none _, leO.none _⟩
  | x :: l, h => by
    have h1 := h x List.mem_cons_self
    have h2 := leG.sum l (fun y hy => h y (List.mem_cons_of_mem _ hy))
    exact ⟨h1.1.add h2.1, h1.2.add h2.2⟩
def w1 (pc : Nat) (q : Nat) : Option Nat := some (if q = pc then 1 else 0)
theorem w1_le (q : Nat) : leO (w1 pc q) (if q = pc then 1 else 0) := fun v e => by cases e; exact Nat.le_refl _
def XB (p : List Instr) (pc : Nat) (P : Span) (j : Nat) : Nat := if j ≤ pc ∧ (pc : Int) ≤ P.to then PB p pc P else 0
theorem V_bound (hf : FineP p) (hn : ∀ i, 0 ≤ (p.getD i default).n) : ∀ (n : Nat) (P : Span) (j : Nat), isPart p P → P.frm ≤ j → (j : Int) ≤ P.to → leG (vG maxR (w1 pc) p n P j) (XB p pc P j)
  | 0, P, j, _, _, _ => ⟨leO.none _, leO.none _⟩
  | n + 1, P, j, hP, h1, h2 => by
    have hs := part_sound hf hn hP
    have hpos := PB_pos (p := p) pc P
    have hw := w1_le pc j
    have hx : (if j = pc then 1 else 0) ≤ XB p pc P j := by
      unfold XB
      by_cases e : j = pc
      · rw [if_pos e, if_pos (by omega)]; exact hpos
      · rw [if_neg e]; exact Nat.zero_le _
    rw [vG]
    cases ho : outL (loopsL p) j P with
    | none =>
      simp only
      unfold nodeG
      split
      · exact ⟨leO.none _, hw.mono hx⟩
      · split
        · exact ⟨hw.mono hx, leO.none _⟩
        · rename_i h21 h16
          have hsum : leG (sumG maxR (vG maxR (w1 pc) p n P) (nextL p j)) (if j < pc ∧ (pc : Int) ≤ P.to then PB p pc P else 0) := by
            refine leG.sum _ fun x hx => ?_
            obtain ⟨i, rfl, q1, q2, q3⟩ := next_up hf hn (by omega) h16 hx
            obtain ⟨q4, q5⟩ := next_in hf hn hP h1 h2 ho h16 q1 q2 q3
            rw [Int.toNat_natCast]
            have := V_bound hf hn n P i hP (by omega) q4
            have hle : XB p pc P i ≤ (if j < pc ∧ (pc : Int) ≤ P.to then PB p pc P else 0) := by
              unfold XB
              by_cases e : i ≤ pc ∧ (pc : Int) ≤ P.to
              · rw [if_pos e, if_pos (by omega)]; exact Nat.le_refl _
              · rw [if_neg e]; exact Nat.zero_le _
            exact ⟨this.1.mono hle, this.2.mono hle⟩
          have hadd : (if j = pc then 1 else 0) + (if j < pc ∧ (pc : Int) ≤ P.to then PB p pc P else 0) ≤ XB p pc P j := by
            unfold XB
            by_cases e : j = pc
            · rw [if_pos e, if_neg (by omega), if_pos (by omega)]; exact hpos
            · rw [if_neg e, Nat.zero_add]
              by_cases e2 : j < pc ∧ (pc : Int) ≤ P.to
              · rw [if_pos e2, if_pos (by omega)]; exact Nat.le_refl _
              · rw [if_neg e2]; exact Nat.zero_le _
          exact ⟨(hw.mul hsum.1).mono hadd, (hw.mul hsum.2).mono hadd⟩
    | some s =>
      simp only
      split
      · rename_i hsp
        obtain ⟨s1, ⟨s2, s3, s4⟩, s5⟩ := outL_some.1 ho
        have hso := loop_sound hf hn s1
        have hin := in_part hf hn hP s1 s2
        have a1 := V_bound hf hn n s j (.inl s1) s3 s4
        have a2 := V_bound hf hn n P (s.to + 1).toNat hP (by omega) (by omega)
        have hc := a1.close a2 (turnsC p s)
        have hle : (turnsC p s + 1) * XB p pc s j + XB p pc P (s.to + 1).toNat ≤ XB p pc P j := by
          unfold XB
          by_cases e : j ≤ pc ∧ (pc : Int) ≤ s.to
          · have := PB_in pc hf hn hP s1 s2 (by rw [hasB, decide_eq_true_eq]; omega)
            rw [if_pos e, if_neg (by omega), if_pos (by omega)]; exact this
          · rw [if_neg e, Nat.mul_zero, Nat.zero_add]
            by_cases e2 : (s.to + 1).toNat ≤ pc ∧ (pc : Int) ≤ P.to
            · rw [if_pos e2, if_pos (by omega)]; exact Nat.le_refl _
            · rw [if_neg e2]; exact Nat.zero_le _
        exact ⟨hc.1.mono hle, hc.2.mono hle⟩
      · exact ⟨leO.none _, leO.none _⟩
/-- How often one comes there. -/
def cntL (pc : Nat) (l : List Int) : Nat := l.countP fun x => decide (x = (pc : Int))
theorem walk_cnt (hf : FineP p) (hn : ∀ i, 0 ≤ (p.getD i default).n) (ch : List Bool) : ∀ (m j : Nat) (T : Nat → Nat) (k : Nat), StI p j T → ∃ v, phi maxR p (VG maxR (w1 pc) p) (cOf p T) j = some v ∧ cntL pc (walkL p ch m j T k).1 ≤ v
  | 0, j, T, k, h => by
    obtain ⟨v, hv⟩ := phi_liv (c := cOf p T) (wt := w1 pc) liv_max (fun pc => ⟨_, rfl⟩) hf hn h.lt
    exact ⟨v, hv, Nat.zero_le _⟩
  | m + 1, j, T, k, h => by
    have hc : ∀ l, cntL pc ((j : Int) :: l) = cntL pc l + (if j = pc then 1 else 0) := fun l => by
      unfold cntL
      rw [List.countP_cons]
      congr 1
      by_cases e : j = pc
      · rw [if_pos e, if_pos (by simp [e])]
      · rw [if_neg e, if_neg (by simp; omega)]
    by_cases h21 : opA p j = 21
    · rw [walkL_done _ _ _ _ _ _ h21]
      refine ⟨_, phi_done maxR hf hn (VG_isV maxR (w1 pc) hf hn) h.lt h21, ?_⟩
      simp only
      rw [hc]
      unfold cntL
      simp only [List.countP_nil]
      omega
    · rw [walkL_step _ _ _ _ _ _ h21]
      obtain ⟨v', q1, q2⟩ := walk_cnt hf hn ch m _ _ (if opA p j = 15 then k + 1 else k) (nxt_st hf hn h h21 (decide (opA p j = 15) && ch.getD k false))
      obtain ⟨x, hx⟩ := phi_some maxR hf hn (wt := w1 pc) h h21 (decide (opA p j = 15) && ch.getD k false)
      rw [q1] at hx
      simp only
      rw [hc]
      have e : maxR.mul (w1 pc j) (some v') = some ((if j = pc then 1 else 0) + v') := rfl
      rw [e] at hx
      cases x with
      | none => exact ⟨_, hx, by omega⟩
      | some x => exact ⟨_, hx, by omega⟩
theorem prodq_congr {f : Span → Nat} {q q' : Span → Bool} : ∀ (l : List Span), (∀ x ∈ l, q x = q' x) → prodq f q l = prodq f q' l
  | [], _ => rfl
  | s :: l, h => by rw [prodq, prodq, h s List.mem_cons_self, prodq_congr l fun x hx => h x (List.mem_cons_of_mem _ hx)]
theorem oft_prod (hf : FineP p) (hn : ∀ i, 0 ≤ (p.getD i default).n) : ∀ (l : List Span) (a : Nat), (∀ s ∈ l, s ∈ loopsL p) → l.foldl (oftS p pc) (kap (some a)) = kap (some (a * prodq (fun s => turnsC p s + 1) (fun s => hasB s pc) l))
  | [], a, _ => by rw [prodq, Nat.mul_one]; rfl
  | s :: l, a, h => by
    have hs := loop_sound hf hn (h s List.mem_cons_self)
    have hb := right_back (hf.right s.to.toNat (by omega)) hs.2.2.2.1
    have ht : (p.getD s.to.toNat default).c + 1 = kap (some (turnsC p s + 1)) := by rw [kap_some, turnsC]; omega
    rw [List.foldl_cons, prodq, oftS]
    by_cases e : hasB s pc = true
    · rw [if_pos e, if_pos e, ht, kap_mul, oft_prod hf hn l _ fun x hx => h x (List.mem_cons_of_mem _ hx), Nat.mul_assoc]
    · rw [if_neg e, if_neg e, oft_prod hf hn l _ fun x hx => h x (List.mem_cons_of_mem _ hx), Nat.one_mul]
/-- .. is at most what is told. -/
theorem cnt_oft (hf : FineP p) (hn : ∀ i, 0 ≤ (p.getD i default).n) (hpc : pc < p.length) (ch : List Bool) : (cntL pc (walkL p ch 2000 0 (fun _ => 0) 0).1 : Int) ≤ oftF p pc := by
  obtain ⟨v, h1, h2⟩ := walk_cnt pc hf hn ch 2000 0 (fun _ => 0) 0 (st_0 hf)
  have e : cOf p (fun _ => 0) = turnsC p := by funext s; rw [cOf, Nat.sub_zero]
  have hpos := hf.pos
  rw [e, phi_start maxR hf hn (VG_isV maxR (w1 pc) hf hn)] at h1
  have h3 := (V_bound pc hf hn (fuelG p) (wholeS p) 0 (.inr rfl) (by simp [wholeS]) (by simp only [wholeS]; omega)).2 v h1
  have h4 : XB p pc (wholeS p) 0 = prodq (fun s => turnsC p s + 1) (fun s => hasB s pc) (loopsL p) := by
    rw [XB, if_pos ⟨Nat.zero_le _, by simp only [wholeS]; omega⟩, PB]
    refine prodq_congr _ fun s hs => ?_
    have := loop_sound hf hn hs
    have : inQ (wholeS p) s = true := by
      rw [inQ, decide_eq_true_eq, wholeS]
      refine ⟨fun e => ?_, by simp only; omega, by simp only; omega⟩
      rw [e] at this; simp only at this; omega
    rw [this, Bool.true_and]
  rw [h4] at h3
  have h5 := oft_prod pc hf hn (loopsL p) 1 (fun s hs => hs)
  rw [show kap (some 1) = 1 from rfl, Nat.one_mul, kap_some] at h5
  have h6 : cntL pc (walkL p ch 2000 0 (fun _ => 0) 0).1 ≤ 2000 := Nat.le_trans (List.countP_le_length) (walkL_len p ch 2000 0 (fun _ => 0) 0).1
  rw [oftF, h5]
  omega
end
end Go.Proofs.Ytffciebjpiljgaa
