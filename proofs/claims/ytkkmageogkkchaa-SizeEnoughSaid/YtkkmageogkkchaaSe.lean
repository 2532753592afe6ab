/- The statement SizeEnough. No condition. -/
import Derived.Test.YtkkmageogkkchaaSz
namespace Go.Proofs.Ytkkmageogkkchaa
set_option linter.unusedSimpArgs false
set_option linter.unusedVariables false
set_option maxRecDepth 100000
set_option linter.unusedSimpArgs false
set_option linter.unusedVariables false
set_option maxRecDepth 100000
open Go.RowKit
def setSl (o : Object) (v : Int) : Object := ⟨o.kind, o.width, v, o.cap, o.start, o.init, o.writer, o.readers⟩
theorem mx_ge {g : Int → Int} : ∀ (l : List Int) (n : Int), n ≤ l.foldl (fun n i => max n (g i)) n ∧ ∀ i ∈ l, g i ≤ l.foldl (fun n i => max n (g i)) n
  | [], n => ⟨Int.le_refl _, fun i hi => by cases hi⟩
  | a :: l, n => by
    have ih := mx_ge (g := g) l (max n (g a))
    rw [List.foldl_cons]
    refine ⟨by have := ih.1; omega, fun i hi => ?_⟩
    rcases List.mem_cons.1 hi with rfl | hi
    · have := ih.1; omega
    · exact ih.2 i hi
theorem mxL_ge {g : Int → Int} {l : List Int} {i : Int} (hi : i ∈ l) : g i ≤ mxL g l := (mx_ge l 0).2 i hi
theorem mxL_B {g : Int → Int} (hg : ∀ i, 0 ≤ g i ∧ g i ≤ 1099511627776) (l : List Int) : 0 ≤ mxL g l ∧ mxL g l ≤ 1099511627776 := by
  have := mx_B hg l 0 (by omega) (by omega)
  exact ⟨this.1, this.2.1⟩
/-- The same system, with other slots of one object. -/
def slotS (S : System) (k : Nat) (v : Int) : System := ⟨S.tasks, S.objects.set k (setSl (S.objects.getD k default) v)⟩
theorem slot_at (S : System) (k : Nat) (v : Int) (hk : k < S.objects.length) (j : Nat) : (slotS S k v).objects.getD j default = if k = j then setSl (S.objects.getD k default) v else S.objects.getD j default := by
  show (S.objects.set k _).getD j default = _
  rw [List.getD_eq_getElem?_getD, List.getElem?_set]
  by_cases e : k = j
  · rw [if_pos e, if_pos e, if_pos hk]; rfl
  · rw [if_neg e, if_neg e, ← List.getD_eq_getElem?_getD]
theorem slot_len (S : System) (k : Nat) (v : Int) : (slotS S k v).objects.length = S.objects.length := List.length_set
theorem slot_role (S : System) (k : Nat) (v : Int) (hk : k < S.objects.length) (i j : Int) : roleI (slotS S k v) i j = roleI S i j := by
  rw [roleI, roleI, slot_len, objD, objD, slot_at S k v hk]
  by_cases e : k = j.toNat
  · rw [if_pos e, ← e]; rfl
  · rw [if_neg e]; rfl
theorem slot_writes (S : System) (k : Nat) (v : Int) (hk : k < S.objects.length) (i r : Int) : writesI (slotS S k v) i k r = writesI S i k r := by
  have h1 : ∀ i j wr, countI (slotS S k v) i j wr = countI S i j wr := fun i j wr => by rw [countI, countI, slot_len]; rfl
  have h2 : objD (slotS S k v) k = setSl (objD S k) v := by rw [objD, objD, Int.toNat_natCast, slot_at S k v hk, if_pos rfl]
  have h3 : aheadO (slotS S k v) i k = aheadO S i k := by rw [aheadO, aheadO, h2]; rfl
  rw [writesI, writesI, readsB, readsB, slot_role S k v hk, h1, h1, h2, h3]
  rfl
theorem enough {S : System} {k : Nat} (hk : k < S.objects.length) (R : List Int) {i : Int} (hi : i ∈ (S.objects.getD k default).readers) :
    (0 < capsN S k R → failsI S i k (tickI R i) < capsN S k R) ∧ (0 < slotsI S k R → failsI (slotS S k (slotsI S k R)) i k (tickI R i) = 0) := by
  constructor
  · intro h
    rw [capsN] at h ⊢
    split at h
    · simp at h
    · rename_i h1
      rw [if_neg h1]
      rw [Int.toNat_natCast]
      have : failsI S i k (tickI R i) ≤ mxL (fun i => failsI S i k (tickI R i)) (S.objects.getD k default).readers := mxL_ge (g := fun i => failsI S i k (tickI R i)) hi
      omega
  · intro h
    have hsl : slotsI S k R = if (k : Int) < 0 ∨ (S.objects.length : Int) ≤ k ∨ (S.objects.getD (k : Int).toNat default).kind ≠ 4 then 0 else mxL (fun i => writesI S i k (tickI R i)) (S.objects.getD (k : Int).toNat default).readers + 2 := rfl
    by_cases h1 : (k : Int) < 0 ∨ (S.objects.length : Int) ≤ k ∨ (S.objects.getD (k : Int).toNat default).kind ≠ 4
    · rw [if_pos h1] at hsl; omega
    rw [if_neg h1, Int.toNat_natCast] at hsl
    have h4 : (S.objects.getD k default).kind = 4 := by
      rw [Int.toNat_natCast] at h1
      by_cases e : (S.objects.getD k default).kind = 4
      · exact e
      · exact absurd (.inr (.inr e)) h1
    have hw : writesI S i k (tickI R i) ≤ mxL (fun i => writesI S i k (tickI R i)) (S.objects.getD k default).readers := mxL_ge (g := fun i => writesI S i k (tickI R i)) hi
    have hw0 := writes_B S i k (tickI R i)
    rw [failsI, slot_writes S k _ hk, objD, Int.toNat_natCast, slot_at S k _ hk, if_pos rfl]
    generalize mxL (fun i => writesI S i k (tickI R i)) (S.objects.getD k default).readers = mx at *
    generalize writesI S i k (tickI R i) = w at *
    generalize slotsI S k R = v at *
    rw [failsO]
    by_cases e0 : w = 0
    · rw [if_pos e0]
    · have k1 : (setSl (S.objects.getD k default) v).kind = 4 := h4
      have k2 : (setSl (S.objects.getD k default) v).slots = v := rfl
      rw [if_neg e0, if_neg (by omega), if_pos k1, k2, if_pos (show 2 < v by omega)]
      exact Int.ediv_eq_zero_of_lt hw0.1 (by omega)
theorem slot_ok {S : System} (h : OkS S) (k : Nat) (v : Int) (hk : k < S.objects.length) (hv : v ≤ 9223372036854775807) : OkS (slotS S k v) := by
  have e : ∀ j, ((slotS S k v).objects.getD j default).init = (S.objects.getD j default).init ∧ ((slotS S k v).objects.getD j default).readers = (S.objects.getD j default).readers := fun j => by
    rw [slot_at S k v hk]
    split
    · rename_i e; subst e; exact ⟨rfl, rfl⟩
    · exact ⟨rfl, rfl⟩
  refine ⟨h.tl, by rw [slot_len]; exact h.ol, h.cl, fun j => by rw [(e j).1]; exact h.il j, fun j => by rw [(e j).2]; exact h.rl j, h.n, fun j => ?_⟩
  rw [slot_at S k v hk]
  split
  · exact hv
  · exact h.sl j
set_option maxHeartbeats 4000000 in
theorem sizeEnough_fn (S : System) (k : Int) (R : List Int) : Fn Try.prog 3 [.agg (eSystem S), .int .i64 k, .lst 1 (R.map eI)] (.bool true) := by
  have c0 := awake39_fn
  have c1 := few31_fn S 20 (by omega)
  refine fnb Try.func3 (entered_of (by kernel_rfl)) rfl rfl rfl ?_
  refine wsys 0 rfl (fun hn => ?_)
  cases hf : fewS S 20
  case false =>
    rw [hf] at c1
    repeat' (first | (show W _ _ _ _ _ _; first | apply kA | refine kB rfl ?_ | refine kC rfl rfl ?_ | refine kD rfl rfl ?_ | apply kE | apply kF | apply kG | apply kH | refine kI (by kernel_rfl) (by kernel_rfl) ?_) | (show O _ _ _ _ _ _ _; first | (show O _ _ _ _ (⟨_, .store _ _ _, _, _, _, _⟩ :: _) _ _; refine kJ rfl rfl rfl rfl rfl rfl rfl rfl rfl rfl rfl ?_) | apply kK) | apply kL | ((first | apply kM | apply kN); (iterate 3 (· exact rfl)); (· first | (show Y _ ⟨_, .call ⟨.value _, _, _⟩, _, _, _, _⟩ _ _ _; first | exact q_c (c0) rfl | exact q_c (c1) rfl) | exact ya)) | refine kO rfl rfl rfl rfl rfl ?_ | refine kP rfl rfl rfl ?_ | ((first | refine kQ rfl rfl ?_ ?_ | refine kR rfl rfl rfl rfl rfl ?_ ?_ | refine kS rfl rfl rfl ?_ ?_) <;> intro hc <;> (try simp only [KL, cond_true, cond_false, beq_iff_eq, bne_iff_ne, ne_eq, reduceCtorEq] at hc) <;> (try (have hT : True := hc; clear hT hc)) <;> (try (exfalso; omega))) | apply kT | apply kU | apply kV | apply kW | refine kX rfl ?_ | apply kY | apply kZ)
    all_goals exact retq rfl rfl
  have h := fewS_ok (by omega) hf hn
  have h2 := h.ol
  rw [hf] at c1
  by_cases hl : (R.length : Int) ≤ 100
  case neg =>
    repeat' (first | (show W _ _ _ _ _ _; first | apply kA | refine kB rfl ?_ | refine kC rfl rfl ?_ | refine kD rfl rfl ?_ | apply kE | apply kF | apply kG | apply kH | refine kI (by kernel_rfl) (by kernel_rfl) ?_) | (show O _ _ _ _ _ _ _; first | (show O _ _ _ _ (⟨_, .store _ _ _, _, _, _, _⟩ :: _) _ _; refine kJ rfl rfl rfl rfl rfl rfl rfl rfl rfl rfl rfl ?_) | apply kK) | apply kL | ((first | apply kM | apply kN); (iterate 3 (· exact rfl)); (· first | (show Y _ ⟨_, .call ⟨.value _, _, _⟩, _, _, _, _⟩ _ _ _; first | exact q_c (c0) rfl | exact q_c (c1) rfl) | exact ya)) | refine kO rfl rfl rfl rfl rfl ?_ | refine kP rfl rfl rfl ?_ | ((first | refine kQ rfl rfl ?_ ?_ | refine kR rfl rfl rfl rfl rfl ?_ ?_ | refine kS rfl rfl rfl ?_ ?_) <;> intro hc <;> (try simp only [KL, cond_true, cond_false, beq_iff_eq, bne_iff_ne, ne_eq, reduceCtorEq] at hc) <;> (try (have hT : True := hc; clear hT hc)) <;> (try (exfalso; omega))) | apply kT | apply kU | apply kV | apply kW | refine kX rfl ?_ | apply kY | apply kZ)
    all_goals first | (exfalso; omega) | exact retq rfl rfl
  by_cases hk : k < 0 ∨ (S.objects.length : Int) ≤ k
  · repeat' (first | (show W _ _ _ _ _ _; first | apply kA | refine kB rfl ?_ | refine kC rfl rfl ?_ | refine kD rfl rfl ?_ | apply kE | apply kF | apply kG | apply kH | refine kI (by kernel_rfl) (by kernel_rfl) ?_) | (show O _ _ _ _ _ _ _; first | (show O _ _ _ _ (⟨_, .store _ _ _, _, _, _, _⟩ :: _) _ _; refine kJ rfl rfl rfl rfl rfl rfl rfl rfl rfl rfl rfl ?_) | apply kK) | apply kL | ((first | apply kM | apply kN); (iterate 3 (· exact rfl)); (· first | (show Y _ ⟨_, .call ⟨.value _, _, _⟩, _, _, _, _⟩ _ _ _; first | exact q_c (c0) rfl | exact q_c (c1) rfl) | exact ya)) | refine kO rfl rfl rfl rfl rfl ?_ | refine kP rfl rfl rfl ?_ | ((first | refine kQ rfl rfl ?_ ?_ | refine kR rfl rfl rfl rfl rfl ?_ ?_ | refine kS rfl rfl rfl ?_ ?_) <;> intro hc <;> (try simp only [KL, cond_true, cond_false, beq_iff_eq, bne_iff_ne, ne_eq, reduceCtorEq] at hc) <;> (try (have hT : True := hc; clear hT hc)) <;> (try (exfalso; omega))) | apply kT | apply kU | apply kV | apply kW | refine kX rfl ?_ | apply kY | apply kZ)
    all_goals first | (exfalso; omega) | exact retq rfl rfl
  obtain ⟨p, rfl⟩ : ∃ p : Nat, k = p := ⟨k.toNat, by omega⟩
  have hpl : p < S.objects.length := by omega
  have c2 := slots_fn S h p R (by omega)
  have c3 := capsN_fn S h p R (by omega)
  have hsb : 0 ≤ slotsI S p R ∧ slotsI S p R ≤ 1099511627778 := by
    rw [slotsI]
    split
    · omega
    · have := mxL_B (g := fun i => writesI S i p (tickI R i)) (fun i => writes_B S i p _) (S.objects.getD (p : Int).toNat default).readers
      omega
  have hen := fun i hi => enough hpl R (i := i) hi
  have c4 := fun i r => fails_fn S h i p r
  have c5 := fun i r => fails_fn (slotS S p (slotsI S p R)) (slot_ok h p _ hpl (by omega)) i p r
  have hrl := h.rl p
  have hS2 : slotS S p (slotsI S p R) = ⟨S.tasks, S.objects.set p (setSl (S.objects.getD p default) (slotsI S p R))⟩ := rfl
  rw [hS2] at c5 hen
  clear hS2
  generalize slotsI S p R = n at *
  generalize capsN S p R = cp at *
  obtain ⟨ts, os⟩ := S
  dsimp only at h2 hpl hk hen hrl c5
  repeat' (first | (show W _ _ _ _ _ _; first | apply kA | refine kB rfl ?_ | refine kC rfl rfl ?_ | refine kD rfl rfl ?_ | apply kE | apply kF | apply kG | apply kH | refine kI (by kernel_rfl) (by kernel_rfl) ?_) | (show O _ _ _ _ _ _ _; first | (show O _ _ _ _ (⟨_, .alloc _, _, _, _, _⟩ :: _) _ _; first | refine ao_alloc (id := 10) rfl rfl rfl rfl rfl rfl rfl ?_) | (show O _ _ _ _ (⟨_, .store _ _ _, _, _, _, _⟩ :: _) _ _; refine kJ rfl rfl rfl rfl rfl rfl rfl rfl rfl rfl rfl ?_) | apply kK) | apply kL | ((first | apply kM | apply kN); (iterate 3 (· exact rfl)); (· first | (show Y _ ⟨_, .call ⟨.value _, _, _⟩, _, _, _, _⟩ _ _ _; first | exact q_c (c0) rfl | exact q_c (c1) rfl | exact q_c (c2) rfl | exact q_c (c3) rfl) | exact yag)) | refine kO rfl rfl rfl rfl rfl ?_ | refine kP rfl rfl rfl ?_ | ((first | refine kQ rfl rfl ?_ ?_ | refine kR rfl rfl rfl rfl rfl ?_ ?_ | refine kS rfl rfl rfl ?_ ?_) <;> intro hc <;> (try simp only [KL, cond_true, cond_false, beq_iff_eq, bne_iff_ne, ne_eq, reduceCtorEq] at hc) <;> (try (have hT : True := hc; clear hT hc)) <;> (try (exfalso; omega))) | apply kT | apply kU | apply kV | apply kW | refine kX rfl ?_ | apply kY | apply kZ)
  all_goals first | (exfalso; omega) | skip
  refine o_blit (f := eObject) (l := []) (id := 11) (sz := 8) rfl rfl rfl rfl rfl rfl rfl rfl rfl rfl rfl rfl rfl rfl ?_
  repeat' (first | (show W _ _ _ _ _ _; first | apply kA | refine kB rfl ?_ | refine kC rfl rfl ?_ | refine kD rfl rfl ?_ | apply kE | apply kF | apply kG | apply kH | refine kI (by kernel_rfl) (by kernel_rfl) ?_) | (show O _ _ _ _ _ _ _; first | (show O _ _ _ _ (⟨_, .store _ _ _, _, _, _, _⟩ :: _) _ _; refine kJ rfl rfl rfl rfl rfl rfl rfl rfl rfl rfl rfl ?_) | apply kK) | apply kL | ((first | apply kM | apply kN); (iterate 3 (· exact rfl)); (· first | exact ya)) | refine kO rfl rfl rfl rfl rfl ?_ | refine kP rfl rfl rfl ?_ | ((first | refine kQ rfl rfl ?_ ?_ | refine kR rfl rfl rfl rfl rfl ?_ ?_ | refine kS rfl rfl rfl ?_ ?_) <;> intro hc <;> (try simp only [KL, cond_true, cond_false, beq_iff_eq, bne_iff_ne, ne_eq, reduceCtorEq] at hc) <;> (try (have hT : True := hc; clear hT hc)) <;> (try (exfalso; omega))) | apply kT | apply kU | apply kV | apply kW | refine kX rfl ?_ | apply kY | apply kZ)
  (refine ao_ap (id := 11) (ys := os) (by_ := 96) rfl rfl rfl rfl rfl rfl rfl rfl rfl rfl (fun _ _ => rfl) ?_ ?_ rfl rfl rfl rfl rfl ?_; (· (first | omega | ((try simp only [List.length_cons, List.length_nil, List.length_append, List.length_map]) <;> omega))); (· (first | omega | ((try simp only [List.length_cons, List.length_nil, List.length_append, List.length_map]) <;> omega))))
  refine ole (h' := [(11, .row 33 8 (os.map eObject)), (10, .blk 25 (eSystem ⟨ts, os⟩))]) (LeS.refl _) leh ?_
  obtain ⟨o, ho⟩ : ∃ o, os.getD p default = o := ⟨_, rfl⟩
  obtain ⟨l, hlq⟩ : ∃ l, o.readers = l := ⟨_, rfl⟩
  have hll : l.length ≤ 100 := by rw [← hlq, ← ho]; exact hrl
  have hen : ∀ i ∈ l, _ := fun i hi => hen i (by rw [ho, hlq]; exact hi)
  by_cases hn0 : 0 < n
  · repeat' (first | (show W _ _ _ _ _ _; first | apply kA | refine kB rfl ?_ | refine kC rfl rfl ?_ | refine kD rfl rfl ?_ | apply kE | apply kF | apply kG | apply kH | refine kI (by kernel_rfl) (by kernel_rfl) ?_) | (show O _ _ _ _ _ _ _; first | (show O _ _ _ _ (⟨_, .store _ _ _, _, _, _, _⟩ :: _) _ _; refine kJ rfl rfl rfl rfl rfl rfl rfl rfl rfl rfl rfl ?_) | apply kK) | apply kL | ((first | apply kM | apply kN); (iterate 3 (· exact rfl)); (· first | (show Y _ ⟨_, .indexAddr _ _ _, _, _, _, _⟩ _ _ _; first | exact q_ioE (p) rfl rfl rfl rfl rfl rfl (by omega) (by omega)) | exact ya)) | refine kO rfl rfl rfl rfl rfl ?_ | refine kP rfl rfl rfl ?_ | ((first | refine kQ rfl rfl ?_ ?_ | refine kR rfl rfl rfl rfl rfl ?_ ?_ | refine kS rfl rfl rfl ?_ ?_) <;> intro hc <;> (try simp only [KL, cond_true, cond_false, beq_iff_eq, bne_iff_ne, ne_eq, reduceCtorEq] at hc) <;> (try (have hT : True := hc; clear hT hc)) <;> (try (exfalso; omega))) | apply kT | apply kU | apply kV | apply kW | refine kX rfl ?_ | apply kY | apply kZ)
    all_goals first | (exfalso; omega) | skip
    (refine ao_se (x' := setSl (os.getD p default) n) rfl rfl rfl rfl rfl rfl rfl rfl rfl ?_ rfl rfl rfl ?_; (· (first | omega | ((try simp only [List.length_set, List.length_cons, List.length_nil, List.length_append, List.length_map]) <;> omega))))
    repeat' (first | (show W _ _ _ _ _ _; first | apply kA | refine kB rfl ?_ | refine kC rfl rfl ?_ | refine kD rfl rfl ?_ | apply kE | apply kF | apply kG | apply kH | refine kI (by kernel_rfl) (by kernel_rfl) ?_) | (show O _ _ _ _ _ _ _; first | (show O _ _ _ _ (⟨_, .store _ _ _, _, _, _, _⟩ :: _) _ _; refine kJ rfl rfl rfl rfl rfl rfl rfl rfl rfl rfl rfl ?_) | apply kK) | apply kL | ((first | apply kM | apply kN); (iterate 3 (· exact rfl)); (· first | (show Y _ ⟨_, .indexAddr _ _ _, _, _, _, _⟩ _ _ _; first | exact Y.mk (ok_indexE (ho) rfl rfl rfl rfl rfl (by omega))) | exact ya)) | refine kO rfl rfl rfl rfl rfl ?_ | refine kP rfl rfl rfl ?_ | ((first | refine kQ rfl rfl ?_ ?_ | refine kR rfl rfl rfl rfl rfl ?_ ?_ | refine kS rfl rfl rfl ?_ ?_) <;> intro hc <;> (try simp only [KL, cond_true, cond_false, beq_iff_eq, bne_iff_ne, ne_eq, reduceCtorEq] at hc) <;> (try (have hT : True := hc; clear hT hc)) <;> (try (exfalso; omega))) | apply kT | apply kU | apply kV | apply kW | refine kX rfl ?_ | apply kY | apply kZ)
    all_goals first | (exfalso; omega) | skip
    refine wloop (fun j : Nat => ([(1, .int .i64 p), (2, .lst 1 (R.map eI)), (3, .ref (eSystem ⟨ts, os⟩)), (7, .int .i64 n), (8, .int .i64 cp), (9, .ptr 10 0), (60, .lst 1 (l.map eI)), (61, .int .i64 l.length), (62, .int .i64 j)], [(10, .blk 25 [.lst 7 (ts.map eTask), .own 11]), (11, .row 33 8 ((os.set p (setSl (os.getD p default) n)).map eObject))])) (fun j => j ≤ l.length) (fun j => l.length - j) 0 (Nat.zero_le _) (by rw [← hlq]; exact les) leh (fun j hj => ?_)
    rcases Nat.lt_or_eq_of_le hj with hjl | hjl
    · obtain ⟨i, hi⟩ : ∃ i, l.getD j default = i := ⟨_, rfl⟩
      have hie := hen i (hi ▸ getD_mem hjl)
      have c6 := rticks_fn R i (by omega)
      have c7 := c4 i (tickI R i)
      have c8 := c5 i (tickI R i)
      generalize tickI R i = r at *
      generalize failsI ⟨ts, os⟩ i p r = f1 at *
      generalize failsI ⟨ts, os.set p (setSl (os.getD p default) n)⟩ i p r = f2 at *
      repeat' (first | (show W _ _ _ _ _ _; first | apply kA | refine kB rfl ?_ | refine kC rfl rfl ?_ | refine kD rfl rfl ?_ | apply kE | apply kF | apply kG | apply kH | refine kI (by kernel_rfl) (by kernel_rfl) ?_) | (show O _ _ _ _ _ _ _; first | (show O _ _ _ _ (⟨_, .store _ _ _, _, _, _, _⟩ :: _) _ _; refine kJ rfl rfl rfl rfl rfl rfl rfl rfl rfl rfl rfl ?_) | apply kK) | apply kL | ((first | apply kM | apply kN); (iterate 3 (· exact rfl)); (· first | (show Y _ ⟨_, .indexAddr _ _ _, _, _, _, _⟩ _ _ _; first | exact Y.mk (ok_indexE (hi) rfl rfl rfl rfl rfl (by omega))) | (show Y _ ⟨_, .call ⟨.value _, _, _⟩, _, _, _, _⟩ _ _ _; first | exact q_c (c6) rfl | exact q_c (c7) rfl) | exact ya | exact Y.mk (ok_lend c8 rfl rfl rfl))) | refine kO rfl rfl rfl rfl rfl ?_ | refine kP rfl rfl rfl ?_ | ((first | refine kQ rfl rfl ?_ ?_ | refine kR rfl rfl rfl rfl rfl ?_ ?_ | refine kS rfl rfl rfl ?_ ?_) <;> intro hc <;> (try simp only [KL, cond_true, cond_false, beq_iff_eq, bne_iff_ne, ne_eq, reduceCtorEq] at hc) <;> (try (have hT : True := hc; clear hT hc)) <;> (try (exfalso; omega))) | apply kT | apply kU | apply kV | apply kW | refine kX rfl ?_ | apply kY | apply kZ)
      all_goals first | (exfalso; omega) | exact ⟨j + 1, by omega, by omega, les, leh⟩
    · subst hjl
      repeat' (first | (show W _ _ _ _ _ _; first | apply kA | refine kB rfl ?_ | refine kC rfl rfl ?_ | refine kD rfl rfl ?_ | apply kE | apply kF | apply kG | apply kH | refine kI (by kernel_rfl) (by kernel_rfl) ?_) | (show O _ _ _ _ _ _ _; first | (show O _ _ _ _ (⟨_, .store _ _ _, _, _, _, _⟩ :: _) _ _; refine kJ rfl rfl rfl rfl rfl rfl rfl rfl rfl rfl rfl ?_) | apply kK) | apply kL | ((first | apply kM | apply kN); (iterate 3 (· exact rfl)); (· first | (show Y _ ⟨_, .call ⟨.value _, _, _⟩, _, _, _, _⟩ _ _ _; first | exact q_c (c0) rfl) | exact ya)) | refine kO rfl rfl rfl rfl rfl ?_ | refine kP rfl rfl rfl ?_ | ((first | refine kQ rfl rfl ?_ ?_ | refine kR rfl rfl rfl rfl rfl ?_ ?_ | refine kS rfl rfl rfl ?_ ?_) <;> intro hc <;> (try simp only [KL, cond_true, cond_false, beq_iff_eq, bne_iff_ne, ne_eq, reduceCtorEq] at hc) <;> (try (have hT : True := hc; clear hT hc)) <;> (try (exfalso; omega))) | apply kT | apply kU | apply kV | apply kW | refine kX rfl ?_ | apply kY | apply kZ)
      all_goals first | (exfalso; omega) | exact retq rfl rfl
  · repeat' (first | (show W _ _ _ _ _ _; first | apply kA | refine kB rfl ?_ | refine kC rfl rfl ?_ | refine kD rfl rfl ?_ | apply kE | apply kF | apply kG | apply kH | refine kI (by kernel_rfl) (by kernel_rfl) ?_) | (show O _ _ _ _ _ _ _; first | (show O _ _ _ _ (⟨_, .store _ _ _, _, _, _, _⟩ :: _) _ _; refine kJ rfl rfl rfl rfl rfl rfl rfl rfl rfl rfl rfl ?_) | apply kK) | apply kL | ((first | apply kM | apply kN); (iterate 3 (· exact rfl)); (· first | (show Y _ ⟨_, .indexAddr _ _ _, _, _, _, _⟩ _ _ _; first | exact Y.mk (ok_indexE (ho) rfl rfl rfl rfl rfl (by omega))) | exact ya)) | refine kO rfl rfl rfl rfl rfl ?_ | refine kP rfl rfl rfl ?_ | ((first | refine kQ rfl rfl ?_ ?_ | refine kR rfl rfl rfl rfl rfl ?_ ?_ | refine kS rfl rfl rfl ?_ ?_) <;> intro hc <;> (try simp only [KL, cond_true, cond_false, beq_iff_eq, bne_iff_ne, ne_eq, reduceCtorEq] at hc) <;> (try (have hT : True := hc; clear hT hc)) <;> (try (exfalso; omega))) | apply kT | apply kU | apply kV | apply kW | refine kX rfl ?_ | apply kY | apply kZ)
    all_goals first | (exfalso; omega) | skip
    refine wloop (fun j : Nat => ([(1, .int .i64 p), (2, .lst 1 (R.map eI)), (3, .ref (eSystem ⟨ts, os⟩)), (7, .int .i64 n), (8, .int .i64 cp), (9, .ptr 10 0), (60, .lst 1 (l.map eI)), (61, .int .i64 l.length), (62, .int .i64 j)], [(10, .blk 25 [.lst 7 (ts.map eTask), .own 11]), (11, .row 33 8 ((os).map eObject))])) (fun j => j ≤ l.length) (fun j => l.length - j) 0 (Nat.zero_le _) (by rw [← hlq]; exact les) leh (fun j hj => ?_)
    rcases Nat.lt_or_eq_of_le hj with hjl | hjl
    · obtain ⟨i, hi⟩ : ∃ i, l.getD j default = i := ⟨_, rfl⟩
      have hie := hen i (hi ▸ getD_mem hjl)
      have c6 := rticks_fn R i (by omega)
      have c7 := c4 i (tickI R i)
      have c8 := c5 i (tickI R i)
      generalize tickI R i = r at *
      generalize failsI ⟨ts, os⟩ i p r = f1 at *
      generalize failsI ⟨ts, os.set p (setSl (os.getD p default) n)⟩ i p r = f2 at *
      repeat' (first | (show W _ _ _ _ _ _; first | apply kA | refine kB rfl ?_ | refine kC rfl rfl ?_ | refine kD rfl rfl ?_ | apply kE | apply kF | apply kG | apply kH | refine kI (by kernel_rfl) (by kernel_rfl) ?_) | (show O _ _ _ _ _ _ _; first | (show O _ _ _ _ (⟨_, .store _ _ _, _, _, _, _⟩ :: _) _ _; refine kJ rfl rfl rfl rfl rfl rfl rfl rfl rfl rfl rfl ?_) | apply kK) | apply kL | ((first | apply kM | apply kN); (iterate 3 (· exact rfl)); (· first | (show Y _ ⟨_, .indexAddr _ _ _, _, _, _, _⟩ _ _ _; first | exact Y.mk (ok_indexE (hi) rfl rfl rfl rfl rfl (by omega))) | (show Y _ ⟨_, .call ⟨.value _, _, _⟩, _, _, _, _⟩ _ _ _; first | exact q_c (c6) rfl | exact q_c (c7) rfl | exact q_c (c7) rfl) | exact ya)) | refine kO rfl rfl rfl rfl rfl ?_ | refine kP rfl rfl rfl ?_ | ((first | refine kQ rfl rfl ?_ ?_ | refine kR rfl rfl rfl rfl rfl ?_ ?_ | refine kS rfl rfl rfl ?_ ?_) <;> intro hc <;> (try simp only [KL, cond_true, cond_false, beq_iff_eq, bne_iff_ne, ne_eq, reduceCtorEq] at hc) <;> (try (have hT : True := hc; clear hT hc)) <;> (try (exfalso; omega))) | apply kT | apply kU | apply kV | apply kW | refine kX rfl ?_ | apply kY | apply kZ)
      all_goals first | (exfalso; omega) | exact ⟨j + 1, by omega, by omega, les, leh⟩
    · subst hjl
      repeat' (first | (show W _ _ _ _ _ _; first | apply kA | refine kB rfl ?_ | refine kC rfl rfl ?_ | refine kD rfl rfl ?_ | apply kE | apply kF | apply kG | apply kH | refine kI (by kernel_rfl) (by kernel_rfl) ?_) | (show O _ _ _ _ _ _ _; first | (show O _ _ _ _ (⟨_, .store _ _ _, _, _, _, _⟩ :: _) _ _; refine kJ rfl rfl rfl rfl rfl rfl rfl rfl rfl rfl rfl ?_) | apply kK) | apply kL | ((first | apply kM | apply kN); (iterate 3 (· exact rfl)); (· first | (show Y _ ⟨_, .call ⟨.value _, _, _⟩, _, _, _, _⟩ _ _ _; first | exact q_c (c0) rfl) | exact ya)) | refine kO rfl rfl rfl rfl rfl ?_ | refine kP rfl rfl rfl ?_ | ((first | refine kQ rfl rfl ?_ ?_ | refine kR rfl rfl rfl rfl rfl ?_ ?_ | refine kS rfl rfl rfl ?_ ?_) <;> intro hc <;> (try simp only [KL, cond_true, cond_false, beq_iff_eq, bne_iff_ne, ne_eq, reduceCtorEq] at hc) <;> (try (have hT : True := hc; clear hT hc)) <;> (try (exfalso; omega))) | apply kT | apply kU | apply kV | apply kW | refine kX rfl ?_ | apply kY | apply kZ)
      all_goals first | (exfalso; omega) | exact retq rfl rfl
end Go.Proofs.Ytkkmageogkkchaa
