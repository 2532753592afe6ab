/- slices.Clone at []Task. No condition but a size. -/
import Derived.Test.YtfjoaeghnfkdlaaGreatDoorC11
import Derived.Test.YtfjoaeghnfkdlaaGreatDoorC10
import Derived.Test.YtfjoaeghnfkdlaaGreatDoorC13
import Derived.Test.YtfjoaeghnfkdlaaGreatDoorC12
import Derived.Test.YtfjoaeghnfkdlaaGreatDoorC14
import Derived.Test.YtfjoaeghnfkdlaaGreatDoorC7
import Derived.Test.YtfjoaeghnfkdlaaGreatDoorC9
set_option linter.unusedSimpArgs false
set_option linter.unusedVariables false
set_option maxHeartbeats 1000000
namespace Go.Proofs.YtfjoaeghnfkdlaaGreatDoor
set_option maxRecDepth 100000
set_option maxRecDepth 100000
open Go.RowKit
theorem clV_Task (l : List Task) (hn : l.length ≤ 1000000) : Fn Tryz.prog 35 [.lst 7 (l.map eTask)] (.lst 7 (l.map eTask)) := by
  refine fnb Tryz.func35 (entered_of (by kernel_rfl)) rfl rfl rfl ?_
  repeat' (first | refine sA ?_ | ((first | apply kM | apply kN); (iterate 3 (· exact rfl)); (· first | exact ya)) | refine sG ?_ | (refine sK ?_ ?_ <;> intro hc <;> (try simp only [KL, sL, reduceCtorEq] at hc) <;> (try (have hT : True := hc; clear hT hc)) <;> (try (exfalso; omega))))
  refine ao_nilq rfl rfl rfl rfl rfl rfl rfl (fun b hb => ?_)
  cases b
  · repeat' (first | refine sA ?_ | ((first | apply kM | apply kN); (iterate 3 (· exact rfl)); (· first | exact yag)) | refine sG ?_ | (refine sK ?_ ?_ <;> intro hc <;> (try simp only [KL, sL, reduceCtorEq] at hc) <;> (try (have hT : True := hc; clear hT hc)) <;> (try (exfalso; omega))))
    refine o_blit (f := eTask) (l := []) (id := 10) (sz := 7) rfl rfl rfl rfl rfl rfl rfl rfl rfl rfl rfl rfl rfl rfl ?_
    repeat' (first | refine sA ?_ | ((first | apply kM | apply kN); (iterate 3 (· exact rfl)); (· first | exact ya)) | refine sG ?_ | (refine sK ?_ ?_ <;> intro hc <;> (try simp only [KL, sL, reduceCtorEq] at hc) <;> (try (have hT : True := hc; clear hT hc)) <;> (try (exfalso; omega))))
    (refine ao_ap (id := 10) (ys := l) (by_ := 72) rfl rfl rfl rfl rfl rfl rfl rfl rfl rfl (fun _ _ => rfl) ?_ ?_ rfl rfl rfl rfl rfl ?_; (· (first | omega | ((try simp only [List.length_cons, List.length_nil, List.length_append, List.length_map]) <;> omega))); (· (first | omega | ((try simp only [List.length_cons, List.length_nil, List.length_append, List.length_map]) <;> omega))))
    repeat' (first | refine sA ?_ | ((first | apply kM | apply kN); (iterate 3 (· exact rfl)); (· first | exact ya)) | refine sG ?_ | (refine sK ?_ ?_ <;> intro hc <;> (try simp only [KL, sL, reduceCtorEq] at hc) <;> (try (have hT : True := hc; clear hT hc)) <;> (try (exfalso; omega))))
    refine retT (fun _ => turn_freeze (t := 2) rfl rfl rfl) ?_
    exact retq rfl rfl
  · have h0 : l = [] := by simpa using hb rfl
    subst h0
    repeat' (first | refine sA ?_ | ((first | apply kM | apply kN); (iterate 3 (· exact rfl)); (· first | exact ya)) | refine sG ?_ | (refine sK ?_ ?_ <;> intro hc <;> (try simp only [KL, sL, reduceCtorEq] at hc) <;> (try (have hT : True := hc; clear hT hc)) <;> (try (exfalso; omega))))
    refine retT (fun _ => turn_nil 7 (t := 2) rfl) ?_
    exact retq rfl rfl
end Go.Proofs.YtfjoaeghnfkdlaaGreatDoor
namespace Go.Proofs.YtfjoaeghnfkdlaaGreatDoor
set_option maxRecDepth 100000
set_option maxRecDepth 100000
open Go.RowKit
def fewQ (l : List Task) (m : Int) : Bool := decide ((l.length : Int) ≤ m) && l.all fun t => decide (t.code.length ≤ 200)
theorem few_fn (l : List Task) (m : Int) (hm : m ≤ 1000000) : Fn Tryz.prog 6 [.lst 7 (l.map eTask), .int .i64 m] (.bool (fewQ l m)) := by
  refine fnb Tryz.func6 (entered_of (by kernel_rfl)) rfl rfl rfl ?_
  by_cases hlm : (l.length : Int) ≤ m
  · repeat' (first | refine sA ?_ | ((first | apply kM | apply kN); (iterate 3 (· exact rfl)); (· first | exact ya)) | refine sG ?_ | (refine sK ?_ ?_ <;> intro hc <;> (try simp only [KL, sL, reduceCtorEq] at hc) <;> (try (have hT : True := hc; clear hT hc)) <;> (try (exfalso; omega))))
    all_goals first | (exfalso; omega) | skip
    refine wloop (fun k : Nat => ([(11, .lst 7 (l.map eTask)), (12, .int .i64 l.length), (13, .int .i64 k)], [])) (fun k => k ≤ l.length ∧ ∀ j, j < k → (l.getD j default).code.length ≤ 200) (fun k => l.length - k) 0 ⟨Nat.zero_le _, fun j h => absurd h (Nat.not_lt_zero _)⟩ les leh (fun k hk => ?_)
    obtain ⟨hk, hp⟩ := hk
    repeat' (first | refine sA ?_ | (show O _ _ _ _ _ _ _; first | refine ao_alloc (id := 16) rfl rfl rfl rfl rfl rfl rfl ?_) | ((first | apply kM | apply kN); (iterate 3 (· exact rfl)); (· first | exact ya)) | refine sG ?_ | (refine sK ?_ ?_ <;> intro hc <;> (try simp only [KL, sL, reduceCtorEq] at hc) <;> (try (have hT : True := hc; clear hT hc)) <;> (try (exfalso; omega))))
    · refine retq rfl (congrArg AV.bool ?_)
      symm
      rw [fewQ, Bool.and_eq_false_iff]
      refine .inr (List.all_eq_false.2 ⟨l.getD k default, getD_mem (by omega), ?_⟩)
      simp only [decide_eq_true_eq]; omega
    · exact ⟨k + 1, ⟨by omega, fun j hj => by
        by_cases e : j = k
        · subst e; omega
        · exact hp j (by omega)⟩, by omega, les, leh⟩
    · obtain rfl : k = l.length := by omega
      refine retq rfl (congrArg AV.bool ?_)
      symm
      rw [fewQ, Bool.and_eq_true]
      refine ⟨decide_eq_true hlm, List.all_eq_true.2 fun t ht => ?_⟩
      obtain ⟨j, hj, rfl⟩ := List.getElem_of_mem ht
      have := hp j hj
      simpa [hj] using this
  · repeat' (first | refine sA ?_ | ((first | apply kM | apply kN); (iterate 3 (· exact rfl)); (· first | exact ya)) | refine sG ?_ | (refine sK ?_ ?_ <;> intro hc <;> (try simp only [KL, sL, reduceCtorEq] at hc) <;> (try (have hT : True := hc; clear hT hc)) <;> (try (exfalso; omega))))
    all_goals first | (exfalso; omega) | skip
    exact retq rfl (congrArg AV.bool (by rw [fewQ, decide_eq_false hlm]; rfl))
end Go.Proofs.YtfjoaeghnfkdlaaGreatDoor
namespace Go.Proofs.YtfjoaeghnfkdlaaGreatDoor
set_option maxRecDepth 100000
set_option maxRecDepth 100000
open Go.RowKit
def LeV0 (x y : AV) : Prop := ∀ σ v, VR0 σ x v → VR0 σ y v
theorem LeV0.refl (x : AV) : LeV0 x x := fun _ _ h => h
theorem LeV0.nils (sz : Nat) : LeV0 .nils (.lst sz []) := fun σ v h => by
  cases h; exact .empty sz none 0 (by simp)
theorem LeV0.lst {sz : Nat} {xs ys : List (List AV)} (hl : xs.map (·.length) = ys.map (·.length)) (h : L2 LeV0 xs.flatten ys.flatten) : LeV0 (.lst sz xs) (.lst sz ys) := fun σ v h0 => by
  have hlen : xs.length = ys.length := by have := congrArg List.length hl; simpa using this
  cases h0 with
  | empty _ A cap hc =>
    have : ys = [] := List.eq_nil_of_length_eq_zero (by rw [← hlen]; rfl)
    subst this
    exact .empty sz A cap hc
  | lst _ _ b off cap g h1 h2 h3 h4 h5 =>
    rw [hlen] at h1 ⊢
    have hx : ∀ (j : Nat) (c : AV), ys.flatten[j]? = some c → ∃ c', xs.flatten[j]? = some c' ∧ LeV0 c' c := fun j c hc => by
      have hj : j < xs.flatten.length := by rw [h.1]; exact (List.getElem?_eq_some_iff.1 hc).1
      exact ⟨_, List.getElem?_eq_getElem hj, h.2 j _ c (List.getElem?_eq_getElem hj) hc⟩
    refine .lst sz ys b off cap g h1 h2 (fun c hc => ?_) (fun j c hc => ?_) (fun j c hc => ?_)
    · obtain ⟨i, hi, rfl⟩ := List.getElem_of_mem hc
      have e : (xs.map (·.length))[i]? = (ys.map (·.length))[i]? := by rw [hl]
      have hi' : i < xs.length := by omega
      simp [hi, hi'] at e
      rw [← e]; exact h3 _ (List.getElem_mem hi')
    · obtain ⟨c', e1, _⟩ := hx j c hc
      exact h4 j c' e1
    · obtain ⟨c', e1, e2⟩ := hx j c hc
      exact e2 _ _ (h5 j c' e1)
def flatLst : AV → Bool
  | .lst _ _ | .nils => true
  | _ => false
theorem LeV.of0 {x y : AV} (hx : flatLst x = true) (h : LeV0 x y) : LeV x y := fun σ ι v hv => by
  cases hv with
  | base _ _ h0 => exact .base _ _ (h σ v h0)
  | own => cases hx
  | ptr => cases hx
  | eptr => cases hx
  | part => cases hx
  | pptr => cases hx
  | agg => cases hx
  | tup => cases hx
  | fn => cases hx
theorem lelst {sz : Nat} {xs ys : List (List AV)} (hl : xs.map (·.length) = ys.map (·.length) := by rfl) (h : L2 LeV0 xs.flatten ys.flatten := by (simp only [List.flatten, List.map, List.cons_append, List.nil_append]; repeat' (first | exact L2.nil _ | refine L2.cons ?_ ?_ | exact LeV0.refl _ | exact LeV0.nils _ | refine LeV0.lst rfl ?_))) : LeV (.lst sz xs) (.lst sz ys) := LeV.of0 rfl (LeV0.lst hl h)
end Go.Proofs.YtfjoaeghnfkdlaaGreatDoor
namespace Go.Proofs.YtfjoaeghnfkdlaaGreatDoor
set_option maxRecDepth 100000
set_option maxRecDepth 100000
open Go.RowKit
def hd64 (l : List Task) : List Task := l.take (min l.length 64)
theorem hd64_len (l : List Task) : (hd64 l).length ≤ 64 ∧ (hd64 l).length ≤ l.length := by unfold hd64; rw [List.length_take]; omega
theorem new28_fn (l : List Task) (hl : l.length ≤ 1000000) : FnH Tryz.prog 36 [.lst 7 (l.map eTask)] [(5, .row 3 1 []), (6, .row 3 1 []), (7, .row 3 1 [])]
    (fun r h' => r = .ptr 5 0 ∧ h' = [(5, .blk 127 [.lst 7 ((hd64 l).map eTask), .nils, .own 6, .own 7, .int .u64 0, .nils]), (6, mI []), (7, mI [])]) := by
  refine fnhb Tryz.func36 (entered_of (by kernel_rfl)) rfl rfl ?_
  refine wle (s' := [(0, .lst 7 (l.map eTask))]) (h' := []) les (LeH.nil _) ?_
  have hh := hd64_len l
  have c1 := clV_Task (hd64 l) (by omega)
  repeat' (first | refine sA ?_ | ((first | apply kM | apply kN); (iterate 3 (· exact rfl)); (· first | exact ya)) | refine sG ?_ | (refine sK ?_ ?_ <;> intro hc <;> (try simp only [KL, sL, reduceCtorEq] at hc) <;> (try (have hT : True := hc; clear hT hc)) <;> (try (exfalso; omega))))
  refine ole (s' := [(3, .lst 7 (l.map eTask)), (6, .int .i64 (min l.length 64 : Nat))]) (h' := []) les (LeH.nil _) ?_
  repeat' (first | refine sA ?_ | ((first | apply kM | apply kN); (iterate 3 (· exact rfl)); (· first | exact ya | exact q_c (c1) rfl)) | refine sG ?_ | (refine sK ?_ ?_ <;> intro hc <;> (try simp only [KL, sL, reduceCtorEq] at hc) <;> (try (have hT : True := hc; clear hT hc)) <;> (try (exfalso; omega))))
  refine ao_mm 6 (fun n : Int => AV.int .i64 n) rfl rfl rfl rfl ?_
  repeat' (first | refine sA ?_ | ((first | apply kM | apply kN); (iterate 3 (· exact rfl)); (· first | exact ya)) | refine sG ?_ | (refine sK ?_ ?_ <;> intro hc <;> (try simp only [KL, sL, reduceCtorEq] at hc) <;> (try (have hT : True := hc; clear hT hc)) <;> (try (exfalso; omega))))
  refine ao_mm 7 (fun n : Int => AV.int .i64 n) rfl rfl rfl rfl ?_
  repeat' (first | refine sA ?_ | (show O _ _ _ _ _ _ _; first | (show O _ _ _ _ (⟨_, .box _ _, _, _, _, _⟩ :: _) _ _; first | refine ao_box (id := 5) rfl rfl rfl rfl rfl rfl rfl rfl ?_)) | ((first | apply kM | apply kN); (iterate 3 (· exact rfl)); (· first | exact yab)) | refine sG ?_ | (refine sK ?_ ?_ <;> intro hc <;> (try simp only [KL, sL, reduceCtorEq] at hc) <;> (try (have hT : True := hc; clear hT hc)) <;> (try (exfalso; omega))))
  exact reth (h' := [(5, .blk 127 [.lst 7 ((hd64 l).map eTask), .nils, .own 6, .own 7, .int .u64 0, .nils]), (6, mI []), (7, mI [])]) rfl leh ⟨rfl, rfl⟩
def ρn (i : Nat) : Nat := [20, 21, 22, 23, 24, 10, 12, 13].getD i (i + 20)
def ρb (i : Nat) : Nat := [10, 21, 12, 13, 24, 15, 16, 9].getD i (i + 20)
abbrev ldB (l : List Task) (B : Bk) : Heap :=
  [(10, .blk 127 [.lst 7 (l.map eTask), .own 15, .own 12, .own 13, .int .u64 B.act, .own 16]), (15, .row 71 8 (B.all.map eJob)), (12, mI B.now), (13, mI B.cnt), (16, .row 60 2 (B.overs.map eDue)), (9, .sem (thatC tabK))]
def aw1 : Bk := ⟨[⟨0, 0, 3, 8, -1, -1, 0, false⟩], [(0, 0)], [(0, 1)], 1, []⟩
def aw2 : Bk := ⟨[⟨0, 0, 3, 8, -1, -1, 0, true⟩], [(0, 0)], [(0, 1)], 1, []⟩
def tk5 : Task := ⟨0, 0, 0, 0, 5, 0, []⟩
end Go.Proofs.YtfjoaeghnfkdlaaGreatDoor
namespace Go.Proofs.YtfjoaeghnfkdlaaGreatDoor
set_option maxRecDepth 100000
open Go.RowKit
section
variable {P : Program} {n : Md} {Q : Exit → Slots → Heap → Prop} {s : Slots} {h : Heap}
theorem ownsRow_keep {w w' : World} {e : TypeId} {sz : Nat} {v : Value} {k : Nat} {vs : List Value} (h : w.ownsRow 0 e sz v k vs) (hw : ∀ g, Feet v g → w'.heap[g]? = w.heap[g]?) : w'.ownsRow 0 e sz v k vs := by
  obtain ⟨h2, h3⟩ := h
  refine ⟨h2, ?_⟩
  rcases h3 with h3 | ⟨g, cap, cur, hv, hb, hg, r⟩
  · exact .inl h3
  · exact .inr ⟨g, cap, cur, hv, hb, by rw [hw g (by rw [hv]; exact .inl rfl)]; exact hg, r⟩
def exC (e : TypeId) (sz : Nat) (Φ : List (List AV) → Prop) : SemC where
  rel := fun σ H v => ∃ xs, Φ xs ∧ 0 < sz ∧ (∀ c ∈ xs, c.length = sz) ∧ ∃ (w : World) (vs : List Value), w.heap = H ∧ w.ownsRow 0 e sz v xs.length vs ∧ L2 (VR0 σ) xs.flatten vs
  keep := fun σ σ' H H' v ⟨xs, h1, h2, h3, w, vs, h4, h5, h6⟩ hs hw => ⟨xs, h1, h2, h3, { w with heap := H' }, vs, rfl, ownsRow_keep h5 (fun g hg => by rw [h4]; exact hw g hg), h6.mono fun _ _ h => h.mono hs⟩
  lt := fun σ H v g ⟨xs, h1, h2, h3, w, vs, h4, h5, h6⟩ hg => by
    rcases h5.2 with ⟨hv, _⟩ | ⟨g', cap, cur, hv, hb, hc, r⟩
    · have hg := hg.one (fun vs e => by rw [hv] at e; cases e)
      rw [hv] at hg; cases hg
    · have hg := hg.one (fun vs e => by rw [hv] at e; cases e)
      rw [hv] at hg; simp only [footOf, Option.some.injEq] at hg; subst hg
      rw [← h4]; exact (Array.getElem?_eq_some_iff.1 hc).1
theorem Rel.say {E : Env} {σ : Sig} {ι : Nat → Value} {w : World} (hr : Rel E σ ι h w) {i : Nat} {c c' : Chunk} (hg : hget h i = some c) (hc : CR σ ι w i c') : Rel E σ ι ((i, c') :: h) w := by
  have key : ∀ j d, hget ((i, c') :: h) j = some d → ∃ d', hget h j = some d' := fun j d hd => by
    rw [hget_cons] at hd
    split at hd
    · rename_i e; exact ⟨c, e ▸ hg⟩
    · exact ⟨d, hd⟩
  refine ⟨hr.os, hr.tape, hr.output, hr.size, hr.old, hr.sigOld, hr.sub, fun j d hd => ?_, fun j d hd => ?_, fun j k d e hd he => ?_, hr.pin, hr.low, fun p hp => ⟨(hr.xo p hp).1, (hr.xo p hp).2.1, fun j d hd => ?_⟩⟩
  · rw [hget_cons] at hd
    split at hd
    · rename_i e; cases hd; exact e ▸ hc
    · exact hr.ch j d hd
  · obtain ⟨d', h'⟩ := key j d hd; exact hr.foot j d' h'
  · obtain ⟨d', h1⟩ := key j d hd; obtain ⟨e', h2⟩ := key k e he; exact hr.dj j k d' e' h1 h2
  · obtain ⟨d', h'⟩ := key j d hd; exact (hr.xo p hp).2.2 j d' h'
theorem Rel.pack {E : Env} {σ : Sig} {ι : Nat → Value} {w : World} (hr : Rel E σ ι h w) {i sz : Nat} {e : TypeId} {xs : List (List AV)} {Φ : List (List AV) → Prop} (hg : hget h i = some (.row e sz xs)) (hx : Φ xs) : Rel E σ ι ((i, .sem (exC e sz Φ)) :: h) w := by
  refine hr.say hg ?_
  obtain ⟨h0, h1, vs, h2, h3⟩ := hr.ch i _ hg
  exact ⟨xs, hx, h0, h1, w, vs, rfl, h2, h3⟩
theorem Rel.unpack {E : Env} {σ : Sig} {ι : Nat → Value} {w : World} (hr : Rel E σ ι h w) {i sz : Nat} {e : TypeId} {Φ : List (List AV) → Prop} (hg : hget h i = some (.sem (exC e sz Φ))) : ∃ xs, Φ xs ∧ Rel E σ ι ((i, .row e sz xs) :: h) w := by
  obtain ⟨xs, h1, h2, h3, w', vs, h4, h5, h6⟩ := hr.ch i _ hg
  exact ⟨xs, h1, hr.say hg ⟨h2, h3, vs, ownsRow_keep h5 (fun g _ => by rw [h4]), h6⟩⟩
theorem turn_pack (i : Nat) {sz : Nat} {e : TypeId} {xs : List (List AV)} (Φ : List (List AV) → Prop) (hg : hget h i = some (.row e sz xs)) (hx : Φ xs) : Turns n s h s ((i, .sem (exC e sz Φ)) :: h) :=
  fun E σ ι a w hr ht => ⟨σ, ι, hr.pack hg hx, ht⟩
theorem FnH.exOpen {f : FuncId} {args : List AV} {hin : Heap} {R : AV → Heap → Prop} (i : Nat) {sz : Nat} {e : TypeId} {Φ : List (List AV) → Prop} (hf : Entered P f) (h1 : ∀ xs, Φ xs → FnH P f args ((i, .row e sz xs) :: hin) R) (hg : hget hin i = some (.sem (exC e sz Φ))) : FnH P f args hin R :=
  ⟨hf, fun may pin σ ι w vs hr hv => let ⟨xs, h2, h3⟩ := hr.unpack hg; (h1 xs h2).2 may pin σ ι w vs h3 hv⟩
theorem FnH.exPack {f : FuncId} {args : List AV} {hin : Heap} {R : AV → Heap → Prop} (i : Nat) {sz : Nat} {e : TypeId} (hf : FnH P f args hin (fun r h' => ∃ xs Φ, hget h' i = some (.row e sz xs) ∧ Φ xs ∧ ∃ h2, LeH ((i, .sem (exC e sz Φ)) :: h') h2 ∧ R r h2)) : FnH P f args hin R :=
  ⟨hf.1, fun may pin σ ι w vs hr hv => (hf.2 may pin σ ι w vs hr hv).mono fun e w' ⟨u, r, h', σ', ι', h1, ⟨xs, Φ, h2, h3, h4, h5, h6⟩, h7, h8⟩ => ⟨u, r, h4, σ', ι', h1, h6, h7, (h8.pack h2 h3).le h5⟩⟩
theorem FnH.leIn {f : FuncId} {args : List AV} {hin hin' : Heap} {R : AV → Heap → Prop} (hf : FnH P f args hin R) (hl : LeH hin' hin) : FnH P f args hin' R :=
  ⟨hf.1, fun may pin σ ι w vs hr hv => hf.2 may pin σ ι w vs (hr.le hl) hv⟩
end
end Go.Proofs.YtfjoaeghnfkdlaaGreatDoor
namespace Go.Proofs.YtfjoaeghnfkdlaaGreatDoor
set_option maxRecDepth 100000
open Go.RowKit
theorem within_fn (n low high : Int) : Fn Tryz.prog 70 [.int .i64 n, .int .i64 low, .int .i64 high] (.bool (decide (low ≤ n ∧ n ≤ high))) := by
  refine fnb Tryz.func70 (entered_of (by kernel_rfl)) rfl rfl rfl ?_
  repeat' (first | refine sA ?_ | ((first | apply kM | apply kN); (iterate 3 (· exact rfl)); (· first | exact ya)) | refine sG ?_ | (refine sK ?_ ?_ <;> intro hc <;> (try simp only [KL, sL, reduceCtorEq] at hc) <;> (try (have hT : True := hc; clear hT hc)) <;> (try (exfalso; omega))))
  all_goals exact retq rfl (congrArg AV.bool (by rw [Bool.eq_iff_iff]; (try simp only [cond_true, cond_false, decide_eq_true_eq, Bool.not_eq_true', decide_eq_false_iff_not, Bool.and_eq_true, Bool.or_eq_true, true_iff, false_iff, iff_true, iff_false, Bool.false_eq_true, Bool.not_true, Bool.not_false, reduceCtorEq]); (first | done | omega | (constructor <;> intros <;> omega))))
def plainB (t : Task) : Bool := decide ((t.kind = 1 ∨ t.kind = 2 ∧ t.offset = 0) ∧ (0 ≤ t.prio ∧ t.prio ≤ 255) ∧ (1 ≤ t.period ∧ t.period ≤ 1048576) ∧ (0 ≤ t.offset ∧ t.offset ≤ 1048576) ∧ (1 ≤ t.deadline ∧ t.deadline ≤ t.period) ∧ (1 ≤ t.own ∧ t.own ≤ 64))
theorem plain_fn (t : Task) : Fn Tryz.prog 34 [.agg (eTask t)] (.bool (plainB t)) := by
  refine fnb Tryz.func34 (entered_of (by kernel_rfl)) rfl rfl rfl ?_
  repeat' (first | refine sA ?_ | ((first | apply kM | apply kN); (iterate 3 (· exact rfl)); (· first | exact ya | exact q_c (within_fn _ _ _) rfl)) | refine sG ?_ | (refine sK ?_ ?_ <;> intro hc <;> (try simp only [KL, sL, reduceCtorEq] at hc) <;> (try (have hT : True := hc; clear hT hc)) <;> (try (exfalso; omega))))
  all_goals exact retq rfl (congrArg AV.bool (by rw [Bool.eq_iff_iff]; (try simp only [plainB, cond_true, cond_false, decide_eq_true_eq, Bool.not_eq_true', decide_eq_false_iff_not, Bool.and_eq_true, Bool.or_eq_true, true_iff, false_iff, iff_true, iff_false, Bool.false_eq_true, Bool.not_true, Bool.not_false, reduceCtorEq]); (first | done | omega | (constructor <;> intros <;> omega))))
set_option maxHeartbeats 4000000 in
theorem rplain_fn (t : Task) : Fn Tryz.prog 40 [.agg (eTask t)] (.bool (plainB t)) := by
  refine fnb Tryz.func40 (entered_of (by kernel_rfl)) rfl rfl rfl ?_
  repeat' (first | refine sA ?_ | ((first | apply kM | apply kN); (iterate 3 (· exact rfl)); (· first | exact ya)) | refine sG ?_ | (refine sK ?_ ?_ <;> intro hc <;> (try simp only [KL, sL, reduceCtorEq] at hc) <;> (try (have hT : True := hc; clear hT hc)) <;> (try (exfalso; omega))))
  all_goals exact retq rfl (congrArg AV.bool (by rw [Bool.eq_iff_iff]; (try simp only [plainB, cond_true, cond_false, decide_eq_true_eq, Bool.not_eq_true', decide_eq_false_iff_not, Bool.and_eq_true, Bool.or_eq_true, true_iff, false_iff, iff_true, iff_false, Bool.false_eq_true, Bool.not_true, Bool.not_false, reduceCtorEq]); (first | done | omega | (constructor <;> intros <;> omega))))
end Go.Proofs.YtfjoaeghnfkdlaaGreatDoor
namespace Go.Proofs.YtfjoaeghnfkdlaaGreatDoor
set_option maxRecDepth 100000
open Go.RowKit
theorem plainB_spec {t : Task} (h : plainB t = true) : (t.kind = 1 ∨ t.kind = 2 ∧ t.offset = 0) ∧ (0 ≤ t.prio ∧ t.prio ≤ 255) ∧ (1 ≤ t.period ∧ t.period ≤ 1048576) ∧ (0 ≤ t.offset ∧ t.offset ≤ 1048576) ∧ (1 ≤ t.deadline ∧ t.deadline ≤ t.period) ∧ (1 ≤ t.own ∧ t.own ≤ 64) := of_decide_eq_true h
theorem periodic_fn (t : Task) : Fn Tryz.prog 71 [.agg (eTask t)] (.bool (plainB t && decide (t.kind = 1))) := by
  refine fnb Tryz.func71 (entered_of (by kernel_rfl)) rfl rfl rfl ?_
  repeat' (first | refine sA ?_ | ((first | apply kM | apply kN); (iterate 3 (· exact rfl)); (· first | exact ya | exact q_c (plain_fn _) rfl)) | refine sG ?_ | (refine sK ?_ ?_ <;> intro hc <;> (try simp only [KL, sL, reduceCtorEq] at hc) <;> (try (have hT : True := hc; clear hT hc)) <;> (try (exfalso; omega))))
  all_goals exact retq rfl (congrArg AV.bool (by simp [*]))
def ceilZ (a b : Int) : Int := if a < 1 ∨ b < 1 then 0 else (a - 1) / b + 1
theorem ceil_fn (a b : Int) : Fn Tryz.prog 72 [.int .i64 a, .int .i64 b] (.int .i64 (ceilZ a b)) := by
  refine fnb Tryz.func72 (entered_of (by kernel_rfl)) rfl rfl rfl ?_
  refine wrange 0 rfl (fun hr => ?_)
  simp only [rangeP] at hr
  have hd : 1 ≤ a → 1 ≤ b → 0 ≤ (a - 1) / b ∧ (a - 1) / b ≤ a - 1 := fun h1 h2 => ⟨Int.ediv_nonneg (by omega) (by omega), Int.ediv_le_self _ (by omega)⟩
  by_cases h1 : a < 1
  · repeat' (first | refine sA ?_ | ((first | apply kM | apply kN); (iterate 3 (· exact rfl)); (· first | exact ya)) | refine sG ?_ | (refine sK ?_ ?_ <;> intro hc <;> (try simp only [KL, sL, reduceCtorEq] at hc) <;> (try (have hT : True := hc; clear hT hc)) <;> (try (exfalso; omega))))
    all_goals first | (exfalso; omega) | exact retq rfl (congrArg (AV.int _) (by rw [ceilZ, if_pos (.inl h1)]))
  by_cases h2 : b < 1
  · repeat' (first | refine sA ?_ | ((first | apply kM | apply kN); (iterate 3 (· exact rfl)); (· first | exact ya)) | refine sG ?_ | (refine sK ?_ ?_ <;> intro hc <;> (try simp only [KL, sL, reduceCtorEq] at hc) <;> (try (have hT : True := hc; clear hT hc)) <;> (try (exfalso; omega))))
    all_goals first | (exfalso; omega) | exact retq rfl (congrArg (AV.int _) (by rw [ceilZ, if_pos (.inr h2)]))
  have hd := hd (by omega) (by omega)
  repeat' (first | refine sA ?_ | ((first | apply kM | apply kN); (iterate 3 (· exact rfl)); (· first | exact ya)) | refine sG ?_ | (refine sK ?_ ?_ <;> intro hc <;> (try simp only [KL, sL, reduceCtorEq] at hc) <;> (try (have hT : True := hc; clear hT hc)) <;> (try (exfalso; omega))))
  all_goals exact retq rfl (congrArg (AV.int _) (by rw [ceilZ, if_neg (by omega)]))
def nextZ (t : Task) (frm : Int) : Int :=
  if plainB t = true ∧ t.kind = 1 ∧ frm ≤ 1099511627776 then (let at_ := if frm ≤ t.offset then t.offset else t.offset + ceilZ (frm - t.offset) t.period * t.period; if at_ > 1099511627776 then -1 else at_) else -1
theorem ceil_mul (a p : Int) (h1 : 1 ≤ a) (h2 : 1 ≤ p) : a ≤ ceilZ a p * p ∧ ceilZ a p * p ≤ a - 1 + p := by
  rw [ceilZ, if_neg (by omega), Int.add_mul, Int.one_mul]
  have h3 := Int.mul_ediv_add_emod (a - 1) p
  have h4 := Int.emod_nonneg (a - 1) (show p ≠ 0 by omega)
  have h5 := Int.emod_lt_of_pos (a - 1) (show 0 < p by omega)
  rw [Int.mul_comm] at h3
  omega
theorem ceil_range (a p : Int) (h1 : 1 ≤ a) (h2 : 1 ≤ p) : 1 ≤ ceilZ a p ∧ ceilZ a p ≤ a := by
  rw [ceilZ, if_neg (by omega)]
  have h3 := Int.ediv_nonneg (show 0 ≤ a - 1 by omega) (show 0 ≤ p by omega)
  have h4 := Int.ediv_le_self p (show 0 ≤ a - 1 by omega)
  omega
theorem next_fn (t : Task) (frm : Int) : Fn Tryz.prog 38 [.agg (eTask t), .int .i64 frm] (.tup [.int .i64 (if nextZ t frm < 0 then 0 else nextZ t frm), .bool (decide (0 ≤ nextZ t frm))]) := by
  refine fnb Tryz.func38 (entered_of (by kernel_rfl)) rfl rfl rfl ?_
  refine wrange 1 rfl (fun hr => ?_)
  simp only [rangeP] at hr
  cases hp : plainB t && decide (t.kind = 1)
  · have e : nextZ t frm = -1 := by
      rw [nextZ, if_neg]; intro h; simp [h.1, h.2.1] at hp
    rw [e]
    repeat' (first | refine sA ?_ | ((first | apply kM | apply kN); (iterate 3 (· exact rfl)); (· first | exact ya | exact q_c (periodic_fn _) rfl)) | refine sG ?_ | (refine sK ?_ ?_ <;> intro hc <;> (try simp only [KL, sL, reduceCtorEq] at hc) <;> (try (have hT : True := hc; clear hT hc)) <;> (try (exfalso; omega))))
    all_goals first | (exfalso; simp_all; done) | exact retq rfl rfl
  simp only [Bool.and_eq_true, decide_eq_true_eq] at hp
  obtain ⟨hp, hk⟩ := hp
  have hpp : (plainB t && decide (t.kind = 1)) = true := by simp [hp, hk]
  obtain ⟨_, _, h3, h4, _, _⟩ := plainB_spec hp
  by_cases htop : frm ≤ 1099511627776
  case neg =>
    have e : nextZ t frm = -1 := by rw [nextZ, if_neg]; intro h; omega
    rw [e]
    repeat' (first | refine sA ?_ | ((first | apply kM | apply kN); (iterate 3 (· exact rfl)); (· first | exact ya | exact q_c (periodic_fn _) rfl)) | refine sG ?_ | (refine sK ?_ ?_ <;> intro hc <;> (try simp only [KL, sL, reduceCtorEq] at hc) <;> (try (have hT : True := hc; clear hT hc)) <;> (try (exfalso; omega))))
    all_goals first | (exfalso; simp_all; done) | (exfalso; omega) | exact retq rfl rfl
  by_cases hlow : frm ≤ t.offset
  · have e : nextZ t frm = t.offset := by rw [nextZ, if_pos ⟨hp, hk, htop⟩]; simp only [if_pos hlow]; rw [if_neg (by omega)]
    rw [e, if_neg (by omega)]
    repeat' (first | refine sA ?_ | ((first | apply kM | apply kN); (iterate 3 (· exact rfl)); (· first | exact ya | exact q_c (periodic_fn _) rfl | exact q_c (ceil_fn _ _) rfl | exact q_w rfl)) | refine sG ?_ | (refine sK ?_ ?_ <;> intro hc <;> (try simp only [KL, sL, reduceCtorEq] at hc) <;> (try (have hT : True := hc; clear hT hc)) <;> (try (exfalso; omega))))
    all_goals first | (exfalso; simp_all; done) | (exfalso; omega) | exact retq rfl (by rw [decide_eq_true (show 0 ≤ t.offset by omega)])
  · have hm := ceil_mul (frm - t.offset) t.period (by omega) (by omega)
    have hm2 := ceil_range (frm - t.offset) t.period (by omega) (by omega)
    by_cases hbig : t.offset + ceilZ (frm - t.offset) t.period * t.period > 1099511627776
    · have e : nextZ t frm = -1 := by rw [nextZ, if_pos ⟨hp, hk, htop⟩]; simp only [if_neg hlow]; rw [if_pos hbig]
      rw [e]
      repeat' (first | refine sA ?_ | ((first | apply kM | apply kN); (iterate 3 (· exact rfl)); (· first | exact ya | exact q_c (periodic_fn _) rfl | exact q_c (ceil_fn _ _) rfl)) | refine sG ?_ | (refine sK ?_ ?_ <;> intro hc <;> (try simp only [KL, sL, reduceCtorEq] at hc) <;> (try (have hT : True := hc; clear hT hc)) <;> (try (exfalso; omega))))
      all_goals first | (exfalso; simp_all; done) | (exfalso; omega) | exact retq rfl rfl
    · have e : nextZ t frm = t.offset + ceilZ (frm - t.offset) t.period * t.period := by rw [nextZ, if_pos ⟨hp, hk, htop⟩]; simp only [if_neg hlow]; rw [if_neg hbig]
      rw [e, if_neg (by omega)]
      repeat' (first | refine sA ?_ | ((first | apply kM | apply kN); (iterate 3 (· exact rfl)); (· first | exact ya | exact q_c (periodic_fn _) rfl | exact q_c (ceil_fn _ _) rfl)) | refine sG ?_ | (refine sK ?_ ?_ <;> intro hc <;> (try simp only [KL, sL, reduceCtorEq] at hc) <;> (try (have hT : True := hc; clear hT hc)) <;> (try (exfalso; omega))))
      all_goals first | (exfalso; simp_all; done) | (exfalso; omega) | exact retq rfl (by rw [decide_eq_true (show 0 ≤ t.offset + ceilZ (frm - t.offset) t.period * t.period by omega)])
end Go.Proofs.YtfjoaeghnfkdlaaGreatDoor
namespace Go.Proofs.YtfjoaeghnfkdlaaGreatDoor
set_option maxRecDepth 100000
open Go.RowKit
def okF (period : Int) (lt : List Int) (x : Int) : Bool := decide (0 ≤ x ∧ 1 ≤ period) && (match lt.getLast? with | none => true | some l => decide (l ≤ x ∧ period ≤ x - l))
def stepF (period : Int) (st : List Int × List Int) (x : Int) : List Int × List Int := if okF period st.1 x then (st.1 ++ [x], st.2) else (st.1, st.2 ++ [x])
def filtF (period : Int) (asks : List Int) : List Int × List Int := asks.foldl (stepF period) ([], [])
def apartL (period : Int) : List Int → Prop
  | [] => True
  | [x] => 0 ≤ x
  | x :: y :: r => 0 ≤ x ∧ x ≤ y ∧ period ≤ y - x ∧ apartL period (y :: r)
def lastF (lt : List Int) : Int := (lt.getLast?).getD 0
def passB (period last : Int) (op : Bool) (x : Int) : Bool := decide (0 ≤ x ∧ 1 ≤ period) && (!op || decide (last ≤ x ∧ period ≤ x - last))
end Go.Proofs.YtfjoaeghnfkdlaaGreatDoor
namespace Go.Proofs.YtfjoaeghnfkdlaaGreatDoor
set_option maxRecDepth 100000
open Go.RowKit
end Go.Proofs.YtfjoaeghnfkdlaaGreatDoor
namespace Go.Proofs.YtfjoaeghnfkdlaaGreatDoor
set_option maxRecDepth 100000
set_option maxRecDepth 100000
open Go.RowKit
def ltcDue (c : Due → Due → Int) (x y : Due) : Bool := decide (c x y < 0)
theorem ins_Due (fc : FuncId) (c : Due → Due → Int) (p : Due → Prop) (hs : SWO (ltcDue c)) (hF : ∀ x y, p x → p y → Fn Tryz.prog fc ([(fun x : Due => AV.agg (eDue x)) x, (fun x : Due => AV.agg (eDue x)) y] ++ []) (.int .i64 (c x y))) (pp xx ss : List Due) (hp : ∀ x ∈ xx, p x) (a b : Int) (ha : a = pp.length) (hb : b = pp.length + xx.length) (hl : pp.length + xx.length + ss.length ≤ 1000000000000) :
    FnH Tryz.prog 132 [.own 4, .int .i64 a, .int .i64 b, .fn (.func fc) [] []] [(4, .row 60 2 ((pp ++ xx ++ ss).map eDue))]
    (fun r h' => r = .tup [] ∧ ∃ xx', StS (ltcDue c) xx xx' ∧ h' = [(4, .row 60 2 ((pp ++ xx' ++ ss).map eDue))]) := by
  refine fnhb Tryz.func132 (entered_of (by kernel_rfl)) rfl rfl ?_
  subst ha hb
  repeat' (first | refine sA ?_ | ((first | apply kM | apply kN); (iterate 3 (· exact rfl)); (· first | exact ya)) | refine sG ?_ | (refine sK ?_ ?_ <;> intro hc <;> (try simp only [KL, sL, reduceCtorEq] at hc) <;> (try (have hT : True := hc; clear hT hc)) <;> (try (exfalso; omega))))
  refine wloop (fun x : List Due × List Due × Nat => ([(0, .own 4), (1, .int .i64 pp.length), (2, .int .i64 (pp.length + xx.length)), (3, .fn (.func fc) [] []), (8, .int .i64 (pp.length + x.2.2))], [(4, .row 60 2 ((pp ++ (x.1 ++ x.2.1) ++ ss).map eDue))]))
    (fun x => Rch (ltcDue c) xx (x.1 ++ x.2.1) ∧ Srt (ltcDue c) x.1 ∧ (x.1.length = x.2.2 ∨ (x.2.1 = [] ∧ x.1.length ≤ x.2.2))) (fun x => xx.length + 1 - x.2.2) (xx.take 1, xx.drop 1, 1)
    ⟨by rw [tdl]; exact .refl, .of_len (by rw [List.length_take]; omega), by
      rcases Nat.eq_zero_or_pos xx.length with h | h
      · exact .inr ⟨List.drop_of_length_le (by omega), by rw [List.length_take]; omega⟩
      · exact .inl (by simp only [List.length_take]; omega)⟩ les (by dsimp only; rw [tdl]; exact leh) (fun x hx => ?_)
  obtain ⟨dd, ee, i⟩ := x
  obtain ⟨k1, k2, k3⟩ := hx
  simp only at k1 k2 k3 ⊢
  have k4 : dd.length + ee.length = xx.length := by have := k1.len; rwa [List.length_append] at this
  rcases Nat.lt_or_ge i xx.length with hi | hi
  · have k5 : dd.length = i := by
      rcases k3 with k3 | ⟨rfl, k3⟩
      · exact k3
      · simp only [List.length_nil] at k4; omega
    subst k5
    clear k3
    match ee, k1, k4 with
    | [], k1, k4 => simp only [List.length_nil] at k4; omega
    | x :: ee, k1, k4 =>
    have hpx : p x := hp x (k1.mem.1 (List.mem_append_right _ List.mem_cons_self))
    have hpd : ∀ y ∈ dd, p y := fun y hy => hp y (k1.mem.1 (List.mem_append_left _ hy))
    rw [List.length_cons] at k4
    repeat' (first | refine sA ?_ | ((first | apply kM | apply kN); (iterate 3 (· exact rfl)); (· first | exact ya)) | refine sG ?_ | (refine sK ?_ ?_ <;> intro hc <;> (try simp only [KL, sL, reduceCtorEq] at hc) <;> (try (have hT : True := hc; clear hT hc)) <;> (try (exfalso; omega))))
    refine wloop (fun z : List Due × List Due => ([(0, .own 4), (1, .int .i64 pp.length), (2, .int .i64 (pp.length + xx.length)), (3, .fn (.func fc) [] []), (8, .int .i64 (pp.length + dd.length)), (9, .int .i64 (pp.length + z.1.length))], [(4, .row 60 2 ((pp ++ (z.1 ++ x :: z.2 ++ ee) ++ ss).map eDue))]))
      (fun z => z.1 ++ z.2 = dd ∧ ∀ y ∈ z.2, ltcDue c x y = true) (fun z => z.1.length) (dd, []) ⟨List.append_nil _, fun y hy => by cases hy⟩ les (by dsimp only; rw [show dd ++ x :: [] ++ ee = dd ++ x :: ee by simp]; exact leh) (fun z hz => ?_)
    obtain ⟨d1, d2⟩ := z
    obtain ⟨m1, m2⟩ := hz
    simp only at m1 m2 ⊢
    subst m1
    have m3 : Rch (ltcDue c) xx (d1 ++ x :: d2 ++ ee) := by
      have := (Rch.left x d2 m2).ctx d1 ee
      refine k1.trans ?_
      simpa using this
    rcases List.eq_nil_or_concat d1 with rfl | ⟨d1, y, rfl⟩
    · repeat' (first | refine sA ?_ | ((first | apply kM | apply kN); (iterate 3 (· exact rfl)); (· first | exact ya)) | refine sG ?_ | (refine sK ?_ ?_ <;> intro hc <;> (try simp only [KL, sL, reduceCtorEq] at hc) <;> (try (have hT : True := hc; clear hT hc)) <;> (try (exfalso; omega))))
      all_goals first | (exfalso; simp only [List.length_nil] at *; omega) | skip
      rw [show ([] ++ x :: d2 ++ ee) = (x :: d2) ++ ee by simp]
      refine ⟨(x :: d2, ee, d2.length + 1), ⟨by simpa using m3, List.pairwise_cons.2 ⟨fun y hy => hs.asym (m2 y hy), k2⟩, .inl rfl⟩, ?_, les, leh⟩
      simp only [List.nil_append] at *; omega
    · rw [List.concat_eq_append] at *
      have hpy : p y := hpd y (by simp)
      obtain ⟨M, hM⟩ : ∃ M, M = pp ++ (d1 ++ [y] ++ x :: d2 ++ ee) ++ ss := ⟨_, rfl⟩
      obtain ⟨k0, hk0⟩ : ∃ k0, k0 = pp.length + d1.length := ⟨_, rfl⟩
      obtain ⟨k1', hk1⟩ : ∃ k1, k1 = k0 + 1 := ⟨_, rfl⟩
      obtain ⟨q1, q2, q3, q4⟩ := adj (M := M) (p := pp ++ d1) (u := y) (v := x) (r := d2 ++ ee ++ ss) (k := k0) (by rw [hM]; simp) (by simp [hk0]) hk1
      have hlM : M.length = pp.length + xx.length + ss.length := by
        have := m3.len
        rw [hM]; simp only [List.length_append, List.length_cons, List.length_nil] at this ⊢; omega
      rw [← hM]
      have hc1 := hF x y hpx hpy
      simp only [List.length_append, List.length_cons, List.length_nil] at *
      repeat' (first | (show W _ _ _ _ _ _; first | refine wdrawS rfl (by kernel_rfl) (by kernel_rfl) (by kernel_rfl) ?_ | apply kA | refine kB rfl ?_ | refine kC rfl rfl ?_ | refine kD rfl rfl ?_ | apply kE | apply kF | apply kG | apply kH | refine kI (by kernel_rfl) (by kernel_rfl) ?_) | (show O _ _ _ _ _ _ _; first | (show O _ _ _ _ (⟨_, .store _ _ _, _, _, _, _⟩ :: _) _ _; refine kJ rfl rfl rfl rfl rfl rfl rfl rfl rfl rfl rfl ?_) | apply kK) | apply kL | ((first | apply kM | apply kN); (iterate 3 (· exact rfl)); (· first | (show Y _ ⟨_, .indexAddr _ _ _, _, _, _, _⟩ _ _ _; first | exact q_ioE (k1') rfl rfl rfl rfl rfl rfl (by omega) (by omega) | exact q_ioE (k0) rfl rfl rfl rfl rfl rfl (by omega) (by omega)) | (show Y _ ⟨_, .load _ _, _, _, _, _⟩ _ _ _; first | exact q_pE' q1 | exact q_pE' q2) | (show Y _ ⟨_, .call ⟨.value _, _, _⟩, _, _, _, _⟩ _ _ _; first | exact q_c (hc1) rfl) | exact ya)) | (show F _ _ _ _ _ _ _ _ _ _ _; first | refine fnil ?_ | (apply f_ld; (· exact rfl); (· exact rfl); (· first | exact q_pE' q1 | exact q_pE' q2 | exact yp)) | refine f_se (x' := y) rfl rfl rfl rfl rfl rfl rfl rfl rfl (by (first | rfl | omega | (simp only [List.length_set]; omega) | simp only [List.length_set])) (by (first | rfl | omega | (simp only [List.length_set]; omega) | simp only [List.length_set])) ?_ | refine f_se (x' := x) rfl rfl rfl rfl rfl rfl rfl rfl rfl (by (first | rfl | omega | (simp only [List.length_set]; omega) | simp only [List.length_set])) (by (first | rfl | omega | (simp only [List.length_set]; omega) | simp only [List.length_set])) ?_ | (apply f_k; (· exact rfl); (· intro y' hy'; first | (show Y _ ⟨_, .indexAddr _ _ _, _, _, _, _⟩ _ _ _; first | exact q_ioE (k1') rfl rfl rfl rfl rfl rfl (by omega) (by omega) | exact q_ioE (k0) rfl rfl rfl rfl rfl rfl (by omega) (by omega)) | (show Y _ ⟨_, .load _ _, _, _, _, _⟩ _ _ _; first | exact q_pE' q1 | exact q_pE' q2) | (show Y _ ⟨_, .call ⟨.value _, _, _⟩, _, _, _, _⟩ _ _ _; first | exact q_c (hc1) rfl) | exact ya))) | refine kO rfl rfl rfl rfl rfl ?_ | refine kP rfl rfl rfl ?_ | ((first | refine kQ rfl rfl ?_ ?_ | refine kR rfl rfl rfl rfl rfl ?_ ?_ | refine kS rfl rfl rfl ?_ ?_) <;> intro hc <;> (try simp only [KL, cond_true, cond_false, beq_iff_eq, bne_iff_ne, ne_eq, reduceCtorEq] at hc) <;> (try (have hT : True := hc; clear hT hc)) <;> (try (exfalso; omega))) | apply kT | apply kU | apply kV | apply kW | refine kX rfl ?_ | apply kY | apply kZ)
      all_goals first | (exfalso; omega) | skip
      · rw [q3]
        refine ⟨(d1, y :: d2), ⟨by simp, fun z hz => ?_⟩, by simp only; omega, les, ?_⟩
        · rcases List.mem_cons.1 hz with rfl | hz
          · exact decide_eq_true (by assumption)
          · exact m2 z hz
        · rw [show pp ++ (d1 ++ x :: (y :: d2) ++ ee) ++ ss = pp ++ d1 ++ x :: y :: (d2 ++ ee ++ ss) by simp]
          exact leh
      · rw [hM]
        refine ⟨(d1 ++ [y] ++ x :: d2, ee, d1.length + 1 + d2.length + 1), ⟨m3, ?_, .inl (by simp only [List.length_append, List.length_cons, List.length_nil]; omega)⟩, by simp only; omega, les, leh⟩
        have n1 : ltcDue c x y = false := decide_eq_false (by omega)
        rw [Srt.app] at k2 ⊢
        refine ⟨k2.1, List.pairwise_cons.2 ⟨fun z hz => hs.asym (m2 z hz), k2.2.1⟩, fun u hu v hv => ?_⟩
        rcases List.mem_cons.1 hv with rfl | hv
        · rcases List.mem_append.1 hu with hu | hu
          · exact hs.nt _ _ _ n1 ((Srt.app.1 k2.1).2.2 u hu y List.mem_cons_self)
          · rw [List.mem_singleton.1 hu]; exact n1
        · exact k2.2.2 u hu v hv
  · have k5 : ee = [] := by
      rcases k3 with k3 | k3
      · exact List.eq_nil_of_length_eq_zero (by omega)
      · exact k3.1
    subst k5
    rw [List.append_nil] at k1 ⊢
    repeat' (first | refine sA ?_ | ((first | apply kM | apply kN); (iterate 3 (· exact rfl)); (· first | exact ya)) | refine sG ?_ | (refine sK ?_ ?_ <;> intro hc <;> (try simp only [KL, sL, reduceCtorEq] at hc) <;> (try (have hT : True := hc; clear hT hc)) <;> (try (exfalso; omega))))
    exact retn rfl ⟨rfl, dd, ⟨k1, k2⟩, rfl⟩
end Go.Proofs.YtfjoaeghnfkdlaaGreatDoor
namespace Go.Proofs.YtfjoaeghnfkdlaaGreatDoor
set_option maxRecDepth 100000
set_option maxRecDepth 100000
open Go.RowKit
end Go.Proofs.YtfjoaeghnfkdlaaGreatDoor
namespace Go.Proofs.YtfjoaeghnfkdlaaGreatDoor
set_option maxRecDepth 100000
set_option maxRecDepth 100000
open Go.RowKit
end Go.Proofs.YtfjoaeghnfkdlaaGreatDoor
namespace Go.Proofs.YtfjoaeghnfkdlaaGreatDoor
set_option maxRecDepth 100000
open Go.RowKit
--BEGIN
def ltD (a b : Due) : Bool := decide (a.at_ < b.at_ ∨ a.at_ = b.at_ ∧ a.task < b.task)
def leD (a b : Due) : Prop := a.at_ < b.at_ ∨ a.at_ = b.at_ ∧ a.task ≤ b.task
theorem leD_anti {a b : Due} (h1 : leD a b) (h2 : leD b a) : a = b := by
  apply Due.ext_
  unfold leD at h1 h2
  omega
def putD : List Due → Due → List Due
  | [], d => [d]
  | x :: r, d => if ltD d x then d :: x :: r else x :: putD r d
def sortD (l : List Due) : List Due := l.foldl putD []
theorem putD_perm : ∀ (l : List Due) (d : Due), (putD l d).Perm (d :: l)
  | [], d => List.Perm.refl _
  | x :: r, d => by
    rw [putD]
    split
    · exact List.Perm.refl _
    · exact ((putD_perm r d).cons x).trans (List.Perm.swap d x r)
theorem putD_srt : ∀ (l : List Due) (d : Due), l.Pairwise leD → (putD l d).Pairwise leD
  | [], d, _ => by simp [putD]
  | x :: r, d, h => by
    rw [List.pairwise_cons] at h
    rw [putD]
    split
    · rename_i hlt
      simp only [ltD, decide_eq_true_eq] at hlt
      refine List.pairwise_cons.2 ⟨fun y hy => ?_, List.pairwise_cons.2 h⟩
      rcases List.mem_cons.1 hy with rfl | hy
      · unfold leD; omega
      · have := h.1 y hy; unfold leD at *; omega
    · rename_i hlt
      simp only [ltD, decide_eq_true_eq] at hlt
      refine List.pairwise_cons.2 ⟨fun y hy => ?_, putD_srt r d h.2⟩
      rcases List.mem_cons.1 ((putD_perm r d).mem_iff.1 hy) with rfl | hy
      · unfold leD; omega
      · exact h.1 y hy
theorem sortD_fold : ∀ (l a : List Due), a.Pairwise leD → (l.foldl putD a).Perm (l ++ a) ∧ (l.foldl putD a).Pairwise leD
  | [], a, h => ⟨List.Perm.refl _, h⟩
  | x :: l, a, h => by
    obtain ⟨h1, h2⟩ := sortD_fold l (putD a x) (putD_srt a x h)
    refine ⟨h1.trans (((putD_perm a x).append_left l).trans ?_), h2⟩
    exact List.perm_middle
theorem sortD_perm (l : List Due) : (sortD l).Perm l := by simpa [sortD] using (sortD_fold l [] List.Pairwise.nil).1
theorem sortD_srt (l : List Due) : (sortD l).Pairwise leD := (sortD_fold l [] List.Pairwise.nil).2
theorem sortD_eq {l r : List Due} (h1 : r.Perm l) (h2 : r.Pairwise leD) : r = sortD l :=
  List.Perm.eq_of_pairwise (le := leD) (fun a b _ _ h3 h4 => leD_anti h3 h4) h2 (sortD_srt l) (h1.trans (sortD_perm l).symm)
theorem sortD_len (l : List Due) : (sortD l).length = l.length := (sortD_perm l).length_eq
structure Gt where
  per : Int
  last : Int
  op : Bool
instance : Inhabited Gt := ⟨⟨0, 0, false⟩⟩
def perG (t : Task) : Int := if plainB t = true ∧ t.kind = 2 then t.period else 0
def passD (g : Gt) (x : Int) : Bool := decide (0 ≤ x ∧ 1 ≤ g.per) && (!g.op || decide (g.last ≤ x ∧ g.per ≤ x - g.last))
def gates0 (l : List Task) : List Gt := l.map fun t => ⟨perG t, 0, false⟩
structure S27 where
  gs : List Gt
  lt : List Due
  rf : List Due
def okA (ticks : Int) (s : S27) (d : Due) : Bool := decide (0 ≤ d.task ∧ d.task < s.gs.length ∧ d.at_ < ticks) && passD (s.gs.getD d.task.toNat default) d.at_
def stepA (ticks : Int) (s : S27) (d : Due) : S27 := if okA ticks s d then ⟨s.gs.set d.task.toNat ⟨(s.gs.getD d.task.toNat default).per, d.at_, true⟩, s.lt ++ [d], s.rf⟩ else ⟨s.gs, s.lt, s.rf ++ [d]⟩
def timesN (t : Task) (lim : Int) : Nat := if plainB t = true ∧ t.kind = 1 then (ceilZ (lim - t.offset) t.period).toNat else 0
def dueAt (t : Task) (i k : Nat) : Due := ⟨t.offset + k * t.period, i⟩
def letO (t : Task) (i n : Nat) : List Due := (List.range n).map (dueAt t i)
def letT (l : List Task) (lim : Int) (i : Nat) : List Due := (List.range i).flatMap fun j => letO (l.getD j default) j (timesN (l.getD j default) lim)
def runA (l : List Task) (asks : List Due) (ticks : Int) : S27 := asks.foldl (stepA ticks) ⟨gates0 l, letT l ticks l.length, []⟩
def allA (l : List Task) (asks : List Due) (ticks : Int) : List Due × List Due := (sortD (runA l (sortD asks) ticks).lt, (runA l (sortD asks) ticks).rf)
structure Inv (l : List Task) (ticks : Int) (s : S27) : Prop where
  len : s.gs.length = l.length
  per : ∀ j, j < l.length → (s.gs.getD j default).per = perG (l.getD j default)
  low : ∀ j, j < l.length → 0 ≤ (s.gs.getD j default).last ∧ ((s.gs.getD j default).op = true → (s.gs.getD j default).last < ticks)
  mem : ∀ d ∈ s.lt, 0 ≤ d.task ∧ d.task < l.length ∧ 0 ≤ d.at_ ∧ d.at_ < ticks ∧ 1 ≤ (l.getD d.task.toNat default).period
  gate : ∀ d ∈ s.lt, 1 ≤ perG (l.getD d.task.toNat default) → (s.gs.getD d.task.toNat default).op = true ∧ d.at_ ≤ (s.gs.getD d.task.toNat default).last
  apart : s.lt.Pairwise fun a b => a.task = b.task → a.at_ + (l.getD a.task.toNat default).period ≤ b.at_
end Go.Proofs.YtfjoaeghnfkdlaaGreatDoor
namespace Go.Proofs.YtfjoaeghnfkdlaaGreatDoor
set_option maxRecDepth 100000
set_option maxRecDepth 100000
open Go.RowKit
def orI (a b : Int) : Int := if a ≠ 0 then a else b
def cmpD (x y : Due) : Int := orI (cmpI x.at_ y.at_) (cmpI x.task y.task)
theorem cmpD_neg {x y : Due} : cmpD x y < 0 ↔ x.at_ < y.at_ ∨ x.at_ = y.at_ ∧ x.task < y.task := by
  have h1 := @cmpI_neg x.at_ y.at_
  have h2 := @cmpI_neg x.task y.task
  have h3 := @cmpI_z x.at_ y.at_
  unfold cmpD orI
  split <;> omega
theorem swoD : SWO (ltcDue cmpD) :=
  ⟨fun x => by simp only [ltcDue, decide_eq_false_iff_not, cmpD_neg]; omega, fun x y z h1 h2 => by simp only [ltcDue, decide_eq_true_eq, cmpD_neg] at *; omega, fun x y z h1 h2 => by simp only [ltcDue, decide_eq_false_iff_not, cmpD_neg] at *; omega⟩
theorem sortD_of {l r : List Due} (h : StS (ltcDue cmpD) l r) : r = sortD l := by
  refine sortD_eq h.1.perm (h.2.imp fun {a b} h1 => ?_)
  simp only [ltcDue, decide_eq_false_iff_not, cmpD_neg] at h1
  unfold leD
  omega
theorem or_fn (a b : Int) : Fn Tryz.prog 89 [.lst 1 ([a, b].map eI)] (.int .i64 (orI a b)) := by
  obtain ⟨l, hl⟩ : ∃ l, l = [a, b] := ⟨_, rfl⟩
  have h0 : l.length = 2 := by rw [hl]; rfl
  have h1 : l.getD 0 default = a := by rw [hl]; rfl
  have h2 : l.getD 1 default = b := by rw [hl]; rfl
  rw [← hl]
  refine fnb Tryz.func89 (entered_of (by kernel_rfl)) rfl rfl rfl ?_
  repeat' (first | refine sA ?_ | ((first | apply kM | apply kN); (iterate 3 (· exact rfl)); (· first | exact ya)) | refine sG ?_ | (refine sK ?_ ?_ <;> intro hc <;> (try simp only [KL, sL, reduceCtorEq] at hc) <;> (try (have hT : True := hc; clear hT hc)) <;> (try (exfalso; omega))))
  refine wloop (fun k : Nat => ([(0, .lst 1 (l.map eI)), (3, .int .i64 0), (6, .lst 1 (l.map eI)), (7, .int .i64 l.length), (8, .int .i64 k)], [])) (fun k => k ≤ 2 ∧ ∀ j, j < k → l.getD j default = 0) (fun k => 2 - k) 0 ⟨by omega, fun j hj => by omega⟩ les leh (fun k hk => ?_)
  obtain ⟨h3, h4⟩ := hk
  repeat' (first | refine sA ?_ | ((first | apply kM | apply kN); (iterate 3 (· exact rfl)); (· first | exact ya)) | refine sG ?_ | (refine sK ?_ ?_ <;> intro hc <;> (try simp only [KL, sL, reduceCtorEq] at hc) <;> (try (have hT : True := hc; clear hT hc)) <;> (try (exfalso; omega))))
  · refine retq rfl (congrArg (AV.int .i64) ?_)
    rcases (show k = 0 ∨ k = 1 by omega) with rfl | rfl
    · unfold orI; rw [h1] at hc ⊢; rw [if_pos hc]
    · have := h4 0 (by omega); unfold orI; rw [h2]; rw [if_neg (by omega)]
  · exact ⟨k + 1, ⟨by omega, fun j hj => by
      by_cases e : j = k
      · subst e; exact hc
      · exact h4 j (by omega)⟩, by omega, les, leh⟩
  · have h5 := h4 0 (by omega)
    have h6 := h4 1 (by omega)
    refine retq rfl (congrArg (AV.int .i64) ?_)
    unfold orI; rw [if_neg (by omega)]; omega
def eGt (g : Gt) : List AV := [.int .i64 g.per, .int .i64 g.last, .bool g.op]
def upG (g : Gt) (x : Int) : Gt := if passD g x then ⟨g.per, x, true⟩ else g
end Go.Proofs.YtfjoaeghnfkdlaaGreatDoor
