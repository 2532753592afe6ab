/- Slices that a call makes itself: append of one element, and how they read; no condition. -/
import Derived.Test.YtfjoaeghnfkdlaaDoorR8
import Derived.OwnWalk
import Derived.RegionTactic
import Derived.Deep.QuietTactic
import Derived.BigQuiet
import Derived.Test.YtfjoaeghnfkdlaaDoorR20
import Derived.Test.YtfjoaeghnfkdlaaDoorR25
import Derived.Test.YtfjoaeghnfkdlaaDoorR12
import Derived.Test.YtfjoaeghnfkdlaaDoorR13
set_option linter.unusedSimpArgs false
set_option linter.unusedVariables false
set_option maxHeartbeats 1000000
namespace Go.Proofs.YtfjoaeghnfkdlaaDoor
set_option maxRecDepth 100000
open Go.RowKit

def Elt (P : Program) (t e : TypeId) (k bytes : Nat) : Prop :=
  P.underlying t = some (.slice e) ∧ 0 < k ∧ ∃ i z, P.info? e = some i ∧ i.zero = some z ∧ z.cells.size = k ∧ i.size = k ∧ i.bytes = bytes
def Own {α : Type} (f : α → List Value) (k : Nat) (e : TypeId) (B : Nat) (w : World) (v : Value) (xs : List α) : Prop :=
  w.ownsRow B e k v xs.length (xs.flatMap f)
theorem Own.nil {α : Type} (f : α → List Value) (k : Nat) (e : TypeId) (B : Nat) (w : World) : Own f k e B w (.slice none 0 0) [] := World.ownsRow_nil w B e k
theorem Own.alloc {α : Type} {f : α → List Value} {k : Nat} {e : TypeId} {B : Nat} {w : World} {v : Value} {xs : List α} (h : Own f k e B w v xs) (o : Obj) : Own f k e B (w.alloc o) v xs := World.ownsRow.alloc h o
theorem Own.below {α : Type} {f : α → List Value} {k : Nat} {e : TypeId} {B : Nat} {w w' : World} {v : Value} {xs : List α} (h : Own f k e B w v xs) (hb : Below w.heap.size w w') : Own f k e B w' v xs := by
  obtain ⟨h1, h2⟩ := h
  refine ⟨h1, ?_⟩
  rcases h2 with h2 | ⟨g, cap, cur, hv, hg, hh, r⟩
  · exact .inl h2
  · exact .inr ⟨g, cap, cur, hv, hg, (hb.block g (Array.getElem?_eq_some_iff.1 hh).1).trans hh, r⟩
theorem Own.base {α : Type} {f : α → List Value} {k : Nat} {e : TypeId} {B B' : Nat} {w : World} {v : Value} {xs : List α} (h : Own f k e B w v xs) (hB : B' ≤ B) : Own f k e B' w v xs := by
  obtain ⟨h1, h2⟩ := h
  refine ⟨h1, ?_⟩
  rcases h2 with h2 | ⟨g, cap, cur, hv, hg, r⟩
  · exact .inl h2
  · exact .inr ⟨g, cap, cur, hv, Nat.le_trans hB hg, r⟩
theorem flat_get {α : Type} {f : α → List Value} {k : Nat} (hf : ∀ y, (f y).length = k) : ∀ (xs : List α) (i j : Nat) (x : α) (u : Value), xs[i]? = some x → (f x)[j]? = some u → (xs.flatMap f)[i * k + j]? = some u
  | [], i, j, x, u, h, _ => by simp at h
  | y :: ys, 0, j, x, u, h, hu => by
    simp at h; subst h
    have hj : j < (f y).length := (List.getElem?_eq_some_iff.1 hu).1
    rw [List.flatMap_cons, List.getElem?_append_left (by simpa using hj)]; simpa using hu
  | y :: ys, i + 1, j, x, u, h, hu => by
    have ih := flat_get hf ys i j x u (by simpa using h) hu
    rw [List.flatMap_cons, List.getElem?_append_right (by rw [hf, Nat.add_mul]; omega), hf, Nat.add_mul]
    rwa [show i * k + 1 * k + j - k = i * k + j by omega]
theorem Own.row {α : Type} {f : α → List Value} {k : Nat} {e : TypeId} {B : Nat} {w : World} {v : Value} {xs : List α} {R : Cod α} (h : Own f k e B w v xs) (hf : ∀ y, (f y).length = k) (hR : ∀ x ∈ xs, R w (f x) x) :
    ∃ A c, v = .slice A xs.length c ∧ xs.length ≤ c ∧ c ≤ maxLen ∧ Row R k w A xs := by
  rcases h.2 with ⟨rfl, h0⟩ | ⟨g, cap, cur, rfl, _, _, hn, hm, _⟩
  · obtain rfl : xs = [] := List.eq_nil_of_length_eq_zero h0
    exact ⟨none, 0, rfl, by simp, by simp, Row.nil _ _ _ _⟩
  · refine ⟨some ⟨g, 0, none⟩, cap, rfl, hn, hm, fun _ => ⟨g, 0, rfl, fun i x hx => ⟨f x, hR x (List.mem_of_getElem? hx), hf x, fun j u hu => ?_⟩⟩⟩
    have := World.ownsRow.cells h (g := g) rfl (i * k + j) u (flat_get hf xs i j x u hx hu)
    rwa [Go.WideShapes.add_plain, ← Nat.add_assoc] at this

def AtB (w : World) (b : Nat) (cs : List Value) : Prop := ∀ i u, cs[i]? = some u → w.cell? ⟨b, i, none⟩ = some u
theorem AtB.ext {w w' : World} {b : Nat} {cs : List Value} (h : AtB w b cs) (he : Ext w w') : AtB w' b cs := fun i u hu => he _ _ (h i u hu)
theorem AtB.new (w : World) (cs : List Value) (e : TypeId) : AtB (w.alloc (.cells cs.toArray e)) w.heap.size cs := fun i u hu => by
  rw [World.cell?_alloc_at _ _ _ _ rfl]; simpa using hu
theorem Ext.alloc (w : World) (o : Obj) : Ext w (w.alloc o) := Ext.below ((Below.refl _ _).alloc (Nat.le_refl _) _)
theorem Own.at_ {α : Type} {f : α → List Value} {k : Nat} {e : TypeId} {B : Nat} {w : World} {A : Option Addr} {n c : Nat} {xs : List α} (h : Own f k e B w (.slice A n c) xs) (hp : 0 < xs.length) :
    ∃ g, A = some ⟨g, 0, none⟩ ∧ n = xs.length ∧ B ≤ g ∧ g < w.heap.size ∧ ∀ o, w.frozen? ⟨g, o, none⟩ = false := by
  rcases h.2 with ⟨_, h0⟩ | ⟨g, cap, cur, hv, hb, hh, _⟩
  · omega
  · injection hv with h1 h2 h3
    exact ⟨g, h1, h2, hb, (Array.getElem?_eq_some_iff.1 hh).1, fun o => by simp [World.frozen?, hh]⟩
theorem flat_set {α : Type} {f : α → List Value} {k : Nat} (hf : ∀ y, (f y).length = k) : ∀ (xs : List α) (i j : Nat) (x' : α) (u : Value) (hi : i < xs.length), j < k → f x' = (f xs[i]).set j u → (xs.set i x').flatMap f = (xs.flatMap f).set (i * k + j) u
  | [], i, j, x', u, hi, _, _ => by simp at hi
  | y :: ys, 0, j, x', u, _, hj, h => by
    simp only [List.getElem_cons_zero] at h
    rw [List.set_cons_zero, List.flatMap_cons, List.flatMap_cons, h, Nat.zero_mul, Nat.zero_add, List.set_append_left _ _ (by rw [hf]; exact hj)]
  | y :: ys, i + 1, j, x', u, hi, hj, h => by
    simp only [List.getElem_cons_succ] at h
    have ih := flat_set hf ys i j x' u (by simpa using hi) hj h
    rw [List.set_cons_succ, List.flatMap_cons, List.flatMap_cons, ih, List.set_append_right _ _ (by rw [hf, Nat.add_mul]; omega), hf]
    congr 2
    rw [Nat.add_mul]; omega
theorem Own.store {α : Type} {f : α → List Value} {k : Nat} {e : TypeId} {B : Nat} {w : World} {g n c : Nat} {xs : List α} (h : Own f k e B w (.slice (some ⟨g, 0, none⟩) n c) xs) (hf : ∀ y, (f y).length = k)
    {i j : Nat} (hi : i < xs.length) (hj : j < k) {x' : α} {u : Value} (hx : f x' = (f xs[i]).set j u) : Own f k e B (w.setCell ⟨g, i * k + j, none⟩ u) (.slice (some ⟨g, 0, none⟩) n c) (xs.set i x') := by
  unfold Own at h ⊢
  rw [flat_set hf xs i j x' u hi hj hx, List.length_set]
  refine ⟨by rw [List.length_set]; exact h.1, ?_⟩
  rcases h.2 with ⟨h0, _⟩ | ⟨g', cap, cur, hv, hb, hh, hn, hm, hcs, ht⟩
  · injection h0 with h0; cases h0
  · injection hv with h1 h2 h3
    injection h1 with h1
    injection h1 with h1
    subst h1
    refine .inr ⟨g, cap, cur.setIfInBounds (i * k + j) u, by rw [h2, h3], hb, by simp [World.setCell, Array.getElem?_modify, hh], hn, hm, by simpa using hcs, ?_⟩
    rw [Array.toList_setIfInBounds, List.take_set, ht]
section
variable {P : Program} {α : Type} {f : α → List Value} {k : Nat}
end
end Go.Proofs.YtfjoaeghnfkdlaaDoor
namespace Go.Proofs.YtfjoaeghnfkdlaaDoor
set_option maxRecDepth 100000
open Go.RowKit

end Go.Proofs.YtfjoaeghnfkdlaaDoor
namespace Go.Proofs.YtfjoaeghnfkdlaaDoor
set_option maxRecDepth 100000
set_option maxRecDepth 100000
open Go.RowKit
theorem pl_Events (xs ys : List Event) : Fn Tryd.prog 9 [.lst 5 (xs.map eEvent), .lst 5 (ys.map eEvent)] (.bool (decide (xs = ys))) := by
  refine fnb Tryd.func9 (entered_of (by kernel_rfl)) rfl rfl rfl ?_
  repeat' (first | refine sA ?_ | ((first | apply kM | apply kN); (iterate 3 (· exact rfl)); (· first | exact ya | exact Y.mk (neq_Event rfl rfl rfl))) | refine sG ?_ | (refine sK ?_ ?_ <;> intro hc <;> (try simp only [KL, sL, reduceCtorEq] at hc) <;> (try (have hT : True := hc; clear hT hc)) <;> (try (exfalso; omega))))
  · exact retq rfl (congrArg AV.bool (decide_eq_false fun e => hc (by rw [e])).symm)
  · refine wloop (fun k : Nat => ([(0, .lst 5 (xs.map eEvent)), (1, .lst 5 (ys.map eEvent)), (12, .int .i64 xs.length), (13, .int .i64 k)], [])) (fun k => k ≤ xs.length ∧ ∀ j, j < k → xs[j]? = ys[j]?) (fun k => xs.length - k) 0 ⟨by omega, fun j hj => by omega⟩ les leh (fun k hk => ?_)
    obtain ⟨hk, he⟩ := hk
    refine wrange 12 rfl (fun hr => ?_)
    simp only [rangeP] at hr
    have hl : xs.length = ys.length := by omega
    repeat' (first | refine sA ?_ | ((first | apply kM | apply kN); (iterate 3 (· exact rfl)); (· first | exact ya | exact Y.mk (neq_Event rfl rfl rfl))) | refine sG ?_ | (refine sK ?_ ?_ <;> intro hc <;> (try simp only [KL, sL, reduceCtorEq] at hc) <;> (try (have hT : True := hc; clear hT hc)) <;> (try (exfalso; omega))))
    · exact retq rfl (congrArg AV.bool (decide_eq_false fun e => hc (by rw [e])).symm)
    · exact ⟨k + 1, ⟨by omega, get_next hc (by omega) (by omega) he⟩, by omega, les, leh⟩
    · exact retq rfl (congrArg AV.bool (decide_eq_true (parts_eq hl fun j hj => he j (by omega))).symm)
theorem FnT.le {P : Program} {kn : Know} {f : FuncId} {args args' : List AV} {r : AV} (hf : FnT P kn f args' r) (h : L2 LeV args args') : FnT P kn f args r :=
  ⟨hf.1, fun σ ι w vs hk hsub hv => hf.2 σ ι w vs hk hsub ⟨by rw [← h.1, hv.1], fun j c v hc hv2 => by
    have hj : j < args.length := by rw [h.1]; exact (List.getElem?_eq_some_iff.1 hc).1
    exact h.2 j _ c (List.getElem?_eq_getElem hj) hc σ ι v (hv.2 j _ v (List.getElem?_eq_getElem hj) hv2)⟩⟩
set_option maxHeartbeats 4000000 in
theorem runNo_fn (l : List Task) (asks : List Due) (dm : List (List Int)) (ticks : Int) (hl : l.length ≤ 1000000) (h : okK l = false ∨ ticks < 0 ∨ 65536 < ticks) :
    FnT Tryd.prog tabK 7 [.lst 7 (l.map eTask), .lst 2 (asks.map eDue), .lst 1 (dm.map eLI), .int .i64 ticks] (.tup [.nils, .int .i64 1]) := by
  refine fntw Tryd.func7 (entered_of (by kernel_rfl)) rfl rfl rfl rfl ?_
  cases hok : okK l
  · have c1 := new29n_fn l hl hok
    repeat' (first | refine sA ?_ | ((first | apply kM | apply kN); (iterate 3 (· exact rfl)); (· first | exact ya | exact q_c (c1) rfl)) | refine sG ?_ | (refine sK ?_ ?_ <;> intro hc <;> (try simp only [KL, sL, reduceCtorEq] at hc) <;> (try (have hT : True := hc; clear hT hc)) <;> (try (exfalso; omega))))
    all_goals first | (exfalso; omega) | exact retq rfl rfl
  · have c1 := new29_fn l hok
    have h : ticks < 0 ∨ 65536 < ticks := h.resolve_left (by rw [hok]; decide)
    repeat' (first | refine sA ?_ | ((first | apply kM | apply kN); (iterate 3 (· exact rfl)); (· first | exact ya)) | refine sG ?_ | (refine sK ?_ ?_ <;> intro hc <;> (try simp only [KL, sL, reduceCtorEq] at hc) <;> (try (have hT : True := hc; clear hT hc)) <;> (try (exfalso; omega))))
    refine oturn (turn_dummy eI 108 3 1 (by omega) rfl) ?_
    refine oturn (turn_dummy eI 107 3 1 (by omega) rfl) ?_
    refine oturn (turn_dummy eI 106 3 1 (by omega) rfl) ?_
    refine oturn (turn_dummy eI 105 3 1 (by omega) rfl) ?_
    refine oturn (turn_dummy eI 104 3 1 (by omega) rfl) ?_
    refine oturn (turn_dummy eI 103 3 1 (by omega) rfl) ?_
    refine oturn (turn_dummy eI 102 3 1 (by omega) rfl) ?_
    refine oturn (turn_dummy eI 101 3 1 (by omega) rfl) ?_
    refine oturn (turn_dummy eI 100 3 1 (by omega) rfl) ?_
    refine zcall (fun i => ρK i) (c1) rfl rfl leh (by kernel_rfl) (by kernel_rfl) (by kernel_rfl) (by kernel_rfl) rfl rfl (fun r h' hR => ?_)
    obtain ⟨rfl, rfl⟩ := hR
    refine ⟨rfl, rfl, ?_⟩
    refine ole (s' := [(3, .int .i64 ticks), (23, .tup [.ptr 100 0, .int .i64 0])]) (h' := []) les (LeH.nil _) ?_
    repeat' (first | refine sA ?_ | ((first | apply kM | apply kN); (iterate 3 (· exact rfl)); (· first | exact ya)) | refine sG ?_ | (refine sK ?_ ?_ <;> intro hc <;> (try simp only [KL, sL, reduceCtorEq] at hc) <;> (try (have hT : True := hc; clear hT hc)) <;> (try (exfalso; omega))))
    all_goals first | (exfalso; omega) | exact retq rfl rfl
def tk29a : Task := ⟨1, 0, 4, 0, 4, 1, []⟩
def tk29b : Task := ⟨1, 1, 4, 0, 4, 1, []⟩
def evs29 : List Event := [⟨0, 1, 0, 0, 0⟩, ⟨0, 1, 1, 0, 0⟩, ⟨0, 5, 1, 0, 0⟩, ⟨1, 5, 1, 0, 1⟩, ⟨1, 7, 1, 0, 2⟩, ⟨2, 5, 0, 0, 0⟩, ⟨3, 5, 0, 0, 1⟩, ⟨3, 7, 0, 0, 4⟩]
theorem run29_eq : (runP [tk29a, tk29b] [] [[2], [2]] 4).2 = evs29 := by decide +kernel
def stp (es : List Event) : List Int := (es.filter fun e => decide (e.kind = 5)).map Event.task
theorem stp_next (es : List Event) {k : Nat} (h : k < es.length) : stp (es.take (k + 1)) = stp (es.take k) ++ (if (es.getD k default).kind = 5 then [(es.getD k default).task] else []) := by
  have e : es.getD k default = es[k] := by simp [h]
  unfold stp
  rw [List.take_succ_eq_append_getElem h, List.filter_append, List.map_append, ← e]
  congr 1
  by_cases hk : (es.getD k default).kind = 5
  · rw [if_pos hk, List.filter_cons, if_pos (by simpa using hk)]; rfl
  · rw [if_neg hk, List.filter_cons, if_neg (by simpa using hk)]; rfl
theorem stp_len (es : List Event) (k : Nat) : (stp (es.take k)).length ≤ k := by
  unfold stp; rw [List.length_map]
  exact Nat.le_trans (List.length_filter_le _ _) (by rw [List.length_take]; omega)
set_option maxHeartbeats 4000000 in
theorem awake29_fn : FnT Tryd.prog tabK 6 [] (.bool true) := by
  refine fntw Tryd.func6 (entered_of (by kernel_rfl)) rfl rfl rfl rfl ?_
  have c1 : FnT Tryd.prog tabK 7 [.lst 7 ([tk29a, tk29b].map eTask), .nils, .lst 1 (([[2], [2]] : List (List Int)).map eLI), .int .i64 4] (.tup [.lst 5 (evs29.map eEvent), .int .i64 0]) := by
    have h := run_fn [tk29a, tk29b] [] [[2], [2]] 4 (by decide) (by decide) (by decide)
    rw [show (4 : Int).toNat = 4 from rfl, run29_eq] at h
    exact h.le (by repeat' (first | exact L2.nil _ | refine L2.cons ?_ ?_ | exact LeV.of_eq rfl | exact LeV.nils _ | refine LeV.agg ?_))
  have c2 := pl_Ints [1, 1, 0, 0] [1, 1, 0, 0]
  rw [show decide (([1, 1, 0, 0] : List Int) = [1, 1, 0, 0]) = true from rfl] at c2
  repeat' (first | refine sA ?_ | ((first | apply kM | apply kN); (iterate 3 (· exact rfl)); (· first | exact ya)) | refine sG ?_ | (refine sK ?_ ?_ <;> intro hc <;> (try simp only [KL, sL, reduceCtorEq] at hc) <;> (try (have hT : True := hc; clear hT hc)) <;> (try (exfalso; omega))))
  refine ole (s' := [(11, .lst 7 ([tk29a, tk29b].map eTask)), (14, .lst 1 (([[2], [2]] : List (List Int)).map eLI))]) (LeS.cons (lelst (ys := [tk29a, tk29b].map eTask)) (LeS.cons (LeV.of_eq rfl) (LeS.nil _))) (LeH.refl _) ?_
  repeat' (first | refine sA ?_ | ((first | apply kM | apply kN); (iterate 3 (· exact rfl)); (· first | exact ya | exact Y.mk (ok_callT (id := 9) c1 rfl rfl))) | refine sG ?_ | (refine sK ?_ ?_ <;> intro hc <;> (try simp only [KL, sL, reduceCtorEq] at hc) <;> (try (have hT : True := hc; clear hT hc)) <;> (try (exfalso; omega))))
  refine wle (s' := [(3, .int .i64 0), (4, .nils), (18, .lst 5 (evs29.map eEvent)), (19, .int .i64 evs29.length), (20, .int .i64 0)]) (h' := []) les (LeH.nil _) ?_
  refine wturn (turn_own eI (t := 4) rfl 20 3 1 (by omega) rfl) ?_
  refine wloop (fun k : Nat => ([(3, .int .i64 0), (4, .own 20), (18, .lst 5 (evs29.map eEvent)), (19, .int .i64 evs29.length), (20, .int .i64 k)], [(20, .row 3 1 ((stp (evs29.take k)).map eI))])) (fun k => k ≤ evs29.length) (fun k => evs29.length - k) 0 (Nat.zero_le _) les leh (fun k hk => ?_)
  have hlen : evs29.length = 8 := rfl
  rcases Nat.lt_or_eq_of_le hk with hkk | hkk
  · have hnx := stp_next evs29 hkk
    have hsl := stp_len evs29 k
    generalize stp (evs29.take k) = xs at hnx hsl ⊢
    generalize evs29 = es at *
    by_cases h5 : (es.getD k default).kind = 5
    · rw [if_pos h5] at hnx
      repeat' (first | refine sA ?_ | (show O _ _ _ _ _ _ _; first | refine ao_alloc (id := 12) rfl rfl rfl rfl rfl rfl rfl ?_) | ((first | apply kM | apply kN); (iterate 3 (· exact rfl)); (· first | exact ya)) | refine sG ?_ | (refine sK ?_ ?_ <;> intro hc <;> (try simp only [KL, sL, reduceCtorEq] at hc) <;> (try (have hT : True := hc; clear hT hc)) <;> (try (exfalso; omega))))
      all_goals first | (exfalso; omega) | skip
      (refine ao_ap (id := 20) (ys := [(es.getD k default).task]) (by_ := 8) rfl rfl rfl rfl rfl rfl rfl rfl rfl rfl (fun _ _ => rfl) ?_ ?_ rfl rfl rfl rfl rfl ?_; (· (first | omega | ((try simp only [List.length_cons, List.length_nil, List.length_append, List.length_map]) <;> omega))); (· (first | omega | ((try simp only [List.length_cons, List.length_nil, List.length_append, List.length_map]) <;> omega))))
      repeat' (first | refine sA ?_ | ((first | apply kM | apply kN); (iterate 3 (· exact rfl)); (· first | exact ya)) | refine sG ?_ | (refine sK ?_ ?_ <;> intro hc <;> (try simp only [KL, sL, reduceCtorEq] at hc) <;> (try (have hT : True := hc; clear hT hc)) <;> (try (exfalso; omega))))
      exact ⟨k + 1, by omega, by omega, les, by simp only [hnx]; exact leh⟩
    · rw [if_neg h5, List.append_nil] at hnx
      repeat' (first | refine sA ?_ | (show O _ _ _ _ _ _ _; first | refine ao_alloc (id := 12) rfl rfl rfl rfl rfl rfl rfl ?_) | ((first | apply kM | apply kN); (iterate 3 (· exact rfl)); (· first | exact ya)) | refine sG ?_ | (refine sK ?_ ?_ <;> intro hc <;> (try simp only [KL, sL, reduceCtorEq] at hc) <;> (try (have hT : True := hc; clear hT hc)) <;> (try (exfalso; omega))))
      all_goals first | (exfalso; omega) | skip
      exact ⟨k + 1, by omega, by omega, les, by simp only [hnx]; exact leh⟩
  subst hkk
  rw [List.take_length, show stp evs29 = [1, 1, 0, 0] from rfl]
  repeat' (first | refine sA ?_ | ((first | apply kM | apply kN); (iterate 3 (· exact rfl)); (· first | exact ya)) | refine sG ?_ | (refine sK ?_ ?_ <;> intro hc <;> (try simp only [KL, sL, reduceCtorEq] at hc) <;> (try (have hT : True := hc; clear hT hc)) <;> (try (exfalso; omega))))
  all_goals first | (exfalso; omega) | skip
  refine oturn (turn_freeze (t := 36) (id := 20) rfl rfl rfl) ?_
  repeat' (first | refine sA ?_ | ((first | apply kM | apply kN); (iterate 3 (· exact rfl)); (· first | exact ya | exact q_c (c2) rfl)) | refine sG ?_ | (refine sK ?_ ?_ <;> intro hc <;> (try simp only [KL, sL, reduceCtorEq] at hc) <;> (try (have hT : True := hc; clear hT hc)) <;> (try (exfalso; omega))))
  all_goals first | (exfalso; omega) | exact retq rfl rfl
def ρU (i : Nat) : Nat := i + 110
set_option maxHeartbeats 8000000 in
theorem kernelRuns_fn (l : List Task) (asks : List Due) (dm : List (List Int)) (ticks : Int) : FnT Tryd.prog tabK 3 [.agg [.lst 7 (l.map eTask), .lst 2 (asks.map eDue), .lst 1 (dm.map eLI), .int .i64 ticks]] (.bool true) := by
  refine fntw Tryd.func3 (entered_of (by kernel_rfl)) rfl rfl rfl rfl ?_
  have c1 := light29_fn l asks dm ticks
  have c2 := awake29_fn
  cases hli : lightB l asks dm ticks <;> rw [hli] at c1
  · repeat' (first | refine sA ?_ | ((first | apply kM | apply kN); (iterate 3 (· exact rfl)); (· first | exact ya | exact q_c (c1) rfl | exact Y.mk (ok_callT (id := 9) c2 rfl rfl))) | refine sG ?_ | (refine sK ?_ ?_ <;> intro hc <;> (try simp only [KL, sL, reduceCtorEq] at hc) <;> (try (have hT : True := hc; clear hT hc)) <;> (try (exfalso; omega))))
    all_goals first | (exfalso; omega) | exact retq rfl rfl
  have hli2 : fewQ l 20 = true ∧ (asks.length ≤ 200 ∧ dm.length ≤ 20 ∧ ¬ (1000 < ticks ∧ ticks ≤ 65536)) := by
    rw [lightB, Bool.and_eq_true, Bool.and_eq_true, decide_eq_true_eq] at hli
    exact hli.1
  obtain ⟨hfew, ha, hdm, htk⟩ := hli2
  have hl : l.length ≤ 20 := by
    rw [fewQ, Bool.and_eq_true, decide_eq_true_eq] at hfew; omega
  have c4 := new29r_fn l (by omega)
  cases hok : okK l
  · have c3 := runNo_fn l asks dm ticks (by omega) (.inl hok)
    have c4 := c4.mono (R' := fun r h' => r = .nilp ∧ h' = []) fun r h hr => hr.2 hok
    repeat' (first | refine sA ?_ | ((first | apply kM | apply kN); (iterate 3 (· exact rfl)); (· first | exact ya | exact q_c (c1) rfl | exact Y.mk (ok_callT (id := 9) c3 rfl rfl))) | refine sG ?_ | (refine sK ?_ ?_ <;> intro hc <;> (try simp only [KL, sL, reduceCtorEq] at hc) <;> (try (have hT : True := hc; clear hT hc)) <;> (try (exfalso; omega))))
    all_goals first | (exfalso; omega) | skip
    refine oturn (turn_dummy eI 118 3 1 (by omega) rfl) ?_
    refine oturn (turn_dummy eI 116 3 1 (by omega) rfl) ?_
    refine oturn (turn_dummy eI 115 3 1 (by omega) rfl) ?_
    refine oturn (turn_dummy eI 111 3 1 (by omega) rfl) ?_
    refine oturn (turn_dummy eI 110 3 1 (by omega) rfl) ?_
    refine zcall (fun i => ρK i) (c4) rfl rfl leh (by kernel_rfl) (by kernel_rfl) (by kernel_rfl) (by kernel_rfl) rfl rfl (fun r h' hR => ?_)
    obtain ⟨rfl, rfl⟩ := hR
    refine ⟨rfl, rfl, ?_⟩
    refine ole (h' := [tab9]) (LeS.refl _) leh ?_
    repeat' (first | refine sA ?_ | ((first | apply kM | apply kN); (iterate 3 (· exact rfl)); (· first | exact ya | exact q_c (c1) rfl | exact Y.mk (ok_callT (id := 9) c2 rfl rfl))) | refine sG ?_ | (refine sK ?_ ?_ <;> intro hc <;> (try simp only [KL, sL, reduceCtorEq] at hc) <;> (try (have hT : True := hc; clear hT hc)) <;> (try (exfalso; omega))))
    all_goals first | (exfalso; omega) | exact retq rfl rfl
  have c4 := c4.mono (R' := fun r h' => r = .ptr 110 0 ∧ h' = rkO l newB (foN (List.replicate l.length [])) 0 false) fun r h hr => hr.1 hok
  have hl8 : l.length ≤ 8 := by rw [okK, Bool.and_eq_true, decide_eq_true_eq] at hok; omega
  by_cases hb : ticks < 0 ∨ 65536 < ticks
  · have c3 := runNo_fn l asks dm ticks (by omega) (.inr hb)
    repeat' (first | refine sA ?_ | ((first | apply kM | apply kN); (iterate 3 (· exact rfl)); (· first | exact ya | exact q_c (c1) rfl | exact Y.mk (ok_callT (id := 9) c3 rfl rfl))) | refine sG ?_ | (refine sK ?_ ?_ <;> intro hc <;> (try simp only [KL, sL, reduceCtorEq] at hc) <;> (try (have hT : True := hc; clear hT hc)) <;> (try (exfalso; omega))))
    all_goals first | (exfalso; omega) | skip
    refine oturn (turn_dummy eI 118 3 1 (by omega) rfl) ?_
    refine oturn (turn_dummy eI 116 3 1 (by omega) rfl) ?_
    refine oturn (turn_dummy eI 115 3 1 (by omega) rfl) ?_
    refine oturn (turn_dummy eI 111 3 1 (by omega) rfl) ?_
    refine oturn (turn_dummy eI 110 3 1 (by omega) rfl) ?_
    refine zcall (fun i => ρK i) (c4) rfl rfl leh (by kernel_rfl) (by kernel_rfl) (by kernel_rfl) (by kernel_rfl) rfl rfl (fun r h' hR => ?_)
    obtain ⟨rfl, rfl⟩ := hR
    refine ⟨rfl, rfl, ?_⟩
    refine ole (h' := [tab9]) (LeS.refl _) leh ?_
    repeat' (first | refine sA ?_ | ((first | apply kM | apply kN); (iterate 3 (· exact rfl)); (· first | exact ya | exact q_c (c1) rfl | exact Y.mk (ok_callT (id := 9) c2 rfl rfl))) | refine sG ?_ | (refine sK ?_ ?_ <;> intro hc <;> (try simp only [KL, sL, reduceCtorEq] at hc) <;> (try (have hT : True := hc; clear hT hc)) <;> (try (exfalso; omega))))
    all_goals first | (exfalso; omega) | exact retq rfl rfl
  · obtain ⟨T, hT⟩ : ∃ T : Nat, ticks = T := ⟨ticks.toNat, by omega⟩
    subst hT
    have c3 := run_fn l asks dm T hok (by omega) ⟨by omega, by omega⟩
    rw [Int.toNat_natCast, (run_same hok asks dm T (by omega)).2] at c3
    have c5 := rrun_fn l asks dm T hl8 (by omega) (by omega)
    have hI := rRun_inv hl8 asks dm T (by omega)
    have hes : (rRun l asks dm T).es.length ≤ 1000000 := by
      have h1 := hI.len
      have h2 := askN_le asks T
      omega
    generalize (rRun l asks dm T).es = es at *
    have c6 := pl_Events es es
    rw [decide_eq_true rfl] at c6
    repeat' (first | refine sA ?_ | ((first | apply kM | apply kN); (iterate 3 (· exact rfl)); (· first | exact ya | exact q_c (c1) rfl | exact Y.mk (ok_callT (id := 9) c3 rfl rfl))) | refine sG ?_ | (refine sK ?_ ?_ <;> intro hc <;> (try simp only [KL, sL, reduceCtorEq] at hc) <;> (try (have hT : True := hc; clear hT hc)) <;> (try (exfalso; omega))))
    all_goals first | (exfalso; omega) | skip
    refine oturn (turn_dummy eI 118 3 1 (by omega) rfl) ?_
    refine oturn (turn_dummy eI 116 3 1 (by omega) rfl) ?_
    refine oturn (turn_dummy eI 115 3 1 (by omega) rfl) ?_
    refine oturn (turn_dummy eI 111 3 1 (by omega) rfl) ?_
    refine oturn (turn_dummy eI 110 3 1 (by omega) rfl) ?_
    refine zcall (fun i => ρK i) (c4) rfl rfl leh (by kernel_rfl) (by kernel_rfl) (by kernel_rfl) (by kernel_rfl) rfl rfl (fun r h' hR => ?_)
    obtain ⟨rfl, rfl⟩ := hR
    refine ⟨rfl, rfl, ?_⟩
    refine ole (h' := tab9 :: rkO l newB (foN (List.replicate l.length [])) 0 false) (LeS.refl _) leh ?_
    repeat' (first | refine sA ?_ | ((first | apply kM | apply kN); (iterate 3 (· exact rfl)); (· first | exact ya | exact q_c (c1) rfl | exact Y.mk (ok_callT (id := 9) c2 rfl rfl))) | refine sG ?_ | (refine sK ?_ ?_ <;> intro hc <;> (try simp only [KL, sL, reduceCtorEq] at hc) <;> (try (have hT : True := hc; clear hT hc)) <;> (try (exfalso; omega))))
    all_goals first | (exfalso; omega) | skip
    refine zcall (fun i => ρU i) (c5) rfl rfl leh (by kernel_rfl) (by kernel_rfl) (by kernel_rfl) (by kernel_rfl) rfl rfl (fun r h' hR => ?_)
    obtain ⟨rfl, rfl⟩ := hR
    refine ⟨rfl, rfl, ?_⟩
    refine ole (h' := [tab9]) (LeS.refl _) leh ?_
    repeat' (first | refine sA ?_ | ((first | apply kM | apply kN); (iterate 3 (· exact rfl)); (· first | exact ya | exact q_c (c6) rfl | exact Y.mk (ok_callT (id := 9) c2 rfl rfl))) | refine sG ?_ | (refine sK ?_ ?_ <;> intro hc <;> (try simp only [KL, sL, reduceCtorEq] at hc) <;> (try (have hT : True := hc; clear hT hc)) <;> (try (exfalso; omega))))
    all_goals first | (exfalso; omega) | exact retq rfl rfl
end Go.Proofs.YtfjoaeghnfkdlaaDoor
namespace Go.Proofs.YtfjoaeghnfkdlaaDoor
set_option maxRecDepth 100000
open Go.RowKit Go.ChangeShapes Go.WideShapes

structure Case29 where
  l : List Task
  lt : List Due
  dm : List (List Int)
  ticks : Int
instance : Inhabited Case29 := ⟨⟨[], [], [], 0⟩⟩
theorem Case29.ext_ {x y : Case29} (h : x.l = y.l ∧ x.lt = y.lt ∧ x.dm = y.dm ∧ x.ticks = y.ticks) : x = y := by cases x; cases y; simp_all
instance : DecidableEq Case29 := fun x y => decidable_of_iff (x.l = y.l ∧ x.lt = y.lt ∧ x.dm = y.dm ∧ x.ticks = y.ticks) ⟨Case29.ext_, fun h => by subst h; simp⟩
def Case29.ok (x : Case29) : Prop := (Lit.int .i64 x.ticks).wf = true
def Case29.cod : Cod Case29 := fun w cs x => ∃ (A_l : Option Addr) (c_l : Nat) (A_lt : Option Addr) (c_lt : Nat) (A_dm : Option Addr) (c_dm : Nat), cs = [.slice A_l x.l.length c_l, .slice A_lt x.lt.length c_lt, .slice A_dm x.dm.length c_dm, .int .i64 x.ticks] ∧ x.ok ∧ x.l.length ≤ c_l ∧ c_l ≤ maxLen ∧ Row Task.cod 7 w A_l x.l ∧ x.lt.length ≤ c_lt ∧ c_lt ≤ maxLen ∧ Row Due.cod 2 w A_lt x.lt ∧ x.dm.length ≤ c_dm ∧ c_dm ≤ maxLen ∧ Row (cSlice (cInt .i64) 1) 1 w A_dm x.dm
theorem Case29.mono : Mono Case29.cod := fun _ _ _ _ he ⟨A_l, c_l, A_lt, c_lt, A_dm, c_dm, h, hk, l_l, m_l, r_l, l_lt, m_lt, r_lt, l_dm, m_dm, r_dm⟩ => ⟨A_l, c_l, A_lt, c_lt, A_dm, c_dm, h, hk, l_l, m_l, r_l.ext Task.mono he, l_lt, m_lt, r_lt.ext Due.mono he, l_dm, m_dm, r_dm.ext (Mono.slice (Mono.int _) 1) he⟩
theorem Case29.size {w : World} {cs : List Value} {x : Case29} (h : Case29.cod w cs x) : cs.length = 4 := by obtain ⟨A_l, c_l, A_lt, c_lt, A_dm, c_dm, h, _⟩ := h; rw [h]; rfl
theorem Case29.at {w : World} {b off : Nat} {xs : List Case29} (h : Row' Case29.cod 4 w b off xs) (i : Nat) (hi : i < xs.length) :
    ∃ (A_l : Option Addr) (c_l : Nat) (A_lt : Option Addr) (c_lt : Nat) (A_dm : Option Addr) (c_dm : Nat), w.cell? ⟨b, off + i * 4, none⟩ = some (.slice A_l xs[i].l.length c_l) ∧ w.cell? ⟨b, off + i * 4 + 1, none⟩ = some (.slice A_lt xs[i].lt.length c_lt) ∧ w.cell? ⟨b, off + i * 4 + 2, none⟩ = some (.slice A_dm xs[i].dm.length c_dm) ∧ w.cell? ⟨b, off + i * 4 + 3, none⟩ = some (.int .i64 xs[i].ticks) ∧ xs[i].ok ∧ xs[i].l.length ≤ c_l ∧ c_l ≤ maxLen ∧ Row Task.cod 7 w A_l xs[i].l ∧ xs[i].lt.length ≤ c_lt ∧ c_lt ≤ maxLen ∧ Row Due.cod 2 w A_lt xs[i].lt ∧ xs[i].dm.length ≤ c_dm ∧ c_dm ≤ maxLen ∧ Row (cSlice (cInt .i64) 1) 1 w A_dm xs[i].dm := by
  obtain ⟨cs, hx, _, hc⟩ := h i xs[i] (List.getElem?_eq_getElem hi)
  obtain ⟨A_l, c_l, A_lt, c_lt, A_dm, c_dm, rfl, hk, l_l, m_l, r_l, l_lt, m_lt, r_lt, l_dm, m_dm, r_dm⟩ := hx
  exact ⟨A_l, c_l, A_lt, c_lt, A_dm, c_dm, hc 0 _ rfl, hc 1 _ rfl, hc 2 _ rfl, hc 3 _ rfl, hk, l_l, m_l, r_l, l_lt, m_lt, r_lt, l_dm, m_dm, r_dm⟩
end Go.Proofs.YtfjoaeghnfkdlaaDoor
namespace Go.Proofs.YtfjoaeghnfkdlaaDoor
set_option maxRecDepth 100000
open Go.RowKit
theorem br_LI : Br (cSlice (cInt .i64) 1) eLI := fun w cs x ⟨A, c, h1, h2, h3, h4⟩ => by
  subst h1
  exact (L2.nil _).cons (br_row br_int (fun _ => rfl) h4 h2 h3)
end Go.Proofs.YtfjoaeghnfkdlaaDoor
namespace Go.Proofs.YtfjoaeghnfkdlaaDoor
set_option maxRecDepth 100000
open Go.RowKit
def eCase29 (x : Case29) : List AV := [.lst 7 (x.l.map eTask), .lst 2 (x.lt.map eDue), .lst 1 (x.dm.map eLI), .int .i64 x.ticks]
theorem br_Case29 : Br Case29.cod eCase29 := fun w cs x ⟨A_l, c_l, A_lt, c_lt, A_dm, c_dm, h1, hk, l_l, m_l, r_l, l_lt, m_lt, r_lt, l_dm, m_dm, r_dm⟩ => by
  subst h1
  have h_ticks := hk
  exact ((((L2.nil _).cons (.int _ _ (rangeP_wf.2 h_ticks))).cons (br_row br_LI (fun _ => rfl) r_dm l_dm m_dm)).cons (br_row br_Due (fun _ => rfl) r_lt l_lt m_lt)).cons (br_row br_Task (fun _ => rfl) r_l l_l m_l)
end Go.Proofs.YtfjoaeghnfkdlaaDoor
