/- The library's sort of dues, however many. No condition. -/
import Derived.Shelf.SlSortCmp.WholeK
import Derived.Test.YtfjoaeghnfkdlaaAg4
import Derived.Test.YtfjoaeghnfkdlaaCm
namespace Go.Proofs.Ytfjoaeghnfkdlaa
set_option linter.unusedSimpArgs false
set_option linter.unusedVariables false
set_option maxRecDepth 100000
set_option linter.unusedSimpArgs false
set_option linter.unusedVariables false
set_option maxRecDepth 100000
open Go.RowKit Go.Shelf
theorem due_vs {σ : Sig} : ∀ {xx : List Due} {vs : List Value}, L2 (VR0 σ) (xx.map eDue).flatten vs → vs = xx.flatMap Due.cells ∧ ∀ d ∈ xx, rangeP .i64 d.at_ ∧ rangeP .i64 d.task
  | [], vs, h => ⟨L2.nil_iff.1 h, fun d hd => by cases hd⟩
  | d :: xx, vs, h => by
    simp only [List.map_cons, List.flatten_cons, eDue, List.cons_append, List.nil_append] at h
    obtain ⟨u0, r0, rfl, h0, h⟩ := L2.cons_inv h
    obtain ⟨u1, r1, rfl, h1, h⟩ := L2.cons_inv h
    obtain ⟨rfl, h2⟩ := due_vs h
    cases h0 with | int _ _ h0 => cases h1 with | int _ _ h1 => exact ⟨rfl, fun e he => by
      rcases List.mem_cons.1 he with rfl | he
      · exact ⟨h0, h1⟩
      · exact h2 e he⟩
theorem vs_due {σ : Sig} : ∀ {xx : List Due}, (∀ d ∈ xx, rangeP .i64 d.at_ ∧ rangeP .i64 d.task) → L2 (VR0 σ) (xx.map eDue).flatten (xx.flatMap Due.cells)
  | [], _ => L2.nil _
  | d :: xx, h => by
    have h1 := h d List.mem_cons_self
    exact ((vs_due (xx := xx) fun e he => h e (List.mem_cons_of_mem _ he)).cons (.int _ _ h1.2)).cons (.int _ _ h1.1)
theorem len_due (xx : List Due) : (xx.flatMap Due.cells).length = xx.length * 2 := by
  induction xx with
  | nil => rfl
  | cons d xx ih => rw [List.flatMap_cons, List.length_append, ih, List.length_cons]; show 2 + _ = _; omega
theorem get_due : ∀ (xx : List Due) (t : Nat), t < xx.length * 2 → (xx.flatMap Due.cells)[t]? = some (Due.cells (xx.getD (t / 2) default))[t % 2]!
  | [], t, h => by simp at h
  | d :: xx, 0, h => rfl
  | d :: xx, 1, h => rfl
  | d :: xx, t + 2, h => by
    have h1 := get_due xx t (by simp only [List.length_cons] at h; omega)
    rw [show (t + 2) / 2 = t / 2 + 1 by omega, show (t + 2) % 2 = t % 2 by omega]
    exact h1
theorem flat_due (xx : List Due) : Go.Sort.flatK Due.cells 2 xx.toArray = (xx.flatMap Due.cells).toArray := by
  refine Go.Sort.ext_get! (by rw [Go.Sort.size_flatK, List.size_toArray, List.size_toArray, len_due]) fun t ht => ?_
  rw [Go.Sort.size_flatK, List.size_toArray] at ht
  rw [Go.Sort.get_flatK _ _ _ _ (by simpa using ht)]
  have h1 := get_due xx t ht
  rw [getElem!_pos (xx.flatMap Due.cells).toArray t (by rw [List.size_toArray, len_due]; exact ht), List.getElem_toArray]
  have h2 := List.getElem?_eq_some_iff.1 h1
  rw [h2.2]
  congr 2
  simp only [Array.getElem!_eq_getD, Array.getD, List.size_toArray, List.getD_eq_getElem?_getD]
  have h3 : t / 2 < xx.length := by omega
  simp [h3]
theorem take_put (F cur : Array Value) (h : F.size ≤ cur.size) : (Go.Sort.putCells id 0 F cur).toList.take F.size = F.toList := by
  apply List.ext_getElem?
  intro j
  by_cases hj : j < F.size
  · rw [List.getElem?_take_of_lt hj, Array.getElem?_toList]
    simp [Go.Sort.putCells, hj, show j < cur.size by omega]
  · rw [List.getElem?_take_eq_none (by omega), List.getElem?_eq_none (by simp; omega)]
theorem holds_id {w : World} {g : Nat} {cur : Array Value} {e : TypeId} (F : Array Value) (hb : w.heap[g]? = some (.cells cur e (0, 0))) (ht : cur.toList.take F.size = F.toList) : Go.Sort.Holds id w g 0 F := by
  intro j hj
  refine ⟨?_, by simp [World.frozen?, hb]⟩
  have h1 : (cur.toList.take F.size)[j]? = F.toList[j]? := by rw [ht]
  rw [List.getElem?_take_of_lt hj] at h1
  simp only [World.cell?, hb, Nat.zero_add]
  simp only [Option.isSome_none, Bool.false_eq_true, if_false]
  rw [← Array.getElem?_toList, h1]
  simp [hj]
theorem heap_put {w : World} {g n : Nat} {os : Array Obj} {cur : Array Value} {e : TypeId} {fr : Nat × Nat} (F : Array Value) (hb : w.heap[g]? = some (.cells cur e fr)) :
    (Go.Sort.grow (Go.Sort.putRow id (Go.Sort.ahead w n) g 0 F) os).heap[g]? = some (.cells (Go.Sort.putCells id 0 F cur) e fr) := by
  have hg : g < w.heap.size := (Array.getElem?_eq_some_iff.1 hb).1
  rw [Go.Sort.heap_grow_old _ _ (by simpa using hg)]
  simp [Go.Sort.putRow, Go.Sort.mapBlock, Go.Sort.ahead, Array.getElem?_modify, hb, Go.Sort.onCells]
theorem heap_put_ne {w : World} {g n : Nat} {os : Array Obj} (F : Array Value) {k : Nat} (hk : k < w.heap.size) (hne : k ≠ g) :
    (Go.Sort.grow (Go.Sort.putRow id (Go.Sort.ahead w n) g 0 F) os).heap[k]? = w.heap[k]? := by
  rw [Go.Sort.heap_grow_old _ _ (by simpa using hk)]
  simp [Go.Sort.putRow, Go.Sort.mapBlock, Go.Sort.ahead, Array.getElem?_modify, hne.symm]
theorem Gw.grow {w w' : World} (h : Gw w w') : ∃ q os, w' = Go.Sort.grow (w.drewN q) os := by
  obtain ⟨hb, hd⟩ := h
  refine ⟨w'.drawn - w.drawn, w'.heap.extract w.heap.size w'.heap.size, ?_⟩
  obtain ⟨h1, h2, h3, h4, h5⟩ := hb
  have e : w'.heap = w.heap ++ w'.heap.extract w.heap.size w'.heap.size := by
    apply Array.ext_getElem?
    intro k
    rw [Array.getElem?_append]
    by_cases hk : k < w.heap.size
    · rw [if_pos hk]; exact h5 k hk
    · rw [if_neg hk, Array.getElem?_extract]
      split
      · congr 1; omega
      · rw [Array.getElem?_eq_none]; omega
  have e2 : (w.drewN (w'.drawn - w.drawn)) = { w with drawn := w'.drawn } := by
    have : ∀ q, w.drewN q = { w with drawn := w.drawn + q } := fun q => by
      first | rfl | (induction q with | zero => rfl | succ q ih => first | rfl | (simp [World.drewN, World.drew] at *; try omega))
    rw [this]
    congr 1
    omega
  rw [e2]
  cases w with | mk a b c d f => cases w' with | mk a' b' c' d' f' =>
  simp only [Go.Sort.grow] at *
  subst h1 h2 h3
  rw [← e]
theorem sortL_Due {ρ : Ren} (L : SlLaysF0.n6 Try.prog ρ) (ht : ρ.t 24 = 41) (hf : ρ.f 6 = 55) (fc : FuncId) (he : Entered Try.prog fc)
    (hC : ∀ (W : World) (x y : Due), Calls Try.prog fc #[.agg (Due.cells x).toArray, .agg (Due.cells y).toArray] W fun e w' => e = .returned (.int .i64 (cmpD x y)) ∧ Gw W w')
    (xx : List Due) (h0 : 0 < xx.length) (hl : xx.length ≤ 1000000) : FnH Try.prog 55 [.own 4, .fn (.func fc) [] []] [(4, .row 41 2 (xx.map eDue))]
    (fun r h' => r = .tup [] ∧ h' = [(4, .row 41 2 ((sortD xx).map eDue))]) := by
  refine ⟨entered_of (by kernel_rfl), fun may pin σ ι w vs hr hv => ?_⟩
  obtain ⟨u0, r0, rfl, h1, hv⟩ := L2.cons_inv hv
  obtain ⟨u1, r1, rfl, h2, hv⟩ := L2.cons_inv hv
  rw [L2.nil_iff] at hv
  subst hv
  obtain ⟨us, vs, rfl, h3, h4⟩ := h2.fn_inv
  rw [L2.nil_iff] at h3 h4
  subst h3 h4
  obtain ⟨k1, k2, vs, hrow, hvs⟩ := hr.ch 4 _ rfl
  obtain ⟨rfl, hrg⟩ := due_vs hvs
  have e0 : u0 = ι 4 := by
    cases h1 with
    | base _ _ h => cases h
    | own _ h => rfl
  subst e0
  rw [List.length_map] at hrow
  rcases hrow.2 with ⟨_, hz⟩ | ⟨g, cap, cur, hv4, _, hgb, r1, r2, r3, r4⟩
  · omega
  have hgl : g < w.heap.size := (Array.getElem?_eq_some_iff.1 hgb).1
  have hH : Go.Sort.HoldsK Due.cells 2 w g 0 xx.toArray := by
    unfold Go.Sort.HoldsK
    rw [flat_due]
    refine holds_id _ hgb ?_
    rw [List.size_toArray, len_due, r4]
  have hO : Go.Sort.SWO (ltOf cmpD) :=
    ⟨fun x => by simp only [ltOf, decide_eq_false_iff_not, cmpD_neg]; omega, fun x y z h1 h2 => by simp only [ltOf, decide_eq_true_eq, cmpD_neg] at *; omega, fun x y z h1 h2 => by simp only [ltOf, decide_eq_false_iff_not, cmpD_neg] at *; omega⟩
  have eg : ∀ args w, (callFunc fc args).run Try.prog w = .ok (.enter fc args) w := he
  have hcmp : CmpLays Try.prog fc #[] Due.cells 2 cmpD g 0 xx.toArray.size w := fun m os dk hdk x y =>
    (hC _ x y).mono fun e w' ⟨h1, h2⟩ => ⟨h1, h2.grow⟩
  have hcon := AnyQ.slices_SortFunc L 2 (fun w => by rw [ht]; exact Try.isAgg41 w) (fun w => by rw [ht]; exact Try.sizeOf41 w) Due.cells (fun _ => rfl)
    (fun x v hv => by simp [Due.cells] at hv; rcases hv with rfl | rfl <;> rfl) cmpD hO fc #[] g 0 cap xx.toArray w eg hcmp hH hgl (by simp; omega)
  rw [hf] at hcon
  rw [hv4]
  refine Calls.mono hcon ?_
  rintro e w' ⟨rfl, d', n, os, hp, hs, rfl⟩
  have hlen : d'.toList.length = xx.length := by rw [Array.length_toList, hp.1, List.size_toArray]
  have hperm : d'.toList.Perm xx := by
    have := hp.2.2
    have e1 : d'.extract 0 xx.toArray.size = d' := by rw [← hp.1]; simp
    rw [e1] at this
    simpa using this
  have hsort : d'.toList = sortD xx := by
    refine sortD_eq hperm ?_
    rw [List.pairwise_iff_getElem]
    intro i j hi hj hij
    have h1 := hs i j (Nat.zero_le _) hij (by rw [List.size_toArray, ← hlen]; exact hj)
    rw [getElem!_pos d' i (by simpa using hi), getElem!_pos d' j (by simpa using hj)] at h1
    simp only [ltOf, decide_eq_false_iff_not, cmpD_neg] at h1
    simp only [Array.getElem_toList]
    unfold leD
    omega
  have hd' : d' = (sortD xx).toArray := by rw [← hsort]
  subst hd'
  have hrg2 : ∀ d ∈ sortD xx, rangeP .i64 d.at_ ∧ rangeP .i64 d.task := fun d hd => hrg d ((sortD_perm xx).mem_iff.1 hd)
  have hup : upd ι 4 (ι 4) = ι := by funext i; unfold upd; split <;> simp_all
  refine ⟨_, .tup [], [(4, .row 41 2 ((sortD xx).map eDue))], σ, ι, rfl, ⟨rfl, rfl⟩, .tup [] [] rfl (fun j c v h => by simp at h), ?_⟩
  have hrel := hr.turnF (w' := sortWorldK Due.cells 2 w g 0 n (sortD xx).toArray os) (id := 4) (u := ι 4) (h' := [(4, .row 41 2 ((sortD xx).map eDue))]) (c' := .row 41 2 ((sortD xx).map eDue))
    (fun i c hi hc => by
      rw [hget_cons, if_neg (fun e => hi e.symm)] at hc; cases hc) rfl
    (by
      rw [hup]
      refine ⟨by omega, fun c hc => ?_, (sortD xx).flatMap Due.cells, ?_, vs_due hrg2⟩
      · obtain ⟨d, _, rfl⟩ := List.mem_map.1 hc; rfl
      · rw [hv4, List.length_map, sortD_len]
        refine ⟨by rw [len_due, sortD_len], .inr ⟨g, cap, Go.Sort.putCells id 0 (Go.Sort.flatK Due.cells 2 (sortD xx).toArray) cur, rfl, Nat.zero_le _, ?_, r1, r2, by simp [Go.Sort.putCells, r3], ?_⟩⟩
        · exact heap_put _ hgb
        · have := take_put (Go.Sort.flatK Due.cells 2 (sortD xx).toArray) cur (by rw [Go.Sort.size_flatK, List.size_toArray, sortD_len, r3]; omega)
          rw [Go.Sort.size_flatK, List.size_toArray, sortD_len, flat_due] at this
          rw [flat_due]
          simpa using this)
    rfl rfl rfl (by simp [sortWorldK, Go.Sort.putRowK])
    (fun k hk hn => heap_put_ne _ hk fun e => hn _ rfl (.inl (by rw [e, hv4]; rfl)))
    (fun g' hg' => .inl ⟨_, rfl, hg'⟩) (.inr rfl)
  rw [hup] at hrel
  exact hrel
end Go.Proofs.Ytfjoaeghnfkdlaa
