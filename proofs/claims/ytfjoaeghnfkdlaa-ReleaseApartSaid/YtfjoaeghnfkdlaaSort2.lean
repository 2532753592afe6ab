/- Stable sorting: what the parts of slices.SortStableFunc leave. No condition. -/
import Derived.Test.YtfjoaeghnfkdlaaSort
namespace Go.Proofs.Ytfjoaeghnfkdlaa
set_option linter.unusedSimpArgs false
set_option linter.unusedVariables false
set_option maxRecDepth 100000
set_option linter.unusedSectionVars false
set_option linter.unnecessarySimpa false
section
variable {α : Type} [Inhabited α] {lt : α → α → Bool}
theorem adj {M p r : List α} {u v : α} {k k' : Nat} (h : M = p ++ u :: v :: r) (hk : k = p.length) (hk' : k' = k + 1) : M.getD k default = u ∧ M.getD k' default = v ∧ (M.set k' u).set k v = p ++ v :: u :: r ∧ (M.set k v).set k' u = p ++ v :: u :: r := by
  subst hk'; subst h; subst hk
  have e : p ++ u :: v :: r = p ++ u :: [] ++ v :: r := by simp
  refine ⟨app_get _ _ _, ?_, ?_, ?_⟩
  · rw [e]; exact two_get p [] r u v
  · rw [e]; have := swap_ji p [] r u v; simpa using this
  · rw [e]; have := swap_ij p [] r u v; simpa using this
theorem seg1 {pp xx yy ss : List α} {k i : Nat} (hk : k < xx.length) (hi : i = pp.length + k) : (pp ++ xx ++ yy ++ ss).getD i default = xx.getD k default := by
  subst hi
  simp only [List.getD_eq_getElem?_getD, List.append_assoc]
  rw [List.getElem?_append_right (by omega), Nat.add_sub_cancel_left, List.getElem?_append_left hk]
theorem seg2 {pp xx yy ss : List α} {k i : Nat} (hk : k < yy.length) (hi : i = pp.length + xx.length + k) : (pp ++ xx ++ yy ++ ss).getD i default = yy.getD k default := by
  subst hi
  have e : pp ++ xx ++ yy ++ ss = (pp ++ xx) ++ yy ++ ss ++ [] := by simp
  rw [e]
  exact seg1 hk (by simp)
theorem getD_mem {l : List α} {k : Nat} (h : k < l.length) : l.getD k default ∈ l := by simp [h]
theorem of_take {l : List α} {q : Nat} {v : α} (h : v ∈ l.take q) : ∃ c, c < q ∧ c < l.length ∧ v = l.getD c default := by
  obtain ⟨c, hc, rfl⟩ := List.getElem_of_mem h
  rw [List.length_take] at hc
  exact ⟨c, by omega, by omega, by simp [show c < l.length by omega]⟩
theorem of_drop {l : List α} {q : Nat} {v : α} (h : v ∈ l.drop q) : ∃ c, q ≤ c ∧ c < l.length ∧ v = l.getD c default := by
  obtain ⟨c, hc, rfl⟩ := List.getElem_of_mem h
  rw [List.length_drop] at hc
  exact ⟨q + c, by omega, by omega, by simp [show q + c < l.length by omega]⟩
theorem Srt.at {l : List α} (h : Srt lt l) {i j : Nat} (hij : i < j) (hj : j < l.length) : lt (l.getD j default) (l.getD i default) = false := by
  have := List.pairwise_iff_getElem.1 h i j (by omega) hj hij
  simpa [hj, show i < l.length by omega] using this
theorem Srt.at' (hs : SWO lt) {l : List α} (h : Srt lt l) {i j : Nat} (hij : i ≤ j) (hj : j < l.length) : lt (l.getD j default) (l.getD i default) = false := by
  rcases Nat.lt_or_eq_of_le hij with h1 | rfl
  · exact h.at h1 hj
  · exact hs.irr _
theorem Srt.take {l : List α} (h : Srt lt l) (q : Nat) : Srt lt (l.take q) := List.Pairwise.sublist (List.take_sublist q l) h
theorem Srt.drop {l : List α} (h : Srt lt l) (q : Nat) : Srt lt (l.drop q) := List.Pairwise.sublist (List.drop_sublist q l) h
/-- One goes to its place among those that are sorted: from the left. -/
theorem sm_one1 (hs : SWO lt) {x : α} {yy : List α} {q : Nat} (hy : Srt lt yy) (h1 : ∀ k, k < q → k < yy.length → lt (yy.getD k default) x = true) (h2 : ∀ k, q ≤ k → k < yy.length → lt (yy.getD k default) x = false) : StS lt ([x] ++ yy) (yy.take q ++ x :: yy.drop q) := by
  have m1 : ∀ v ∈ yy.take q, lt v x = true := fun v hv => by obtain ⟨c, a, b, rfl⟩ := of_take hv; exact h1 c a b
  have m2 : ∀ v ∈ yy.drop q, lt v x = false := fun v hv => by obtain ⟨c, a, b, rfl⟩ := of_drop hv; exact h2 c a b
  refine ⟨?_, ?_⟩
  · have h3 := (Rch.right x (yy.take q) m1).ctx [] (yy.drop q)
    have e : [x] ++ yy = [] ++ (x :: yy.take q) ++ yy.drop q := by simp
    rw [e]
    simpa using h3
  · rw [Srt.app]
    have h4 : Srt lt (yy.take q ++ yy.drop q) := by rw [List.take_append_drop]; exact hy
    rw [Srt.app] at h4
    refine ⟨h4.1, List.pairwise_cons.2 ⟨m2, h4.2.1⟩, fun a ha b hb => ?_⟩
    rcases List.mem_cons.1 hb with rfl | hb
    · exact hs.asym (m1 a ha)
    · exact h4.2.2 a ha b hb
/-- .. from the right. -/
theorem sm_one2 (hs : SWO lt) {y : α} {xx : List α} {q : Nat} (hx : Srt lt xx) (h1 : ∀ k, k < q → k < xx.length → lt y (xx.getD k default) = false) (h2 : ∀ k, q ≤ k → k < xx.length → lt y (xx.getD k default) = true) : StS lt (xx ++ [y]) (xx.take q ++ y :: xx.drop q) := by
  have m1 : ∀ v ∈ xx.take q, lt y v = false := fun v hv => by obtain ⟨c, a, b, rfl⟩ := of_take hv; exact h1 c a b
  have m2 : ∀ v ∈ xx.drop q, lt y v = true := fun v hv => by obtain ⟨c, a, b, rfl⟩ := of_drop hv; exact h2 c a b
  refine ⟨?_, ?_⟩
  · have h3 := (Rch.left y (xx.drop q) m2).ctx (xx.take q) []
    have e : xx ++ [y] = xx.take q ++ (xx.drop q ++ [y]) ++ [] := by rw [← List.append_assoc, List.take_append_drop, List.append_nil]
    rw [e]
    simpa using h3
  · rw [Srt.app]
    have h4 : Srt lt (xx.take q ++ xx.drop q) := by rw [List.take_append_drop]; exact hx
    rw [Srt.app] at h4
    refine ⟨h4.1, List.pairwise_cons.2 ⟨fun a ha => hs.asym (m2 a ha), h4.2.1⟩, fun a ha b hb => ?_⟩
    rcases List.mem_cons.1 hb with rfl | hb
    · exact m1 a ha
    · exact h4.2.2 a ha b hb
/-- Where the two are parted. -/
theorem sm_parts (hs : SWO lt) {xx yy L R : List α} {h s : Nat} (hx : Srt lt xx) (hy : Srt lt yy) (hh : h = (xx.length + yy.length) / 2) (hlo : h - yy.length ≤ s) (hhi : s ≤ h) (hhi2 : s ≤ xx.length)
    (h1 : ∀ c, c < s → h - yy.length ≤ c → lt (yy.getD (h - 1 - c) default) (xx.getD c default) = false) (h2 : ∀ c, s ≤ c → c < h → c < xx.length → lt (yy.getD (h - 1 - c) default) (xx.getD c default) = true)
    (hL : StS lt (xx.take s ++ yy.take (h - s)) L) (hR : StS lt (xx.drop s ++ yy.drop (h - s)) R) : StS lt (xx ++ yy) (L ++ R) := by
  have hb : ∀ v ∈ xx.drop s, ∀ u ∈ yy.take (h - s), lt u v = true := fun v hv u hu => by
    obtain ⟨c, c1, c2, rfl⟩ := of_drop hv
    obtain ⟨d, d1, d2, rfl⟩ := of_take hu
    have k1 := h2 s (Nat.le_refl _) (by omega) (by omega)
    have k2 := hy.at' hs (i := d) (j := h - 1 - s) (by omega) (by omega)
    have k3 := hx.at' hs (i := s) (j := c) c1 c2
    exact hs.tr1 (hs.tr2 k1 k2) k3
  have hx' : Srt lt (xx.take s ++ xx.drop s) := by rw [List.take_append_drop]; exact hx
  have hy' : Srt lt (yy.take (h - s) ++ yy.drop (h - s)) := by rw [List.take_append_drop]; exact hy
  rw [Srt.app] at hx' hy'
  have := StS.parts (xx.take s) (xx.drop s) (yy.take (h - s)) (yy.drop (h - s)) L R hL hR hb (fun u hu v hv => ?_)
  · rwa [List.take_append_drop, List.take_append_drop] at this
  rcases List.mem_append.1 hu with hu | hu <;> rcases List.mem_append.1 hv with hv | hv
  · exact hx'.2.2 u hu v hv
  · obtain ⟨c, c1, c2, rfl⟩ := of_take hu
    obtain ⟨d, d1, d2, rfl⟩ := of_drop hv
    by_cases hz : h - yy.length < s
    · have k1 := h1 (s - 1) (by omega) (by omega)
      rw [show h - 1 - (s - 1) = h - s by omega] at k1
      have k2 := hy.at' hs (i := h - s) (j := d) d1 d2
      have k3 := hx.at' hs (i := c) (j := s - 1) (by omega) (by omega)
      exact hs.nt _ _ _ (hs.nt _ _ _ k2 k1) k3
    · omega
  · exact hs.asym (hb v hv u hu)
  · exact hy'.2.2 u hu v hv
theorem tdl (xx : List α) (s : Nat) : xx.take s ++ xx.drop s = xx := List.take_append_drop s xx
/-- The tests of the three searches part what they look at. -/
theorem mono1 (hs : SWO lt) {yy : List α} {x : α} (hy : Srt lt yy) {i j : Nat} (hij : i ≤ j) (hj : j < yy.length) (h : lt (yy.getD j default) x = true) : lt (yy.getD i default) x = true := hs.tr2 h (hy.at' hs hij hj)
theorem mono1' (hs : SWO lt) {yy : List α} {x : α} (hy : Srt lt yy) {i j : Nat} (hij : i ≤ j) (hj : j < yy.length) (h : lt (yy.getD i default) x = false) : lt (yy.getD j default) x = false := hs.nt _ _ _ (hy.at' hs hij hj) h
theorem mono2 (hs : SWO lt) {xx : List α} {y : α} (hx : Srt lt xx) {i j : Nat} (hij : i ≤ j) (hj : j < xx.length) (h : lt y (xx.getD j default) = false) : lt y (xx.getD i default) = false := hs.nt _ _ _ h (hx.at' hs hij hj)
theorem mono2' (hs : SWO lt) {xx : List α} {y : α} (hx : Srt lt xx) {i j : Nat} (hij : i ≤ j) (hj : j < xx.length) (h : lt y (xx.getD i default) = true) : lt y (xx.getD j default) = true := hs.tr1 h (hx.at' hs hij hj)
end
end Go.Proofs.Ytfjoaeghnfkdlaa
