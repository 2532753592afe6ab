/- Slices that a call makes itself: append of one element, and how they read; no condition. -/
import Derived.Test.YtffciebjpiljgaaRep
import Derived.OwnWalk
import Derived.RegionTactic
import Derived.Deep.QuietTactic
import Derived.BigQuiet
namespace Go.Proofs.Ytffciebjpiljgaa
set_option linter.unusedSimpArgs false
set_option linter.unusedVariables false
set_option maxRecDepth 100000
open Go.RowKit

theorem belowDrew {B : Nat} {a w : World} (h : Below B a w) (n : Nat) : Below B a (w.drewN n) := ⟨h.os, h.tape, h.output, h.size, h.block⟩
theorem eq_of_parts {α : Type} [DecidableEq α] {xs ys : List α} (hl : xs.length = ys.length) : (∀ k, k < xs.length → xs[k]? = ys[k]?) → xs = ys := by
  intro h
  apply List.ext_getElem?
  intro i
  by_cases hi : i < xs.length
  · exact h i hi
  · rw [List.getElem?_eq_none (by omega), List.getElem?_eq_none (by omega)]
/-- What append and make ask of a slice type t with elements e of k cells. -/
def Elt (P : Program) (t e : TypeId) (k bytes : Nat) : Prop :=
  P.underlying t = some (.slice e) ∧ 0 < k ∧ ∃ i z, P.info? e = some i ∧ i.zero = some z ∧ z.cells.size = k ∧ i.size = k ∧ i.bytes = bytes
theorem Elt.mk_ {P : Program} {t e : TypeId} {k bytes : Nat} (ht : P.underlying t = some (.slice e)) (hk : 0 < k)
    (h : (P.info? e).map (fun i => ((i.zero.map fun z => z.cells.size), i.size, i.bytes)) = some (some k, k, bytes)) : Elt P t e k bytes := by
  cases hi : P.info? e with
  | none => rw [hi] at h; cases h
  | some i =>
    rw [hi] at h
    simp only [Option.map_some, Option.some.injEq, Prod.mk.injEq] at h
    obtain ⟨h1, h2, h3⟩ := h
    cases hz : i.zero with
    | none => rw [hz] at h1; cases h1
    | some z =>
      rw [hz] at h1
      simp only [Option.map_some, Option.some.injEq] at h1
      exact ⟨ht, hk, i, z, hi, hz, h1, h2, h3⟩

/-- A slice of the call's own, in blocks from B on, that holds these elements. -/
def Own {α : Type} (f : α → List Value) (k : Nat) (e : TypeId) (B : Nat) (w : World) (v : Value) (xs : List α) : Prop :=
  w.ownsRow B e k v xs.length (xs.flatMap f)
theorem Own.nil {α : Type} (f : α → List Value) (k : Nat) (e : TypeId) (B : Nat) (w : World) : Own f k e B w (.slice none 0 0) [] := World.ownsRow_nil w B e k
theorem Own.drewN {α : Type} {f : α → List Value} {k : Nat} {e : TypeId} {B : Nat} {w : World} {v : Value} {xs : List α} (h : Own f k e B w v xs) (n : Nat) : Own f k e B (w.drewN n) v xs := h
theorem Own.drew {α : Type} {f : α → List Value} {k : Nat} {e : TypeId} {B : Nat} {w : World} {v : Value} {xs : List α} (h : Own f k e B w v xs) : Own f k e B w.drew v xs := h
theorem Own.alloc {α : Type} {f : α → List Value} {k : Nat} {e : TypeId} {B : Nat} {w : World} {v : Value} {xs : List α} (h : Own f k e B w v xs) (o : Obj) : Own f k e B (w.alloc o) v xs := World.ownsRow.alloc h o
/-- It stays where what is below the heap's size stays. -/
theorem Own.below {α : Type} {f : α → List Value} {k : Nat} {e : TypeId} {B : Nat} {w w' : World} {v : Value} {xs : List α} (h : Own f k e B w v xs) (hb : Below w.heap.size w w') : Own f k e B w' v xs := by
  obtain ⟨h1, h2⟩ := h
  refine ⟨h1, ?_⟩
  rcases h2 with h2 | ⟨g, cap, cur, hv, hg, hh, r⟩
  · exact .inl h2
  · exact .inr ⟨g, cap, cur, hv, hg, (hb.block g (Array.getElem?_eq_some_iff.1 hh).1).trans hh, r⟩
theorem Own.base {α : Type} {f : α → List Value} {k : Nat} {e : TypeId} {B B' : Nat} {w : World} {v : Value} {xs : List α} (h : Own f k e B w v xs) (hB : B' ≤ B) : Own f k e B' w v xs := by
  obtain ⟨h1, h2⟩ := h
  refine ⟨h1, ?_⟩
  rcases h2 with h2 | ⟨g, cap, cur, hv, hg, r⟩
  · exact .inl h2
  · exact .inr ⟨g, cap, cur, hv, Nat.le_trans hB hg, r⟩
theorem flat_get {α : Type} {f : α → List Value} {k : Nat} (hf : ∀ y, (f y).length = k) : ∀ (xs : List α) (i j : Nat) (x : α) (u : Value), xs[i]? = some x → (f x)[j]? = some u → (xs.flatMap f)[i * k + j]? = some u
  | [], i, j, x, u, h, _ => by simp at h
  | y :: ys, 0, j, x, u, h, hu => by
    simp at h; subst h
    have hj : j < (f y).length := (List.getElem?_eq_some_iff.1 hu).1
    rw [List.flatMap_cons, List.getElem?_append_left (by simpa using hj)]; simpa using hu
  | y :: ys, i + 1, j, x, u, h, hu => by
    have ih := flat_get hf ys i j x u (by simpa using h) hu
    rw [List.flatMap_cons, List.getElem?_append_right (by rw [hf, Nat.add_mul]; omega), hf, Nat.add_mul]
    rwa [show i * k + 1 * k + j - k = i * k + j by omega]
theorem Own.setBelow {α : Type} {f : α → List Value} {k : Nat} {e : TypeId} {B : Nat} {w : World} {v : Value} {xs : List α} (h : Own f k e B w v xs) {a : Addr} (ha : a.block < B) (u : Value) : Own f k e B (w.setCell a u) v xs := ownsRow_setCell_below h ha u
theorem Own.form {α : Type} {f : α → List Value} {k : Nat} {e : TypeId} {B : Nat} {w : World} {v : Value} {xs : List α} (h : Own f k e B w v xs) : ∃ A c, v = .slice A xs.length c ∧ xs.length ≤ c ∧ c ≤ maxLen := by
  rcases h.2 with ⟨rfl, h0⟩ | ⟨g, cap, cur, rfl, _, _, hn, hm, _⟩
  · exact ⟨none, 0, by rw [h0], by omega, by simp⟩
  · exact ⟨some ⟨g, 0, none⟩, cap, rfl, hn, hm⟩
/-- How a slice of the call's own reads. -/
theorem Own.row {α : Type} {f : α → List Value} {k : Nat} {e : TypeId} {B : Nat} {w : World} {v : Value} {xs : List α} {R : Cod α} (h : Own f k e B w v xs) (hf : ∀ y, (f y).length = k) (hR : ∀ x ∈ xs, R w (f x) x) :
    ∃ A c, v = .slice A xs.length c ∧ xs.length ≤ c ∧ c ≤ maxLen ∧ Row R k w A xs := by
  rcases h.2 with ⟨rfl, h0⟩ | ⟨g, cap, cur, rfl, _, _, hn, hm, _⟩
  · obtain rfl : xs = [] := List.eq_nil_of_length_eq_zero h0
    exact ⟨none, 0, rfl, by simp, by simp, Row.nil _ _ _ _⟩
  · refine ⟨some ⟨g, 0, none⟩, cap, rfl, hn, hm, fun _ => ⟨g, 0, rfl, fun i x hx => ⟨f x, hR x (List.mem_of_getElem? hx), hf x, fun j u hu => ?_⟩⟩⟩
    have := World.ownsRow.cells h (g := g) rfl (i * k + j) u (flat_get hf xs i j x u hx hu)
    rwa [Go.WideShapes.add_plain, ← Nat.add_assoc] at this

/-- How a block that has just been laid reads. -/
theorem row_new {α : Type} {R : Cod α} {k : Nat} {w : World} {cs : Array Value} {e : TypeId} (f : α → List Value) (xs : List α) (hf : ∀ y, (f y).length = k) (hR : ∀ x ∈ xs, R (w.alloc (.cells cs e)) (f x) x) (hcs : cs.toList = xs.flatMap f) :
    Row R k (w.alloc (.cells cs e)) (some ⟨w.heap.size, 0, none⟩) xs := by
  refine fun _ => ⟨w.heap.size, 0, rfl, fun i x hx => ⟨f x, hR x (List.mem_of_getElem? hx), hf x, fun j v hv => ?_⟩⟩
  rw [World.cell?_alloc_at _ _ _ _ rfl, ← Array.getElem?_toList, hcs, Nat.zero_add]
  exact flat_get hf xs i j x v hx hv

/-- A block's first cells. -/
def AtB (w : World) (b : Nat) (cs : List Value) : Prop := ∀ i u, cs[i]? = some u → w.cell? ⟨b, i, none⟩ = some u
theorem AtB.ext {w w' : World} {b : Nat} {cs : List Value} (h : AtB w b cs) (he : Ext w w') : AtB w' b cs := fun i u hu => he _ _ (h i u hu)
theorem AtB.new (w : World) (cs : List Value) (e : TypeId) : AtB (w.alloc (.cells cs.toArray e)) w.heap.size cs := fun i u hu => by
  rw [World.cell?_alloc_at _ _ _ _ rfl]; simpa using hu
theorem Ext.alloc (w : World) (o : Obj) : Ext w (w.alloc o) := Ext.below ((Below.refl _ _).alloc (Nat.le_refl _) _)
theorem AtB.far {w : World} {b : Nat} {cs : List Value} (h : AtB w b cs) {p : Addr} (hp : p.block ≠ b) (u : Value) : AtB (w.setCell p u) b cs := fun i v hv => by
  rw [World.cell?_setCell_other w p ⟨b, i, none⟩ u (fun e => hp (by rw [e]))]; exact h i v hv
theorem Own.at_ {α : Type} {f : α → List Value} {k : Nat} {e : TypeId} {B : Nat} {w : World} {A : Option Addr} {n c : Nat} {xs : List α} (h : Own f k e B w (.slice A n c) xs) (hp : 0 < xs.length) :
    ∃ g, A = some ⟨g, 0, none⟩ ∧ n = xs.length ∧ B ≤ g ∧ g < w.heap.size ∧ ∀ o, w.frozen? ⟨g, o, none⟩ = false := by
  rcases h.2 with ⟨_, h0⟩ | ⟨g, cap, cur, hv, hb, hh, _⟩
  · omega
  · injection hv with h1 h2 h3
    exact ⟨g, h1, h2, hb, (Array.getElem?_eq_some_iff.1 hh).1, fun o => by simp [World.frozen?, hh]⟩
theorem flat_set {α : Type} {f : α → List Value} {k : Nat} (hf : ∀ y, (f y).length = k) : ∀ (xs : List α) (i j : Nat) (x' : α) (u : Value) (hi : i < xs.length), j < k → f x' = (f xs[i]).set j u → (xs.set i x').flatMap f = (xs.flatMap f).set (i * k + j) u
  | [], i, j, x', u, hi, _, _ => by simp at hi
  | y :: ys, 0, j, x', u, _, hj, h => by
    simp only [List.getElem_cons_zero] at h
    rw [List.set_cons_zero, List.flatMap_cons, List.flatMap_cons, h, Nat.zero_mul, Nat.zero_add, List.set_append_left _ _ (by rw [hf]; exact hj)]
  | y :: ys, i + 1, j, x', u, hi, hj, h => by
    simp only [List.getElem_cons_succ] at h
    have ih := flat_set hf ys i j x' u (by simpa using hi) hj h
    rw [List.set_cons_succ, List.flatMap_cons, List.flatMap_cons, ih, List.set_append_right _ _ (by rw [hf, Nat.add_mul]; omega), hf]
    congr 2
    rw [Nat.add_mul]; omega
/-- A store into a slice of the call's own. -/
theorem Own.store {α : Type} {f : α → List Value} {k : Nat} {e : TypeId} {B : Nat} {w : World} {g n c : Nat} {xs : List α} (h : Own f k e B w (.slice (some ⟨g, 0, none⟩) n c) xs) (hf : ∀ y, (f y).length = k)
    {i j : Nat} (hi : i < xs.length) (hj : j < k) {x' : α} {u : Value} (hx : f x' = (f xs[i]).set j u) : Own f k e B (w.setCell ⟨g, i * k + j, none⟩ u) (.slice (some ⟨g, 0, none⟩) n c) (xs.set i x') := by
  unfold Own at h ⊢
  rw [flat_set hf xs i j x' u hi hj hx, List.length_set]
  refine ⟨by rw [List.length_set]; exact h.1, ?_⟩
  rcases h.2 with ⟨h0, _⟩ | ⟨g', cap, cur, hv, hb, hh, hn, hm, hcs, ht⟩
  · injection h0 with h0; cases h0
  · injection hv with h1 h2 h3
    injection h1 with h1
    injection h1 with h1
    subst h1
    refine .inr ⟨g, cap, cur.setIfInBounds (i * k + j) u, by rw [h2, h3], hb, by simp [World.setCell, Array.getElem?_modify, hh], hn, hm, by simpa using hcs, ?_⟩
    rw [Array.toList_setIfInBounds, List.take_set, ht]
/-- The cells of a whole row, one behind the other. -/
theorem row_flat {α : Type} {R : Cod α} {k : Nat} {w : World} {b off : Nat} {f : α → List Value} (hf : ∀ y, (f y).length = k) : ∀ (ys : List α) (off : Nat), Row' R k w b off ys → (∀ cs y, R w cs y → cs = f y) →
    ∀ j u, (ys.flatMap f)[j]? = some u → w.cell? ⟨b, off + j, none⟩ = some u
  | [], _, _, _, j, u, h => by simp at h
  | y :: ys, off, hr, hR, j, u, h => by
    rw [List.flatMap_cons] at h
    by_cases hj : j < k
    · rw [List.getElem?_append_left (by rw [hf]; exact hj)] at h
      obtain ⟨cs, h1, _, h3⟩ := hr 0 y rfl
      rw [hR cs y h1] at h3
      have := h3 j u h
      rwa [Nat.zero_mul, Nat.add_zero] at this
    · rw [List.getElem?_append_right (by rw [hf]; omega), hf] at h
      have hr' : Row' R k w b (off + 1 * k) ((y :: ys).drop 1) := hr.drop 1
      have := row_flat (off := off) hf ys (off + 1 * k) hr' hR (j - k) u h
      rwa [show off + 1 * k + (j - k) = off + j by omega] at this

/-- A whole struct, or array, stored into a block of its size. -/
theorem run_storeVar_row {P : Program} (w : World) (g : Nat) (t ty : TypeId) (cur vs : Array Value) (hg : w.heap[g]? = some (.cells cur t (0, 0))) (hi : (P.info? ty).map (·.size) = some vs.size) (hs : vs.size = cur.size)
    (h1 : ∀ v ∈ vs.toList, v.oneCell' = true) : (storeVar ty ⟨g, 0, none⟩ (.agg vs)).run P w = .ok () (w.setRow g vs) := by
  have h := run_storeCells_at P g 0 t vs.toList 0 cur w hg (by simp [hs]) h1
  simp only [Nat.add_zero, List.take_zero, List.nil_append, Nat.zero_add, Array.length_toList] at h
  rw [List.drop_eq_nil_of_le (by simp [hs])] at h
  simp only [List.append_nil, Array.toArray_toList] at h
  cases hq : P.info? ty with
  | none => simp [hq] at hi
  | some i =>
    have hsz : i.size = vs.size := by simpa [hq] using hi
    simp [storeVar, sizeOf, typeInfo, hq, hsz, Value.cells, h]
theorem wpList_store_row {P : Program} {ops : Array Oper} {rest : List Oper} {o : Oper} {a : Act} {w : World} {Q : Exit → Act → World → Prop} (hgd : o.guard = none) (ty : TypeId) (x y : Operand) (ho : o.op = .store ty x y)
    (g : Nat) (hx : a.eval x = .pointer (some ⟨g, 0, none⟩)) (vs : Array Value) (hy : a.eval y = .agg vs) (t : TypeId) (cur : Array Value) (hg : w.heap[g]? = some (.cells cur t (0, 0)))
    (hi : (P.info? ty).map (·.size) = some vs.size) (hs : vs.size = cur.size) (h1 : ∀ v ∈ vs.toList, v.oneCell' = true)
    (h : wpList P ops Q rest (a.put o.dst undef) (w.setRow g vs)) : wpList P ops Q (o :: rest) a w :=
  wpList_plain hgd fun _ hK => by
    unfold Oper.wp execOp
    simp only [ho, hx, hy, Instr.storeAt, Instr.sureAddr, Sem.run_bind, Sem.run_pure, Result.andThen_ok, run_storeVar_row w g t ty cur vs hg hi hs h1]
    exact hK _ _ h
section
variable {P : Program} {α : Type} {f : α → List Value} {k : Nat}
theorem run_cat_nil (w : World) (base : Nat) (t ty e : TypeId) (i : TypeInfo) (size : Nat) (ht : P.underlying t = some (.slice e)) (hi : P.info? e = some i)
    (v : Value) (n : Nat) (xs : List Value) (hown : w.ownsRow base e size v n xs) (c : Nat) : (Builtin.append_ #[t, t] ty #[v, .slice none 0 c]).run P w = .ok v w := by
  rcases hown.2 with ⟨rfl, rfl⟩ | ⟨g, cap, cur, rfl, _, _, hnc, _⟩
  · simp [Builtin.append_, run_underlying ht, sizeOf, typeInfo, hi, Builtin.lenOf, Builtin.firstCells]
  · simp [Builtin.append_, run_underlying ht, sizeOf, typeInfo, hi, Builtin.lenOf, Builtin.firstCells, hnc, storeCells]
/-- append of a whole slice. -/
theorem run_cat (w : World) (t ty : TypeId) {e : TypeId} {bytes : Nat} (he : Elt P t e k bytes) (f : α → List Value) (hf : ∀ y, (f y).length = k) (B : Nat) (v : Value) (xs : List α) (hown : Own f k e B w v xs)
    (A : Option Addr) (c : Nat) (ys : List α) {R : Cod α} (hr : Row R k w A ys) (hR : ∀ cs y, R w cs y → cs = f y) (h1 : ∀ y ∈ ys, ∀ u ∈ f y, u.oneCell' = true)
    (hl : xs.length + ys.length ≤ 9223372036854775807) (hb : (xs.length + ys.length) * bytes ≤ 140737488355328) (hB : B ≤ w.heap.size) :
    ∃ v' w', (Builtin.append_ #[t, t] ty #[v, .slice A ys.length c]).run P w = .ok v' w' ∧ Own f k e B w' v' (xs ++ ys) ∧ Below B w w' := by
  obtain ⟨ht, hk, i, z, hi, hz, hzs, hsz, hby⟩ := he
  have hflat : (ys.flatMap f).length = ys.length * k := by
    clear hr h1 hl hb
    induction ys with
    | nil => simp
    | cons y ys ih => rw [List.flatMap_cons, List.length_append, hf, ih, List.length_cons, Nat.add_mul]; omega
  have fin : ∀ (ad : Addr), A = some ad → (∀ j u, (ys.flatMap f)[j]? = some u → w.cell? (ad.add j) = some u) → ∃ v' w', (Builtin.append_ #[t, t] ty #[v, .slice A ys.length c]).run P w = .ok v' w' ∧ Own f k e B w' v' (xs ++ ys) ∧ Below B w w' := by
    intro ad hA hcell
    subst hA
    obtain ⟨v', w', h2, h3, h4, _⟩ := run_append_own (P := P) w B t ty e i z k bytes ht hi hz hsz hby hzs hk v xs.length (xs.flatMap f) hown ad ys.length c (ys.flatMap f) hflat hcell
      (fun u hu => by obtain ⟨y, hy, hu⟩ := List.mem_flatMap.1 hu; exact h1 y hy u hu) (by simp only [maxLen]; omega) hb hB
    refine ⟨v', w', h2, ?_, (Below.refl _ _).grown h4 hB fun g hg => (World.ownsRow.lt hown g hg).1⟩
    unfold Own
    simpa using h3
  cases hys : ys with
  | nil =>
    subst hys
    cases A with
    | none => exact ⟨v, w, run_cat_nil w B t ty e i k ht hi v _ _ hown c, by simpa using hown, Below.refl _ _⟩
    | some ad => exact fin ad rfl (by intro j u h; simp at h)
  | cons y0 yr =>
    obtain ⟨b, off, hA, hrow⟩ := hr (by rw [hys]; simp)
    rw [← hys]
    refine fin _ hA fun j u hu => ?_
    rw [Go.WideShapes.add_plain]
    exact row_flat (off := off) hf ys off hrow hR j u hu
theorem wpList_cat {w : World} {ops : Array Oper} {rest : List Oper} {o : Oper} {a : Act} {Q : Exit → Act → World → Prop} (hgd : o.guard = none) (s x' : Operand) (t : TypeId)
    (ho : o.op = .call { callee := .builtin .append, args := #[s, x'], argTypes := #[t, t] })
    {e : TypeId} {bytes : Nat} (he : Elt P t e k bytes) (f : α → List Value) (hf : ∀ y, (f y).length = k) (B : Nat) (v : Value) (xs : List α) (hs : a.eval s = v) (hown : Own f k e B w v xs)
    (A : Option Addr) (n c : Nat) (ys : List α) (hn : ys.length = n) (hx : a.eval x' = .slice A n c) {R : Cod α} (hr : Row R k w A ys) (hR : ∀ cs y, R w cs y → cs = f y) (h1 : ∀ y ∈ ys, ∀ u ∈ f y, u.oneCell' = true)
    (hl : xs.length + ys.length ≤ 9223372036854775807) (hb : (xs.length + ys.length) * bytes ≤ 140737488355328) (hB : B ≤ w.heap.size)
    (h : ∀ v' w', Own f k e B w' v' (xs ++ ys) → Below B w w' → wpList P ops Q rest (a.put o.dst v') w') : wpList P ops Q (o :: rest) a w := by
  subst hn
  refine wpList_plain hgd fun _ hK => ?_
  obtain ⟨v', w', hr, h2, h3⟩ := run_cat (P := P) w t o.type he f hf B v xs hown A c ys hr hR h1 hl hb hB
  unfold Oper.wp execOp
  simp only [ho, resolve, invoke, builtin, Sem.run_bind, Sem.run_pure, Result.andThen_ok, List.map_toArray, List.map_cons, List.map_nil, hs, hx, hr]
  exact hK _ _ (h v' w' h2 h3)

/-- append of one element that has just been laid. -/
theorem wpList_push {ops : Array Oper} {rest : List Oper} {o : Oper} {a : Act} {Q : Exit → Act → World → Prop} (hgd : o.guard = none) (s x' : Operand) (t : TypeId)
    (ho : o.op = .call { callee := .builtin .append, args := #[s, x'], argTypes := #[t, t] })
    {e : TypeId} {bytes : Nat} (he : Elt P t e k bytes) (f : α → List Value) (hf : ∀ y, (f y).length = k) (B : Nat) (W : World) (v : Value) (xs : List α) (x : α) (hs : a.eval s = v) (hown : Own f k e B W v xs)
    (hx : a.eval x' = .slice (some ⟨W.heap.size, 0, none⟩) 1 1) (h1 : ∀ u ∈ f x, u.oneCell' = true) (hb : (xs.length + 1) * bytes ≤ 140737488355328) (hl : xs.length ≤ 9223372036854775806) (hB : B ≤ W.heap.size)
    (h : ∀ v' w', Own f k e B w' v' (xs ++ [x]) → Below B W w' → wpList P ops Q rest (a.put o.dst v') w') :
    wpList P ops Q (o :: rest) a (W.alloc (.cells (f x).toArray e)) := by
  obtain ⟨ht, hk, i, z, hi, hz, hzs, hsz, hby⟩ := he
  refine wpList_append_own _ hgd s x' t ho B e i z k bytes ht hi hz hsz hby hzs hk v xs.length (xs.flatMap f) hs (World.ownsRow.alloc hown _) ⟨W.heap.size, 0, none⟩ 1 1 (f x) hx (by rw [hf]; omega) ?_ h1 (by simp only [maxLen]; omega) hb (by simp; omega) ?_
  · intro j u hu
    rw [Go.WideShapes.add_plain, World.cell?_alloc_at _ _ _ _ rfl]
    simpa using hu
  · intro v' w' h2 h3 _
    refine h v' w' ?_ ?_
    · unfold Own; simpa using h2
    · have b0 : Below B W (W.alloc (.cells (f x).toArray e)) := (Below.refl _ _).alloc hB _
      refine b0.grown h3 (by simp; omega) fun g hg => ?_
      exact (World.ownsRow.lt hown g hg).1
end
end Go.Proofs.Ytffciebjpiljgaa
