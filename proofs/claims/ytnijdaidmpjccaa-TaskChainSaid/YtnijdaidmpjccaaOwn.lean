/- Slices that a call makes itself: append of one element, and how they read; no condition. -/
import Derived.Test.YtnijdaidmpjccaaRep
import Derived.OwnWalk
import Derived.RegionTactic
import Derived.Deep.QuietTactic
import Derived.BigQuiet
namespace Go.Proofs.Ytnijdaidmpjccaa
open Go.RowKit

theorem belowDrew {B : Nat} {a w : World} (h : Below B a w) (n : Nat) : Below B a (w.drewN n) := ⟨h.os, h.tape, h.output, h.size, h.block⟩
/-- What append and make ask of a slice type t with elements e of k cells. -/
def Elt (P : Program) (t e : TypeId) (k bytes : Nat) : Prop :=
  P.underlying t = some (.slice e) ∧ 0 < k ∧ ∃ i z, P.info? e = some i ∧ i.zero = some z ∧ z.cells.size = k ∧ i.size = k ∧ i.bytes = bytes
theorem Elt.mk_ {P : Program} {t e : TypeId} {k bytes : Nat} (ht : P.underlying t = some (.slice e)) (hk : 0 < k)
    (h : (P.info? e).map (fun i => ((i.zero.map fun z => z.cells.size), i.size, i.bytes)) = some (some k, k, bytes)) : Elt P t e k bytes := by
  cases hi : P.info? e with
  | none => rw [hi] at h; cases h
  | some i =>
    rw [hi] at h
    simp only [Option.map_some, Option.some.injEq, Prod.mk.injEq] at h
    obtain ⟨h1, h2, h3⟩ := h
    cases hz : i.zero with
    | none => rw [hz] at h1; cases h1
    | some z =>
      rw [hz] at h1
      simp only [Option.map_some, Option.some.injEq] at h1
      exact ⟨ht, hk, i, z, hi, hz, h1, h2, h3⟩

/-- A slice of the call's own, in blocks from B on, that holds these elements. -/
def Own {α : Type} (f : α → List Value) (k : Nat) (e : TypeId) (B : Nat) (w : World) (v : Value) (xs : List α) : Prop :=
  w.ownsRow B e k v xs.length (xs.flatMap f)
theorem Own.nil {α : Type} (f : α → List Value) (k : Nat) (e : TypeId) (B : Nat) (w : World) : Own f k e B w (.slice none 0 0) [] := World.ownsRow_nil w B e k
theorem Own.drewN {α : Type} {f : α → List Value} {k : Nat} {e : TypeId} {B : Nat} {w : World} {v : Value} {xs : List α} (h : Own f k e B w v xs) (n : Nat) : Own f k e B (w.drewN n) v xs := h
theorem Own.drew {α : Type} {f : α → List Value} {k : Nat} {e : TypeId} {B : Nat} {w : World} {v : Value} {xs : List α} (h : Own f k e B w v xs) : Own f k e B w.drew v xs := h
theorem Own.alloc {α : Type} {f : α → List Value} {k : Nat} {e : TypeId} {B : Nat} {w : World} {v : Value} {xs : List α} (h : Own f k e B w v xs) (o : Obj) : Own f k e B (w.alloc o) v xs := World.ownsRow.alloc h o
/-- It stays where what is below the heap's size stays. -/
theorem Own.below {α : Type} {f : α → List Value} {k : Nat} {e : TypeId} {B : Nat} {w w' : World} {v : Value} {xs : List α} (h : Own f k e B w v xs) (hb : Below w.heap.size w w') : Own f k e B w' v xs := by
  obtain ⟨h1, h2⟩ := h
  refine ⟨h1, ?_⟩
  rcases h2 with h2 | ⟨g, cap, cur, hv, hg, hh, r⟩
  · exact .inl h2
  · exact .inr ⟨g, cap, cur, hv, hg, (hb.block g (Array.getElem?_eq_some_iff.1 hh).1).trans hh, r⟩
theorem Own.base {α : Type} {f : α → List Value} {k : Nat} {e : TypeId} {B B' : Nat} {w : World} {v : Value} {xs : List α} (h : Own f k e B w v xs) (hB : B' ≤ B) : Own f k e B' w v xs := by
  obtain ⟨h1, h2⟩ := h
  refine ⟨h1, ?_⟩
  rcases h2 with h2 | ⟨g, cap, cur, hv, hg, r⟩
  · exact .inl h2
  · exact .inr ⟨g, cap, cur, hv, Nat.le_trans hB hg, r⟩
theorem flat_get {α : Type} {f : α → List Value} {k : Nat} (hf : ∀ y, (f y).length = k) : ∀ (xs : List α) (i j : Nat) (x : α) (u : Value), xs[i]? = some x → (f x)[j]? = some u → (xs.flatMap f)[i * k + j]? = some u
  | [], i, j, x, u, h, _ => by simp at h
  | y :: ys, 0, j, x, u, h, hu => by
    simp at h; subst h
    have hj : j < (f y).length := (List.getElem?_eq_some_iff.1 hu).1
    rw [List.flatMap_cons, List.getElem?_append_left (by simpa using hj)]; simpa using hu
  | y :: ys, i + 1, j, x, u, h, hu => by
    have ih := flat_get hf ys i j x u (by simpa using h) hu
    rw [List.flatMap_cons, List.getElem?_append_right (by rw [hf, Nat.add_mul]; omega), hf, Nat.add_mul]
    rwa [show i * k + 1 * k + j - k = i * k + j by omega]
/-- How a slice of the call's own reads. -/
theorem Own.row {α : Type} {f : α → List Value} {k : Nat} {e : TypeId} {B : Nat} {w : World} {v : Value} {xs : List α} {R : Cod α} (h : Own f k e B w v xs) (hf : ∀ y, (f y).length = k) (hR : ∀ x ∈ xs, R w (f x) x) :
    ∃ A c, v = .slice A xs.length c ∧ xs.length ≤ c ∧ c ≤ maxLen ∧ Row R k w A xs := by
  rcases h.2 with ⟨rfl, h0⟩ | ⟨g, cap, cur, rfl, _, _, hn, hm, _⟩
  · obtain rfl : xs = [] := List.eq_nil_of_length_eq_zero h0
    exact ⟨none, 0, rfl, by simp, by simp, Row.nil _ _ _ _⟩
  · refine ⟨some ⟨g, 0, none⟩, cap, rfl, hn, hm, fun _ => ⟨g, 0, rfl, fun i x hx => ⟨f x, hR x (List.mem_of_getElem? hx), hf x, fun j u hu => ?_⟩⟩⟩
    have := World.ownsRow.cells h (g := g) rfl (i * k + j) u (flat_get hf xs i j x u hx hu)
    rwa [Go.WideShapes.add_plain, ← Nat.add_assoc] at this

/-- How a block that has just been laid reads. -/
theorem row_new {α : Type} {R : Cod α} {k : Nat} {w : World} {cs : Array Value} {e : TypeId} (f : α → List Value) (xs : List α) (hf : ∀ y, (f y).length = k) (hR : ∀ x ∈ xs, R (w.alloc (.cells cs e)) (f x) x) (hcs : cs.toList = xs.flatMap f) :
    Row R k (w.alloc (.cells cs e)) (some ⟨w.heap.size, 0, none⟩) xs := by
  refine fun _ => ⟨w.heap.size, 0, rfl, fun i x hx => ⟨f x, hR x (List.mem_of_getElem? hx), hf x, fun j v hv => ?_⟩⟩
  rw [World.cell?_alloc_at _ _ _ _ rfl, ← Array.getElem?_toList, hcs, Nat.zero_add]
  exact flat_get hf xs i j x v hx hv

section
variable {P : Program} {α : Type} {f : α → List Value} {k : Nat}
/-- append of one element that has just been laid. -/
theorem wpList_push {ops : Array Oper} {rest : List Oper} {o : Oper} {a : Act} {Q : Exit → Act → World → Prop} (hgd : o.guard = none) (s x' : Operand) (t : TypeId)
    (ho : o.op = .call { callee := .builtin .append, args := #[s, x'], argTypes := #[t, t] })
    {e : TypeId} {bytes : Nat} (he : Elt P t e k bytes) (f : α → List Value) (hf : ∀ y, (f y).length = k) (B : Nat) (W : World) (v : Value) (xs : List α) (x : α) (hs : a.eval s = v) (hown : Own f k e B W v xs)
    (hx : a.eval x' = .slice (some ⟨W.heap.size, 0, none⟩) 1 1) (h1 : ∀ u ∈ f x, u.oneCell' = true) (hb : (xs.length + 1) * bytes ≤ 140737488355328) (hl : xs.length ≤ 9223372036854775806) (hB : B ≤ W.heap.size)
    (h : ∀ v' w', Own f k e B w' v' (xs ++ [x]) → Below B W w' → wpList P ops Q rest (a.put o.dst v') w') :
    wpList P ops Q (o :: rest) a (W.alloc (.cells (f x).toArray e)) := by
  obtain ⟨ht, hk, i, z, hi, hz, hzs, hsz, hby⟩ := he
  refine wpList_append_own _ hgd s x' t ho B e i z k bytes ht hi hz hsz hby hzs hk v xs.length (xs.flatMap f) hs (World.ownsRow.alloc hown _) ⟨W.heap.size, 0, none⟩ 1 1 (f x) hx (by rw [hf]; omega) ?_ h1 (by simp only [maxLen]; omega) hb (by simp; omega) ?_
  · intro j u hu
    rw [Go.WideShapes.add_plain, World.cell?_alloc_at _ _ _ _ rfl]
    simpa using hu
  · intro v' w' h2 h3 _
    refine h v' w' ?_ ?_
    · unfold Own; simpa using h2
    · have b0 : Below B W (W.alloc (.cells (f x).toArray e)) := (Below.refl _ _).alloc hB _
      refine b0.grown h3 (by simp; omega) fun g hg => ?_
      exact (World.ownsRow.lt hown g hg).1
end
end Go.Proofs.Ytnijdaidmpjccaa
