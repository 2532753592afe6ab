/- The keys of a map, sorted: the library's. No condition. -/
import Derived.Shelf.SlIterI.Sorted
import Derived.Shelf.SortM.Plain
import Derived.Shelf.SortM.SortNone
import Derived.Test.YtfjoaeghnfkdlaaA14
import Derived.Shelf.SlLaysZI
import Derived.Shelf.SlLaysM
import Derived.Test.YtfjoaeghnfkdlaaProg
import Derived.Test.YtfjoaeghnfkdlaaA19
set_option linter.unusedSimpArgs false
set_option linter.unusedVariables false
set_option maxHeartbeats 1000000
namespace Go.Proofs.Ytfjoaeghnfkdlaa
set_option maxRecDepth 100000
set_option maxRecDepth 100000
open Go.RowKit Go.Shelf Go.MapKept Go.Maps
def srtI (l : List Int) : List Int := l.mergeSort fun x y => decide (x ≤ y)
theorem srtI_perm (l : List Int) : (srtI l).Perm l := List.mergeSort_perm l _
theorem range_wf {x : Int} (h : rangeP .i64 x) : (Lit.int .i64 x).wf = true := by
  obtain ⟨h1, h2⟩ := h
  simp only [Lit.wf, Bool.and_eq_true, decide_eq_true_eq]
  exact ⟨h1, h2⟩
theorem own_map {α : Type} {P : Program} {k : TypeId} (hk : P.underlying k = some (.int .i64)) {f : α → AV} {m : List (Int × α)} {σ : Sig} {w : World} {b : Nat} {es : Array MapEntry} {clock : Nat} (hb : w.heap[b]? = some (.map es clock))
    (hE : ME σ f es.toList m) (hst : Stamped es clock) (hrg : ∀ p ∈ m, rangeP .i64 p.1) (hlen : m.length ≤ 1000000) :
    ∃ D0 : DataW Unit, w.ownsMap P k (fun _ => some (.nil, [])) b es.size D0 ∧ (intKeys D0).Perm (m.map Prod.fst) ∧ Maps.size D0 = m.length := by
  have hl : es.size = m.length := by rw [← Array.length_toList]; exact hE.len
  have hrd : ∀ x ∈ es.toList, ∃ p ∈ m, x.key = .int .i64 p.1 ∧ WideElems.rd (H := Unit) P k (fun _ => some (.nil, [])) x = some (.int .i64 p.1, .nil) := fun x hx => by
    obtain ⟨p, hp, e⟩ := hE.key_of x hx
    refine ⟨p, hp, e, ?_⟩
    unfold WideElems.rd
    have : keyOf P k x.key = some (.int .i64 p.1) := by
      rw [e]
      simp [keyOf, hk, mapKey, range_wf (hrg p hp)]
    rw [this]
    rfl
  refine ⟨_, ⟨es, clock, hb, ⟨by rw [hl]; unfold maxLen; omega, hst, fun x hx => ?_⟩, Nat.le_refl _, rfl⟩, ?_, ?_⟩
  · obtain ⟨p, _, _, h⟩ := hrd x hx
    exact ⟨_, h⟩
  · show (List.map _ _).Perm _
    refine ((Go.WideShapes.sorted_perm _).map _).trans ?_
    rw [List.map_map]
    have h1 : ∀ (l : List MapEntry) (m' : List (Int × α)), ME σ f l m' → (∀ x ∈ l, x ∈ es.toList) → l.map ((fun p : Lit × DataW Unit => Go.intOf p.1) ∘ WideElems.rg P k (fun _ => some (.nil, []))) = m'.map Prod.fst := by
      intro l
      induction l with
      | nil => intro m' h _; cases m' with | nil => rfl | cons _ _ => exact h.elim
      | cons x l ih =>
        intro m' h hx
        cases m' with
        | nil => exact h.elim
        | cons q m' =>
          obtain ⟨h1, h2, h3⟩ := h
          rw [List.map_cons, List.map_cons, ih m' h3 fun y hy => hx y (List.mem_cons_of_mem _ hy)]
          congr 1
          obtain ⟨p, _, e, hh⟩ := hrd x (hx x List.mem_cons_self)
          rw [Function.comp, WideElems.rg_of hh]
          rw [h1] at e
          show p.1 = q.1
          simpa using e.symm
    rw [h1 es.toList m hE fun _ h => h]
  · show List.length _ = _
    rw [(Go.WideShapes.sorted_perm _).length_eq]
    simp [hl]
theorem keysF {α : Type} {P : Program} {ρ : Ren} (L : SlLaysZI.n7 P ρ) (he : Entered P (ρ.f 7)) {f : α → AV} {m : List (Int × α)} : FnH P (ρ.f 7) [.own 4] [(4, .sem (mapK f m)), (5, .row (ρ.t 26) 1 (([] : List Int).map eI))]
    (fun r h' => r = .fn (.func (ρ.f 10)) [] [.ptr 5 0] ∧ h' = [(5, .blk (ρ.t 23) [.own 4]), (4, .sem (mapK f m))]) := by
  refine ⟨he, fun may pin σ ι w vs hr hv => ?_⟩
  obtain ⟨u0, r0, rfl, h1, hv⟩ := L2.cons_inv hv
  rw [L2.nil_iff] at hv
  subst hv
  obtain ⟨b, es, clock, h2, h3, h4, h5, h6⟩ := hr.ch 4 _ rfl
  have e0 := h1.own_inv.trans h2
  subst e0
  refine Calls.mono (callsIn_wide.1 (AnyZI.keys_in L Fence.wide 5 trivial rfl (some b) w)) ?_
  rintro e w' ⟨rfl, rfl⟩
  have hcs : L2 (VR σ ι) [AV.own 4] [Value.map (some b)] := (L2.nil _).cons h1
  have hr := hr.le (h' := [(4, .sem (mapK f m))]) (LeH.cons rfl (LeH.nil _))
  have hrel := hr.newBlk (id := 5) rfl (Nat.le_refl _) hcs rfl (ρ.t 23)
  refine ⟨_, .fn (.func (ρ.f 10)) [] [.ptr 5 0], _, σ, _, rfl, ⟨rfl, rfl⟩, ?_, hrel⟩
  have hp : L2 (VR σ (upd ι 5 (.pointer (some ⟨w.heap.size, 0, none⟩)))) [AV.ptr 5 0] [Value.pointer (some ⟨w.heap.size, 0, none⟩)] := (L2.nil _).cons (.ptr 5 0 w.heap.size (by rw [upd_eq]; rfl))
  exact .fn _ [] [.ptr 5 0] [] [.pointer (some ⟨w.heap.size, 0, none⟩)] rfl (fun j c v h => by simp at h) hp.1 hp.2
theorem sortedF {α : Type} {P : Program} {ρ5 ρ6 ρ7 : Ren} (L5 : SlLaysM.n5 P ρ5) (L6 : SlLaysZI.n6 P ρ6) (L7 : SlLaysZI.n7 P ρ7) (h59 : ρ5.f 5 = ρ6.f 9) (h26 : ρ7.t 26 = ρ6.t 26) (he : Entered P (ρ6.f 6)) (he9 : Entered P (ρ6.f 9)) (he10 : Entered P (ρ7.f 10)) {f : α → AV} {m : List (Int × α)} (hm : m.length ≤ 1000000) :
    FnH P (ρ6.f 6) [.fn (.func (ρ7.f 10)) [] [.ptr 5 0]] [(5, .blk (ρ7.t 23) [.own 4]), (4, .sem (mapK f m)), (6, .row (ρ6.t 26) 1 (([] : List Int).map eI))]
      (fun r h' => r = .own 6 ∧ h' = [(6, .row (ρ6.t 26) 1 ((srtI (m.map Prod.fst)).map eI)), (5, .blk (ρ7.t 23) [.own 4]), (4, .sem (mapK f m))]) := by
  refine ⟨he, fun may pin σ ι w vs hr hv => ?_⟩
  obtain ⟨u0, r0, rfl, h1, hv⟩ := L2.cons_inv hv
  rw [L2.nil_iff] at hv
  subst hv
  obtain ⟨us, vs, rfl, g1, g2⟩ := h1.fn_inv
  rw [L2.nil_iff] at g1
  subst g1
  obtain ⟨u1, r1, rfl, g3, g2⟩ := L2.cons_inv g2
  rw [L2.nil_iff] at g2
  subst g2
  obtain ⟨g, g4, rfl⟩ := g3.ptr_inv
  obtain ⟨b, es, clock, h2, h3, h4, h5, h6⟩ := hr.ch 4 _ rfl
  obtain ⟨g', cur, k1, k2, k3⟩ := hr.ch 5 _ rfl
  have hgg : g = g' := by rw [k1] at g4; simpa [footOf] using g4.symm
  subst hgg
  obtain ⟨c0, cr, hcur, k4, k5⟩ := L2.cons_inv k3
  rw [L2.nil_iff] at k5
  subst k5
  have e0 := k4.own_inv.trans h2
  subst e0
  have hcur : cur = #[.map (some b)] := by rw [← Array.toArray_toList (xs := cur), hcur]
  subst hcur
  obtain ⟨D0, hown, hperm, hsz⟩ := own_map L7.t26 h3 h4 h5 h6 hm
  have hgl : g < w.heap.size := (Array.getElem?_eq_some_iff.1 k2).1
  have hseq : SeqGives Fence.wide 2 P (ρ7.f 10) #[.pointer (some ⟨g, 0, none⟩)] encZ (fun ss => ss.Perm (intKeys D0)) (Maps.size D0) w :=
    AnyZI.keys_gives (ρ := ρ7) { L7 with } Fence.wide _ trivial rfl (by omega) g b _ D0 w hgl (by simp [World.cell?, k2]) hown
  have hsort : AnyZI.SortsIn P ρ6 Fence.wide 4 :=
    ⟨fun blk off cap ss W hH hblk hz => callsIn_wide.2 (by rw [← h59]; exact AnyM.slices_Sort_int L5 blk off cap ss W hH hblk hz),
     fun p cap W => callsIn_wide.2 (by rw [← h59]; exact AnyM.slices_Sort_int_none L5 p cap W)⟩
  have cS := AnyZI.sorted_in L6 Fence.wide 5 trivial trivial trivial trivial rfl (by omega) hsort he9 (ρ7.f 10) #[.pointer (some ⟨g, 0, none⟩)] trivial he10 _ (Maps.size D0) (by rw [hsz]; unfold maxLen; omega) (by rw [hsz]; omega) w hseq
  refine Calls.mono (callsIn_wide.1 cS) ?_
  rintro e w' ⟨v, ss, rfl, hS, hrow, hnil, hB⟩
  have hk : ss.mergeSort (fun x y => decide (x ≤ y)) = srtI (m.map Prod.fst) := mergeSort_of_perm_i (hS.trans hperm)
  rw [hk] at hrow
  have hlen : ss.length = (srtI (m.map Prod.fst)).length := by rw [← hk, List.length_mergeSort]
  have hrg : ∀ x ∈ srtI (m.map Prod.fst), rangeP .i64 x := fun x hx => by
    obtain ⟨p, hp, rfl⟩ := List.mem_map.1 ((srtI_perm _).mem_iff.1 hx)
    exact h6 p hp
  have hfoot : ∀ g2, footOf v = some g2 → w.heap.size ≤ g2 := fun g2 hg2 => by
    rcases hrow.2 with ⟨rfl, _⟩ | ⟨g3, cap, cur, rfl, hb, _⟩
    · cases hg2
    · simp only [footOf, Option.some.injEq] at hg2; omega
  have hone : v.oneCell' = true := by
    rcases hrow.2 with ⟨rfl, _⟩ | ⟨g3, cap, cur, rfl, hb, _⟩ <;> rfl
  have hrow0 : w'.ownsRow 0 (ρ6.t 26) 1 v ((srtI (m.map Prod.fst)).map eI).length ((srtI (m.map Prod.fst)).map encZ) := by
    rw [List.length_map, ← hlen]
    refine ⟨hrow.1, hrow.2.imp id ?_⟩
    rintro ⟨g3, cap, cur, r1, r2, r3⟩
    exact ⟨g3, cap, cur, r1, Nat.zero_le _, r3⟩
  have hvs : ∀ l : List Int, (∀ x ∈ l, rangeP .i64 x) → L2 (VR0 σ) (l.map eI).flatten (l.map encZ) := by
    intro l
    induction l with
    | nil => intro _; exact L2.nil _
    | cons x l ih => intro h; exact (ih fun y hy => h y (List.mem_cons_of_mem _ hy)).cons (.int _ _ (h x List.mem_cons_self))
  obtain ⟨b1, b2, b3, b4, b5⟩ := hB
  have hr := hr.le (h' := [(5, .blk (ρ7.t 23) [.own 4]), (4, .sem (mapK f m))]) (LeH.cons rfl (LeH.cons rfl (LeH.nil _)))
  have hrel := hr.turn (w' := w') (id := 6) (u := v) (h' := [(6, .row (ρ6.t 26) 1 ((srtI (m.map Prod.fst)).map eI)), (5, .blk (ρ7.t 23) [.own 4]), (4, .sem (mapK f m))]) (c' := .row (ρ6.t 26) 1 ((srtI (m.map Prod.fst)).map eI))
    (fun i c hi hc => by
      rw [hget_cons, if_neg (fun e => hi e.symm)] at hc
      refine ⟨hc, .inr ?_⟩
      rw [hget_cons] at hc
      split at hc
      · cases hc; rfl
      · rw [hget_cons] at hc
        split at hc
        · cases hc; trivial
        · cases hc) (by rw [hget_cons, if_pos rfl])
    (by
      refine ⟨by omega, fun c hc => ?_, _, by rw [upd_eq]; exact hrow0, hvs _ hrg⟩
      obtain ⟨x, _, rfl⟩ := List.mem_map.1 hc; rfl)
    b1 b2 b3 b4 (fun k hk _ => b5 k hk) (fun g2 hg2 => .inr (hfoot g2 hg2)) (.inl (by omega)) (by intro vs e; subst e; simp [Value.oneCell'] at hone)
  refine ⟨_, .own 6, _, σ, _, rfl, ⟨rfl, rfl⟩, ?_, hrel⟩
  have h9 := VR.own (σ := σ) (ι := upd ι 6 v) 6 (by rw [upd_eq]; exact hone)
  rwa [upd_eq] at h9
end Go.Proofs.Ytfjoaeghnfkdlaa
namespace Go.Proofs.Ytfjoaeghnfkdlaa
set_option maxRecDepth 100000
def lay5_ren : Go.Shelf.Ren := ⟨fun | 5 => 108 | 8 => 78 | 7 => 121 | 19 => 100 | 20 => 101 | 10 => 127 | 11 => 128 | 12 => 129 | 13 => 130 | 14 => 131 | 15 => 132 | 16 => 133 | 17 => 134 | 18 => 135 | 30 => 138 | 31 => 113 | 32 => 114 | 33 => 139 | 34 => 140 | 35 => 79 | 40 => 143 | n => n, fun | 23 => 22 | 25 => 3 | 3 => 3 | 32 => 133 | 22 => 22 | 0 => 0 | 44 => 150 | 46 => 152 | 4 => 4 | 36 => 144 | 35 => 143 | 41 => 71 | 5 => 5 | 9 => 9 | 53 => 156 | 57 => 160 | 63 => 164 | 64 => 165 | n => n, fun | n => n⟩
theorem lay5 : Go.Proofs.SlLaysM.n5 Try.prog lay5_ren := {
  mixed := by kernel_rfl
  f5 := ⟨Try.f108.name, by decide, Try.func108.trans (congrArg some (by kernel_rfl))⟩
  f7 := ⟨Try.f121.name, by decide, Try.func121.trans (congrArg some (by kernel_rfl))⟩
  f8 := Try.func78.trans (congrArg some (by kernel_rfl))
  f10 := ⟨Try.f127.name, by decide, Try.func127.trans (congrArg some (by kernel_rfl))⟩
  f11 := ⟨Try.f128.name, by decide, Try.func128.trans (congrArg some (by kernel_rfl))⟩
  f12 := ⟨Try.f129.name, by decide, Try.func129.trans (congrArg some (by kernel_rfl))⟩
  f13 := ⟨Try.f130.name, by decide, Try.func130.trans (congrArg some (by kernel_rfl))⟩
  f14 := ⟨Try.f131.name, by decide, Try.func131.trans (congrArg some (by kernel_rfl))⟩
  f15 := ⟨Try.f132.name, by decide, Try.func132.trans (congrArg some (by kernel_rfl))⟩
  f16 := ⟨Try.f133.name, by decide, Try.func133.trans (congrArg some (by kernel_rfl))⟩
  f17 := ⟨Try.f134.name, by decide, Try.func134.trans (congrArg some (by kernel_rfl))⟩
  f18 := ⟨Try.f135.name, by decide, Try.func135.trans (congrArg some (by kernel_rfl))⟩
  f19 := Try.func100.trans (congrArg some (by kernel_rfl))
  f20 := Try.func101.trans (congrArg some (by kernel_rfl))
  f30 := ⟨Try.f138.name, by decide, Try.func138.trans (congrArg some (by kernel_rfl))⟩
  f31 := Try.func113.trans (congrArg some (by kernel_rfl))
  f32 := Try.func114.trans (congrArg some (by kernel_rfl))
  f33 := ⟨Try.f139.name, by decide, Try.func139.trans (congrArg some (by kernel_rfl))⟩
  f34 := ⟨Try.f140.name, by decide, Try.func140.trans (congrArg some (by kernel_rfl))⟩
  f35 := ⟨Try.f79.name, by decide, Try.func79.trans (congrArg some (by kernel_rfl))⟩
  f40 := ⟨Try.f143.name, by decide, Try.func143.trans (congrArg some (by kernel_rfl))⟩
  t0 := Try.underlying0
  a0 := Try.isAgg0
  z0 := Try.sizeOf0
  v0 := Try.zeroValue0
  t3 := Try.underlying3
  a3 := Try.isAgg3
  z3 := Try.sizeOf3
  v3 := Try.zeroValue3
  t4 := Try.underlying4
  a4 := Try.isAgg4
  z4 := Try.sizeOf4
  v4 := Try.zeroValue4
  t5 := Try.underlying5
  a5 := Try.isAgg5
  z5 := Try.sizeOf5
  v5 := Try.zeroValue5
  t9 := Try.underlying9
  a9 := Try.isAgg9
  z9 := Try.sizeOf9
  v9 := Try.zeroValue9
  t22 := Try.underlying22
  a22 := Try.isAgg22
  z22 := Try.sizeOf22
  v22 := Try.zeroValue22
  t23 := Try.underlying22
  a23 := Try.isAgg22
  z23 := Try.sizeOf22
  v23 := Try.zeroValue22
  t25 := Try.underlying3
  a25 := Try.isAgg3
  z25 := Try.sizeOf3
  v25 := Try.zeroValue3
  t32 := Try.underlying133
  a32 := Try.isAgg133
  z32 := Try.sizeOf133
  v32 := Try.zeroValue133
  t35 := Try.underlying143
  a35 := Try.isAgg143
  z35 := Try.sizeOf143
  v35 := Try.zeroValue143
  t36 := Try.underlying144
  a36 := Try.isAgg144
  z36 := Try.sizeOf144
  v36 := Try.zeroValue144
  t41 := Try.underlying71
  a41 := Try.isAgg71
  z41 := Try.sizeOf71
  v41 := Try.zeroValue71
  t44 := Try.underlying150
  a44 := Try.isAgg150
  z44 := Try.sizeOf150
  v44 := Try.zeroValue150
  t46 := Try.underlying152
  a46 := Try.isAgg152
  z46 := Try.sizeOf152
  v46 := Try.zeroValue152
  t53 := Try.underlying156
  a53 := Try.isAgg156
  z53 := Try.sizeOf156
  v53 := Try.zeroValue156
  t57 := Try.underlying160
  a57 := Try.isAgg160
  z57 := Try.sizeOf160
  v57 := Try.zeroValue160
  t63 := Try.underlying164
  a63 := Try.isAgg164
  z63 := Try.sizeOf164
  v63 := Try.zeroValue164
  t64 := Try.underlying165
  a64 := Try.isAgg165
  z64 := Try.sizeOf165
  v64 := Try.zeroValue165 }
def lay6_ren : Go.Shelf.Ren := ⟨fun | 6 => 86 | 8 => 107 | 9 => 108 | 11 => 120 | 13 => 78 | 12 => 121 | 23 => 100 | 24 => 101 | 14 => 127 | 15 => 128 | 16 => 129 | 17 => 130 | 18 => 131 | 19 => 132 | 20 => 133 | 21 => 134 | 22 => 135 | 25 => 138 | 26 => 113 | 27 => 114 | 28 => 139 | 29 => 140 | 30 => 79 | 31 => 143 | n => n, fun | 26 => 3 | 28 => 94 | 24 => 22 | 0 => 0 | 3 => 3 | 37 => 133 | 48 => 150 | 50 => 152 | 4 => 4 | 40 => 144 | 39 => 143 | 45 => 71 | 5 => 5 | 9 => 9 | 51 => 156 | 55 => 160 | 57 => 164 | 58 => 165 | 33 => 91 | n => n, fun | n => n⟩
theorem lay6 : Go.Proofs.SlLaysZI.n6 Try.prog lay6_ren := {
  mixed := by kernel_rfl
  f6 := ⟨Try.f86.name, by decide, Try.func86.trans (congrArg some (by kernel_rfl))⟩
  f8 := ⟨Try.f107.name, by decide, Try.func107.trans (congrArg some (by kernel_rfl))⟩
  f11 := ⟨Try.f120.name, by decide, Try.func120.trans (congrArg some (by kernel_rfl))⟩
  t0 := Try.underlying0
  a0 := Try.isAgg0
  z0 := Try.sizeOf0
  v0 := Try.zeroValue0
  t24 := Try.underlying22
  a24 := Try.isAgg22
  z24 := Try.sizeOf22
  v24 := Try.zeroValue22
  t26 := Try.underlying3
  a26 := Try.isAgg3
  z26 := Try.sizeOf3
  v26 := Try.zeroValue3
  t28 := Try.underlying94
  a28 := Try.isAgg94
  z28 := Try.sizeOf94
  v28 := Try.zeroValue94
  i26 := by kernel_rfl }
def lay7J_ren : Go.Shelf.Ren := ⟨fun | 7 => 87 | 10 => 109 | n => n, fun | 23 => 112 | 26 => 3 | 3 => 74 | 28 => 94 | 0 => 0 | 27 => 93 | 33 => 91 | 4 => 4 | n => n, fun | n => n⟩
theorem lay7J : Go.Proofs.SlLaysZI.n7 Try.prog lay7J_ren := {
  mixed := by kernel_rfl
  f7 := ⟨Try.f87.name, by decide, Try.func87.trans (congrArg some (by kernel_rfl))⟩
  f10 := ⟨Try.f109.name, by decide, Try.func109.trans (congrArg some (by kernel_rfl))⟩
  t0 := Try.underlying0
  a0 := Try.isAgg0
  z0 := Try.sizeOf0
  v0 := Try.zeroValue0
  t4 := Try.underlying4
  a4 := Try.isAgg4
  z4 := Try.sizeOf4
  v4 := Try.zeroValue4
  t23 := Try.underlying112
  a23 := Try.isAgg112
  z23 := Try.sizeOf112
  v23 := Try.zeroValue112
  t26 := Try.underlying3
  a26 := Try.isAgg3
  z26 := Try.sizeOf3
  v26 := Try.zeroValue3
  t27 := Try.underlying93
  a27 := Try.isAgg93
  z27 := Try.sizeOf93
  v27 := Try.zeroValue93
  t28 := Try.underlying94
  a28 := Try.isAgg94
  z28 := Try.sizeOf94
  v28 := Try.zeroValue94
  t33 := Try.underlying91
  a33 := Try.isAgg91
  z33 := Try.sizeOf91
  v33 := Try.zeroValue91 }
def lay7D_ren : Go.Shelf.Ren := ⟨fun | 7 => 88 | 10 => 110 | n => n, fun | 23 => 113 | 26 => 3 | 3 => 41 | 28 => 94 | 0 => 0 | 27 => 93 | 33 => 91 | 4 => 4 | n => n, fun | n => n⟩
theorem lay7D : Go.Proofs.SlLaysZI.n7 Try.prog lay7D_ren := {
  mixed := by kernel_rfl
  f7 := ⟨Try.f88.name, by decide, Try.func88.trans (congrArg some (by kernel_rfl))⟩
  f10 := ⟨Try.f110.name, by decide, Try.func110.trans (congrArg some (by kernel_rfl))⟩
  t0 := Try.underlying0
  a0 := Try.isAgg0
  z0 := Try.sizeOf0
  v0 := Try.zeroValue0
  t4 := Try.underlying4
  a4 := Try.isAgg4
  z4 := Try.sizeOf4
  v4 := Try.zeroValue4
  t23 := Try.underlying113
  a23 := Try.isAgg113
  z23 := Try.sizeOf113
  v23 := Try.zeroValue113
  t26 := Try.underlying3
  a26 := Try.isAgg3
  z26 := Try.sizeOf3
  v26 := Try.zeroValue3
  t27 := Try.underlying93
  a27 := Try.isAgg93
  z27 := Try.sizeOf93
  v27 := Try.zeroValue93
  t28 := Try.underlying94
  a28 := Try.isAgg94
  z28 := Try.sizeOf94
  v28 := Try.zeroValue94
  t33 := Try.underlying91
  a33 := Try.isAgg91
  z33 := Try.sizeOf91
  v33 := Try.zeroValue91 }
end Go.Proofs.Ytfjoaeghnfkdlaa
namespace Go.Proofs.Ytfjoaeghnfkdlaa
set_option maxRecDepth 100000
set_option maxRecDepth 100000
open Go.RowKit Go.Shelf
theorem getM_key {α : Type} : ∀ {m : List (Int × α)} {k : Int}, k ∈ m.map Prod.fst → ∃ v, getM m k = some v
  | [], k, h => by cases h
  | (k', v) :: r, k, h => by
    rw [getM]
    split
    · exact ⟨v, rfl⟩
    · rename_i hk
      rcases List.mem_cons.1 h with rfl | h
      · exact (hk rfl).elim
      · exact getM_key h
def ordS {α : Type} [Inhabited α] (m : List (Int × α)) (k : Nat) : List α := ((srtI (m.map Prod.fst)).take k).map fun x => (getM m x).getD default
def ordM {α : Type} [Inhabited α] (m : List (Int × α)) : List α := (srtI (m.map Prod.fst)).map fun x => (getM m x).getD default
theorem srt_len {α : Type} (m : List (Int × α)) : (srtI (m.map Prod.fst)).length = m.length := by rw [(srtI_perm _).length_eq, List.length_map]
theorem ordS_next {α : Type} [Inhabited α] (m : List (Int × α)) {k : Nat} (hk : k < m.length) : ∃ v, getM m ((srtI (m.map Prod.fst)).getD k default) = some v ∧ ordS m (k + 1) = ordS m k ++ [v] := by
  have hk' : k < (srtI (m.map Prod.fst)).length := by rw [srt_len]; exact hk
  have e : (srtI (m.map Prod.fst)).getD k default = (srtI (m.map Prod.fst))[k] := by simp [hk']
  obtain ⟨v, hv⟩ := getM_key (m := m) ((srtI_perm _).mem_iff.1 (List.getElem_mem hk'))
  refine ⟨v, by rw [e]; exact hv, ?_⟩
  unfold ordS
  rw [List.take_succ_eq_append_getElem hk', List.map_append, List.map_cons, List.map_nil, hv]
  rfl
theorem ordS_len {α : Type} [Inhabited α] (m : List (Int × α)) (k : Nat) : (ordS m k).length ≤ k := by
  unfold ordS; rw [List.length_map, List.length_take]; omega
theorem ordS_all {α : Type} [Inhabited α] (m : List (Int × α)) : ordS m m.length = ordM m := by
  unfold ordS ordM; rw [← srt_len m, List.take_length]
def ρO (i : Nat) : Nat := [0, 1, 2, 3, 4, 20, 21].getD i i
theorem ordJ_fn (m : List (Int × Job)) (hm : m.length ≤ 1000000) : FnH Try.prog 66 [.own 4] [(4, mJ m)] (fun r h' => r = .lst 8 ((ordM m).map eJob) ∧ h' = [(4, mJ m)]) := by
  have c1 : FnH Try.prog 87 [.own 4] [(4, mJ m), (5, .row 3 1 (([] : List Int).map eI))] (fun r h' => r = .fn (.func 109) [] [.ptr 5 0] ∧ h' = [(5, .blk (lay7J_ren.t 23) [.own 4]), (4, mJ m)]) := keysF lay7J (entered_of (by kernel_rfl))
  have c2 : FnH Try.prog 86 [.fn (.func 109) [] [.ptr 5 0]] [(5, .blk (lay7J_ren.t 23) [.own 4]), (4, mJ m), (6, .row 3 1 (([] : List Int).map eI))] (fun r h' => r = .own 6 ∧ h' = [(6, .row 3 1 ((srtI (m.map Prod.fst)).map eI)), (5, .blk (lay7J_ren.t 23) [.own 4]), (4, mJ m)]) :=
    sortedF lay5 lay6 lay7J rfl rfl (entered_of (by kernel_rfl)) (entered_of (by kernel_rfl)) (entered_of (by kernel_rfl)) hm
  refine FnH.drop' (fnhb Try.func66 (entered_of (by kernel_rfl)) rfl rfl ?_)
  have hsl := srt_len m
  repeat' (first | refine sA ?_ | ((first | apply kM | apply kN); (iterate 3 (· exact rfl)); (· first | exact ya)) | refine sG ?_ | (refine sK ?_ ?_ <;> intro hc <;> (try simp only [KL, sL, reduceCtorEq] at hc) <;> (try (have hT : True := hc; clear hT hc)) <;> (try (exfalso; omega))))
  refine oturn (turn_dummy eI 20 3 1 (by omega) rfl) ?_
  refine zcall (fun i => ρO i) (c1) rfl rfl leh rfl rfl rfl rfl rfl rfl (fun r h' hR => ?_)
  obtain ⟨rfl, rfl⟩ := hR
  refine ⟨rfl, rfl, ?_⟩
  repeat' (first | refine sA ?_ | ((first | apply kM | apply kN); (iterate 3 (· exact rfl)); (· first | exact ya)) | refine sG ?_ | (refine sK ?_ ?_ <;> intro hc <;> (try simp only [KL, sL, reduceCtorEq] at hc) <;> (try (have hT : True := hc; clear hT hc)) <;> (try (exfalso; omega))))
  refine oturn (turn_dummy eI 21 3 1 (by omega) rfl) ?_
  refine zcall (fun i => ρO i) (c2) rfl rfl leh rfl rfl rfl rfl rfl rfl (fun r h' hR => ?_)
  obtain ⟨rfl, rfl⟩ := hR
  refine ⟨rfl, rfl, ?_⟩
  repeat' (first | refine sA ?_ | ((first | apply kM | apply kN); (iterate 3 (· exact rfl)); (· first | exact ya)) | refine sG ?_ | (refine sK ?_ ?_ <;> intro hc <;> (try simp only [KL, sL, reduceCtorEq] at hc) <;> (try (have hT : True := hc; clear hT hc)) <;> (try (exfalso; omega))))
  refine wturn (turn_own eJob (t := 3) rfl 22 74 8 (by omega) rfl) ?_
  refine wloop (fun k : Nat => ([(0, .own 4), (3, .own 22), (8, .own 21), (9, .int .i64 m.length), (10, .int .i64 k)], [(22, .row 74 8 ((ordS m k).map eJob)), (21, .row 3 1 ((srtI (m.map Prod.fst)).map eI)), (4, mJ m)])) (fun k => k ≤ m.length) (fun k => m.length - k) 0 (Nat.zero_le _) (by rw [← hsl]; exact les) leh (fun k hk => ?_)
  have hlen := ordS_len m k
  rcases Nat.lt_or_eq_of_le hk with hkl | hkl
  · obtain ⟨v, hv, hnx⟩ := ordS_next m hkl
    repeat' (first | refine sA ?_ | ((first | apply kM | apply kN); (iterate 3 (· exact rfl)); (· first | (show Y _ ⟨_, .indexAddr _ _ _, _, _, _, _⟩ _ _ _; first | exact q_ioE (k) rfl rfl rfl rfl rfl rfl (by omega) (by omega)) | exact ya | exact Y.mk (ok_lookH v rfl rfl rfl rfl rfl hv))) | refine sG ?_ | (refine sK ?_ ?_ <;> intro hc <;> (try simp only [KL, sL, reduceCtorEq] at hc) <;> (try (have hT : True := hc; clear hT hc)) <;> (try (exfalso; omega))))
    all_goals first | (exfalso; omega) | skip
    (refine ao_ap (id := 22) (ys := [v]) (by_ := 64) rfl rfl rfl rfl rfl rfl rfl rfl rfl rfl (fun _ _ => rfl) ?_ ?_ rfl rfl rfl rfl rfl ?_; (· (first | omega | ((try simp only [List.length_cons, List.length_nil, List.length_append, List.length_map]) <;> omega))); (· (first | omega | ((try simp only [List.length_cons, List.length_nil, List.length_append, List.length_map]) <;> omega))))
    repeat' (first | refine sA ?_ | ((first | apply kM | apply kN); (iterate 3 (· exact rfl)); (· first | exact ya)) | refine sG ?_ | (refine sK ?_ ?_ <;> intro hc <;> (try simp only [KL, sL, reduceCtorEq] at hc) <;> (try (have hT : True := hc; clear hT hc)) <;> (try (exfalso; omega))))
    exact ⟨k + 1, by omega, by omega, les, by simp only [hnx]; exact leh⟩
  · subst hkl
    repeat' (first | refine sA ?_ | ((first | apply kM | apply kN); (iterate 3 (· exact rfl)); (· first | exact ya)) | refine sG ?_ | (refine sK ?_ ?_ <;> intro hc <;> (try simp only [KL, sL, reduceCtorEq] at hc) <;> (try (have hT : True := hc; clear hT hc)) <;> (try (exfalso; omega))))
    all_goals first | (exfalso; omega) | skip
    rw [ordS_all]
    refine retT (fun _ => turn_freeze (t := 2) rfl rfl rfl) ?_
    exact retq rfl ⟨_, leh, rfl, rfl⟩
theorem ordD_fn (m : List (Int × Due)) (hm : m.length ≤ 1000000) : FnH Try.prog 67 [.own 4] [(4, mD m)] (fun r h' => r = .lst 2 ((ordM m).map eDue) ∧ h' = [(4, mD m)]) := by
  have c1 : FnH Try.prog 88 [.own 4] [(4, mD m), (5, .row 3 1 (([] : List Int).map eI))] (fun r h' => r = .fn (.func 110) [] [.ptr 5 0] ∧ h' = [(5, .blk (lay7D_ren.t 23) [.own 4]), (4, mD m)]) := keysF lay7D (entered_of (by kernel_rfl))
  have c2 : FnH Try.prog 86 [.fn (.func 110) [] [.ptr 5 0]] [(5, .blk (lay7D_ren.t 23) [.own 4]), (4, mD m), (6, .row 3 1 (([] : List Int).map eI))] (fun r h' => r = .own 6 ∧ h' = [(6, .row 3 1 ((srtI (m.map Prod.fst)).map eI)), (5, .blk (lay7D_ren.t 23) [.own 4]), (4, mD m)]) :=
    sortedF lay5 lay6 lay7D rfl rfl (entered_of (by kernel_rfl)) (entered_of (by kernel_rfl)) (entered_of (by kernel_rfl)) hm
  refine FnH.drop' (fnhb Try.func67 (entered_of (by kernel_rfl)) rfl rfl ?_)
  have hsl := srt_len m
  repeat' (first | refine sA ?_ | ((first | apply kM | apply kN); (iterate 3 (· exact rfl)); (· first | exact ya)) | refine sG ?_ | (refine sK ?_ ?_ <;> intro hc <;> (try simp only [KL, sL, reduceCtorEq] at hc) <;> (try (have hT : True := hc; clear hT hc)) <;> (try (exfalso; omega))))
  refine oturn (turn_dummy eI 20 3 1 (by omega) rfl) ?_
  refine zcall (fun i => ρO i) (c1) rfl rfl leh rfl rfl rfl rfl rfl rfl (fun r h' hR => ?_)
  obtain ⟨rfl, rfl⟩ := hR
  refine ⟨rfl, rfl, ?_⟩
  repeat' (first | refine sA ?_ | ((first | apply kM | apply kN); (iterate 3 (· exact rfl)); (· first | exact ya)) | refine sG ?_ | (refine sK ?_ ?_ <;> intro hc <;> (try simp only [KL, sL, reduceCtorEq] at hc) <;> (try (have hT : True := hc; clear hT hc)) <;> (try (exfalso; omega))))
  refine oturn (turn_dummy eI 21 3 1 (by omega) rfl) ?_
  refine zcall (fun i => ρO i) (c2) rfl rfl leh rfl rfl rfl rfl rfl rfl (fun r h' hR => ?_)
  obtain ⟨rfl, rfl⟩ := hR
  refine ⟨rfl, rfl, ?_⟩
  repeat' (first | refine sA ?_ | ((first | apply kM | apply kN); (iterate 3 (· exact rfl)); (· first | exact ya)) | refine sG ?_ | (refine sK ?_ ?_ <;> intro hc <;> (try simp only [KL, sL, reduceCtorEq] at hc) <;> (try (have hT : True := hc; clear hT hc)) <;> (try (exfalso; omega))))
  refine wturn (turn_own eDue (t := 3) rfl 22 41 2 (by omega) rfl) ?_
  refine wloop (fun k : Nat => ([(0, .own 4), (3, .own 22), (8, .own 21), (9, .int .i64 m.length), (10, .int .i64 k)], [(22, .row 41 2 ((ordS m k).map eDue)), (21, .row 3 1 ((srtI (m.map Prod.fst)).map eI)), (4, mD m)])) (fun k => k ≤ m.length) (fun k => m.length - k) 0 (Nat.zero_le _) (by rw [← hsl]; exact les) leh (fun k hk => ?_)
  have hlen := ordS_len m k
  rcases Nat.lt_or_eq_of_le hk with hkl | hkl
  · obtain ⟨v, hv, hnx⟩ := ordS_next m hkl
    repeat' (first | refine sA ?_ | ((first | apply kM | apply kN); (iterate 3 (· exact rfl)); (· first | (show Y _ ⟨_, .indexAddr _ _ _, _, _, _, _⟩ _ _ _; first | exact q_ioE (k) rfl rfl rfl rfl rfl rfl (by omega) (by omega)) | exact ya | exact Y.mk (ok_lookH v rfl rfl rfl rfl rfl hv))) | refine sG ?_ | (refine sK ?_ ?_ <;> intro hc <;> (try simp only [KL, sL, reduceCtorEq] at hc) <;> (try (have hT : True := hc; clear hT hc)) <;> (try (exfalso; omega))))
    all_goals first | (exfalso; omega) | skip
    (refine ao_ap (id := 22) (ys := [v]) (by_ := 16) rfl rfl rfl rfl rfl rfl rfl rfl rfl rfl (fun _ _ => rfl) ?_ ?_ rfl rfl rfl rfl rfl ?_; (· (first | omega | ((try simp only [List.length_cons, List.length_nil, List.length_append, List.length_map]) <;> omega))); (· (first | omega | ((try simp only [List.length_cons, List.length_nil, List.length_append, List.length_map]) <;> omega))))
    repeat' (first | refine sA ?_ | ((first | apply kM | apply kN); (iterate 3 (· exact rfl)); (· first | exact ya)) | refine sG ?_ | (refine sK ?_ ?_ <;> intro hc <;> (try simp only [KL, sL, reduceCtorEq] at hc) <;> (try (have hT : True := hc; clear hT hc)) <;> (try (exfalso; omega))))
    exact ⟨k + 1, by omega, by omega, les, by simp only [hnx]; exact leh⟩
  · subst hkl
    repeat' (first | refine sA ?_ | ((first | apply kM | apply kN); (iterate 3 (· exact rfl)); (· first | exact ya)) | refine sG ?_ | (refine sK ?_ ?_ <;> intro hc <;> (try simp only [KL, sL, reduceCtorEq] at hc) <;> (try (have hT : True := hc; clear hT hc)) <;> (try (exfalso; omega))))
    all_goals first | (exfalso; omega) | skip
    rw [ordS_all]
    refine retT (fun _ => turn_freeze (t := 2) rfl rfl rfl) ?_
    exact retq rfl ⟨_, leh, rfl, rfl⟩
theorem jobs30_fn (l : List Task) (lt : List Due) (dm : List (List Int)) (ticks : Int) (hl : l.length ≤ 100000) (hlt : lt.length ≤ 100000) (hm : (layF l lt dm ticks).m1.length ≤ 1000000) : Fn Try.prog 40 [.lst 7 (l.map eTask), .lst 2 (lt.map eDue), .lst 1 (dm.map eLI), .int .i64 ticks] (.lst 8 ((ordM (layF l lt dm ticks).m1).map eJob)) := by
  refine fnb Try.func40 (entered_of (by kernel_rfl)) rfl rfl rfl ?_
  repeat' (first | refine sA ?_ | ((first | apply kM | apply kN); (iterate 3 (· exact rfl)); (· first | exact ya)) | refine sG ?_ | (refine sK ?_ ?_ <;> intro hc <;> (try simp only [KL, sL, reduceCtorEq] at hc) <;> (try (have hT : True := hc; clear hT hc)) <;> (try (exfalso; omega))))
  refine oturn (turn_dummy eI 10 3 1 (by omega) rfl) ?_
  refine oturn (turn_dummy eI 11 3 1 (by omega) rfl) ?_
  refine oturn (turn_dummy eI 12 3 1 (by omega) rfl) ?_
  refine oturn (turn_dummy eI 13 3 1 (by omega) rfl) ?_
  refine zcall (fun i => i + 5) (lay30_fn l lt dm ticks hl hlt) rfl rfl leh rfl rfl rfl rfl rfl rfl (fun r h' hR => ?_)
  obtain ⟨rfl, rfl⟩ := hR
  refine ⟨rfl, rfl, ?_⟩
  repeat' (first | refine sA ?_ | ((first | apply kM | apply kN); (iterate 3 (· exact rfl)); (· first | exact ya)) | refine sG ?_ | (refine sK ?_ ?_ <;> intro hc <;> (try simp only [KL, sL, reduceCtorEq] at hc) <;> (try (have hT : True := hc; clear hT hc)) <;> (try (exfalso; omega))))
  refine zcall (fun i => i + 8) (ordJ_fn _ hm) rfl rfl leh rfl rfl rfl rfl rfl rfl (fun r h' hR => ?_)
  obtain ⟨rfl, rfl⟩ := hR
  refine ⟨rfl, rfl, ?_⟩
  repeat' (first | refine sA ?_ | ((first | apply kM | apply kN); (iterate 3 (· exact rfl)); (· first | exact ya)) | refine sG ?_ | (refine sK ?_ ?_ <;> intro hc <;> (try simp only [KL, sL, reduceCtorEq] at hc) <;> (try (have hT : True := hc; clear hT hc)) <;> (try (exfalso; omega))))
  exact retq rfl rfl
theorem overs30_fn (l : List Task) (lt : List Due) (dm : List (List Int)) (ticks : Int) (hl : l.length ≤ 100000) (hlt : lt.length ≤ 100000) (hm : (layF l lt dm ticks).m2.length ≤ 1000000) : Fn Try.prog 41 [.lst 7 (l.map eTask), .lst 2 (lt.map eDue), .lst 1 (dm.map eLI), .int .i64 ticks] (.lst 2 ((ordM (layF l lt dm ticks).m2).map eDue)) := by
  refine fnb Try.func41 (entered_of (by kernel_rfl)) rfl rfl rfl ?_
  repeat' (first | refine sA ?_ | ((first | apply kM | apply kN); (iterate 3 (· exact rfl)); (· first | exact ya)) | refine sG ?_ | (refine sK ?_ ?_ <;> intro hc <;> (try simp only [KL, sL, reduceCtorEq] at hc) <;> (try (have hT : True := hc; clear hT hc)) <;> (try (exfalso; omega))))
  refine oturn (turn_dummy eI 10 3 1 (by omega) rfl) ?_
  refine oturn (turn_dummy eI 11 3 1 (by omega) rfl) ?_
  refine oturn (turn_dummy eI 12 3 1 (by omega) rfl) ?_
  refine oturn (turn_dummy eI 13 3 1 (by omega) rfl) ?_
  refine zcall (fun i => i + 5) (lay30_fn l lt dm ticks hl hlt) rfl rfl leh rfl rfl rfl rfl rfl rfl (fun r h' hR => ?_)
  obtain ⟨rfl, rfl⟩ := hR
  refine ⟨rfl, rfl, ?_⟩
  repeat' (first | refine sA ?_ | ((first | apply kM | apply kN); (iterate 3 (· exact rfl)); (· first | exact ya)) | refine sG ?_ | (refine sK ?_ ?_ <;> intro hc <;> (try simp only [KL, sL, reduceCtorEq] at hc) <;> (try (have hT : True := hc; clear hT hc)) <;> (try (exfalso; omega))))
  refine zcall (fun i => i + 9) (ordD_fn _ hm) rfl rfl leh rfl rfl rfl rfl rfl rfl (fun r h' hR => ?_)
  obtain ⟨rfl, rfl⟩ := hR
  refine ⟨rfl, rfl, ?_⟩
  repeat' (first | refine sA ?_ | ((first | apply kM | apply kN); (iterate 3 (· exact rfl)); (· first | exact ya)) | refine sG ?_ | (refine sK ?_ ?_ <;> intro hc <;> (try simp only [KL, sL, reduceCtorEq] at hc) <;> (try (have hT : True := hc; clear hT hc)) <;> (try (exfalso; omega))))
  exact retq rfl rfl
end Go.Proofs.Ytfjoaeghnfkdlaa
namespace Go.Proofs.Ytfjoaeghnfkdlaa
set_option maxRecDepth 100000
open Go.RowKit
theorem set_appT {T : List Int} {x v : Int} {τ : Nat} (h : τ < T.length) : (T ++ [x]).set τ v = T.set τ v ++ [x] := by
  rw [List.set_append, if_pos h]
theorem getD_appT {T : List Int} {x : Int} {τ : Nat} (h : τ < T.length) : (T ++ [x]).getD τ default = T.getD τ default := by
  simp only [List.getD_eq_getElem?_getD, List.getElem?_append, if_pos h]
theorem giveL_more (most : Int) (x : Int) : ∀ (n : Nat) (T : List Int) (j : Job) (τ : Nat), T.length = τ + n →
    giveL most (n + 1) (T ++ [x]) j τ = if (giveL most n T j τ).2.steps < most ∧ x = -1 then ((giveL most n T j τ).1 ++ [j.task], stepJ most (giveL most n T j τ).2 (τ + n)) else ((giveL most n T j τ).1 ++ [x], (giveL most n T j τ).2)
  | 0, T, j, τ, h => by
    show (if j.steps < most then (if (T ++ [x]).getD τ default = -1 then ((T ++ [x]).set τ j.task, stepJ most j τ) else (T ++ [x], j)) else (T ++ [x], j)) = if j.steps < most ∧ x = -1 then (T ++ [j.task], stepJ most j (τ + 0)) else (T ++ [x], j)
    have e : (T ++ [x]).getD τ default = x := by
      simp only [List.getD_eq_getElem?_getD, List.getElem?_append]; rw [if_neg (by omega)]; simp [show τ - T.length = 0 by omega]
    rw [e]
    by_cases h1 : j.steps < most
    · rw [if_pos h1]
      by_cases h2 : x = -1
      · rw [if_pos h2, if_pos ⟨h1, h2⟩]
        congr 1
        rw [List.set_append, if_neg (by omega), show τ - T.length = 0 by omega]; rfl
      · rw [if_neg h2, if_neg (fun h => h2 h.2)]
    · rw [if_neg h1, if_neg (fun h => h1 h.1)]
  | n + 1, T, j, τ, h => by
    have hτ : τ < T.length := by omega
    have u1 : giveL most (n + 1 + 1) (T ++ [x]) j τ = if j.steps < most then (if (T ++ [x]).getD τ default = -1 then giveL most (n + 1) ((T ++ [x]).set τ j.task) (stepJ most j τ) (τ + 1) else giveL most (n + 1) (T ++ [x]) j (τ + 1)) else (T ++ [x], j) := rfl
    have u2 : giveL most (n + 1) T j τ = if j.steps < most then (if T.getD τ default = -1 then giveL most n (T.set τ j.task) (stepJ most j τ) (τ + 1) else giveL most n T j (τ + 1)) else (T, j) := rfl
    rw [u1, u2, getD_appT hτ]
    by_cases h1 : j.steps < most
    · rw [if_pos h1, if_pos h1]
      by_cases h2 : T.getD τ default = -1
      · rw [if_pos h2, if_pos h2, set_appT hτ, giveL_more most x n (T.set τ j.task) (stepJ most j τ) (τ + 1) (by rw [List.length_set]; omega)]
        rw [show τ + 1 + n = τ + (n + 1) by omega]
        rfl
      · rw [if_neg h2, if_neg h2, giveL_more most x n T j (τ + 1) (by omega)]
        rw [show τ + 1 + n = τ + (n + 1) by omega]
    · rw [if_neg h1, if_neg h1, if_neg (fun h => h1 h.1)]
theorem giveL_fin (most : Int) : ∀ (n : Nat) (T : List Int) (j : Job) (τ : Nat), j.steps < most → j.fin = -1 →
    ((giveL most n T j τ).2.steps < most ∧ (giveL most n T j τ).2.fin = -1) ∨ (¬ (giveL most n T j τ).2.steps < most ∧ (τ : Int) < (giveL most n T j τ).2.fin ∧ (giveL most n T j τ).2.fin ≤ τ + n)
  | 0, T, j, τ, h1, h2 => .inl ⟨h1, h2⟩
  | n + 1, T, j, τ, h1, h2 => by
    rw [giveL, if_pos h1]
    split
    · by_cases h3 : j.steps + 1 = most
      · refine .inr ?_
        have e : giveL most n (T.set τ j.task) (stepJ most j τ) (τ + 1) = (T.set τ j.task, stepJ most j τ) := by
          cases n with
          | zero => rfl
          | succ n => rw [giveL, if_neg (by simp only [stepJ]; omega)]
        rw [e]
        simp only [stepJ, if_pos h3]
        omega
      · rcases giveL_fin most n (T.set τ j.task) (stepJ most j τ) (τ + 1) (by simp only [stepJ]; omega) (by simp only [stepJ, if_neg h3]; exact h2) with h | h
        · exact .inl h
        · exact .inr ⟨h.1, by omega, by omega⟩
    · rcases giveL_fin most n T j (τ + 1) h1 h2 with h | h
      · exact .inl h
      · exact .inr ⟨h.1, by omega, by omega⟩
theorem giveL_task (most : Int) : ∀ (n : Nat) (T : List Int) (j : Job) (τ : Nat), (giveL most n T j τ).2.task = j.task ∧ (giveL most n T j τ).2.no = j.no
  | 0, T, j, τ => ⟨rfl, rfl⟩
  | n + 1, T, j, τ => by
    rw [giveL]
    split
    · split
      · exact giveL_task most n _ _ _
      · exact giveL_task most n _ _ _
    · exact ⟨rfl, rfl⟩
structure QS where
  no : Int
  free : Int
  T : List Int
  js : List (Nat × Job)
  cur : Option (Nat × Job)
  ov : List (Nat × Due)
def putQ (s : QS) (T : List Int) (k : Nat) (j : Job) : QS := if j.fin < 0 then { s with T := T, free := -1, cur := some (k, j) } else { s with T := T, free := j.fin, js := s.js ++ [(k, j)], cur := none }
def qS (l : List Task) (dm : List (List Int)) (i : Int) (s : QS) (p : Nat × Due) : QS :=
  if s.free < 0 ∨ p.2.at_ < s.free then { s with ov := s.ov ++ [p] }
  else
    let g := giveL (stepsF dm i s.no) (s.T.length - p.2.at_.toNat) s.T (newJ l i s.no p.2) p.2.at_.toNat
    putQ { s with no := s.no + 1 } g.1 p.1 g.2
def rS (l : List Task) (i : Int) (s : QS) (p : Nat × Due) : QS :=
  if s.free < 0 then { s with ov := s.ov ++ [p] } else { s with no := s.no + 1, free := -1, cur := some (p.1, newJ l i s.no p.2) }
def tickQ (dm : List (List Int)) (i : Int) (t : Nat) (x : Int) (s : QS) : QS :=
  match s.cur with
  | some (k, j) => if x = -1 then putQ { s with cur := none } (s.T ++ [i]) k (stepJ (stepsF dm i j.no) j t) else { s with T := s.T ++ [x] }
  | none => { s with T := s.T ++ [x] }
structure QI (dm : List (List Int)) (i : Int) (t : Nat) (s : QS) : Prop where
  len : s.T.length = t
  idle : s.cur = none → 0 ≤ s.free ∧ s.free ≤ t
  busy : ∀ k j, s.cur = some (k, j) → s.free = -1 ∧ j.fin = -1 ∧ j.steps < stepsF dm i j.no ∧ j.task = i
theorem stepsF_pos (dm : List (List Int)) (i no : Int) : 1 ≤ stepsF dm i no := by
  unfold stepsF; split <;> omega
theorem QI.qS {l : List Task} {dm : List (List Int)} {i : Int} {t : Nat} {s : QS} (h : QI dm i t s) {p : Nat × Due} (h0 : 0 ≤ p.2.at_) (h1 : p.2.at_ < t) : QI dm i t (qS l dm i s p) := by
  unfold Go.Proofs.Ytfjoaeghnfkdlaa.qS
  split
  · exact ⟨h.len, h.idle, h.busy⟩
  · rename_i hc
    have hf := giveL_fin (stepsF dm i s.no) (s.T.length - p.2.at_.toNat) s.T (newJ l i s.no p.2) p.2.at_.toNat (by have := stepsF_pos dm i s.no; simp only [newJ]; omega) rfl
    have hk := giveL_task (stepsF dm i s.no) (s.T.length - p.2.at_.toNat) s.T (newJ l i s.no p.2) p.2.at_.toNat
    have hl := giveL_len (stepsF dm i s.no) (s.T.length - p.2.at_.toNat) s.T (newJ l i s.no p.2) p.2.at_.toNat
    have hlen := h.len
    simp only
    generalize giveL (stepsF dm i s.no) (s.T.length - p.2.at_.toNat) s.T (newJ l i s.no p.2) p.2.at_.toNat = g at hf hk hl
    unfold putQ
    have hno : g.2.no = s.no := hk.2
    rcases hf with ⟨h2, h3⟩ | ⟨h2, h3, h4⟩
    · rw [if_pos (by omega)]
      refine ⟨by simp only; omega, fun e => (by cases e), fun k j e => ?_⟩
      cases e
      exact ⟨rfl, h3, by rw [hno]; exact h2, hk.1⟩
    · rw [if_neg (by omega)]
      exact ⟨by simp only; omega, fun _ => ⟨by simp only; omega, by simp only; omega⟩, fun k j e => by cases e⟩
theorem QI.rS {l : List Task} {dm : List (List Int)} {i : Int} {t : Nat} {s : QS} (h : QI dm i t s) (p : Nat × Due) : QI dm i t (rS l i s p) := by
  unfold Go.Proofs.Ytfjoaeghnfkdlaa.rS
  split
  · exact ⟨h.len, h.idle, h.busy⟩
  · refine ⟨h.len, fun e => (by cases e), fun k j e => ?_⟩
    cases e
    exact ⟨rfl, rfl, by have := stepsF_pos dm i s.no; simp only [newJ]; omega, rfl⟩
theorem QI.tick {dm : List (List Int)} {i : Int} {t : Nat} {s : QS} (h : QI dm i t s) (x : Int) : QI dm i (t + 1) (tickQ dm i t x s) := by
  obtain ⟨no, free, T, js, cur, ov⟩ := s
  have hlen := h.len
  simp only at hlen
  cases cur with
  | none =>
    have f := h.idle rfl
    simp only at f
    refine ⟨?_, fun _ => ⟨f.1, ?_⟩, fun k j e => (by cases e)⟩
    · simp only [tickQ, List.length_append, List.length_cons, List.length_nil]; omega
    · simp only [tickQ]; omega
  | some q =>
    obtain ⟨k, j⟩ := q
    obtain ⟨b1, b2, b3, b4⟩ := h.busy k j rfl
    simp only at b1
    unfold tickQ
    simp only
    split
    · unfold putQ
      by_cases h3 : j.steps + 1 = stepsF dm i j.no
      · rw [if_neg (by simp only [stepJ, if_pos h3]; omega)]
        refine ⟨by simp only [List.length_append, List.length_cons, List.length_nil]; omega, fun _ => ?_, fun k j e => (by cases e)⟩
        simp only [stepJ, if_pos h3]; omega
      · rw [if_pos (by simp only [stepJ, if_neg h3]; omega)]
        refine ⟨by simp only [List.length_append, List.length_cons, List.length_nil]; omega, fun e => (by cases e), fun k' j' e => ?_⟩
        cases e
        exact ⟨rfl, by simp only [stepJ, if_neg h3]; exact b2, by simp only [stepJ]; omega, b4⟩
    · exact ⟨by simp only [List.length_append, List.length_cons, List.length_nil]; omega, fun e => (by cases e), fun k' j' e => (by cases e; exact ⟨b1, b2, b3, b4⟩)⟩
theorem free_tick {dm : List (List Int)} {i : Int} {t : Nat} {s : QS} (h : QI dm i t s) {x : Int} {k : Nat} {j : Job} (hc : s.cur = some (k, j)) (a : Int) (ha : a ≤ t) : (tickQ dm i t x s).free < 0 ∨ a < (tickQ dm i t x s).free := by
  obtain ⟨b1, b2, b3, b4⟩ := h.busy k j hc
  unfold tickQ
  rw [hc]
  simp only
  split
  · unfold putQ
    split
    · exact .inl (show (-1 : Int) < 0 by decide)
    · rename_i h1
      refine .inr ?_
      by_cases h3 : j.steps + 1 = stepsF dm i j.no
      · simp only [stepJ, if_pos h3]; omega
      · simp only [stepJ, if_neg h3] at h1; omega
  · exact .inl (by simp only; omega)
theorem tick_ov (dm : List (List Int)) (i : Int) (t : Nat) (x : Int) (s : QS) (ov : List (Nat × Due)) : tickQ dm i t x { s with ov := ov } = { tickQ dm i t x s with ov := ov } := by
  obtain ⟨no, free, T, js, cur, ov0⟩ := s
  unfold tickQ putQ
  cases cur with
  | none => rfl
  | some q =>
    obtain ⟨k, j⟩ := q
    simp only
    split
    · split <;> rfl
    · rfl
theorem tick_ov' (dm : List (List Int)) (i : Int) (t : Nat) (x : Int) (s : QS) : (tickQ dm i t x s).ov = s.ov := by
  obtain ⟨no, free, T, js, cur, ov0⟩ := s
  unfold tickQ putQ
  cases cur with
  | none => rfl
  | some q =>
    obtain ⟨k, j⟩ := q
    simp only
    split
    · split <;> rfl
    · rfl
theorem tick_old {l : List Task} {dm : List (List Int)} {i : Int} {t : Nat} {s : QS} (h : QI dm i t s) (x : Int) {p : Nat × Due} (h0 : 0 ≤ p.2.at_) (h1 : p.2.at_ < t) : qS l dm i (tickQ dm i t x s) p = tickQ dm i t x (qS l dm i s p) := by
  cases hc : s.cur with
  | some q =>
    obtain ⟨k, j⟩ := q
    obtain ⟨b1, b2, b3, b4⟩ := h.busy k j hc
    have e : qS l dm i s p = { s with ov := s.ov ++ [p] } := by unfold qS; rw [if_pos (.inl (by omega))]
    have e2 := tick_ov' dm i t x s
    have e3 := free_tick h hc (x := x) p.2.at_ (by omega)
    have e4 := tick_ov dm i t x s (s.ov ++ [p])
    rw [e, e4]
    generalize tickQ dm i t x s = u at e2 e3 ⊢
    obtain ⟨u1, u2, u3, u4, u5, u6⟩ := u
    simp only at e2 e3 ⊢
    subst e2
    unfold qS
    rw [if_pos e3]
    try rfl
  | none =>
    obtain ⟨f1, f2⟩ := h.idle hc
    have hlen := h.len
    obtain ⟨no, free, T, js, cur, ov⟩ := s
    simp only at hc f1 f2 hlen
    subst hc
    by_cases hov : p.2.at_ < free
    · unfold qS tickQ
      simp only
      rw [if_pos (.inr hov), if_pos (.inr hov)]
    · have hj : (newJ l i no p.2).steps < stepsF dm i no := by have := stepsF_pos dm i no; simp only [newJ]; omega
      have hf := giveL_fin (stepsF dm i no) (T.length - p.2.at_.toNat) T (newJ l i no p.2) p.2.at_.toNat hj rfl
      have hk := giveL_task (stepsF dm i no) (T.length - p.2.at_.toNat) T (newJ l i no p.2) p.2.at_.toNat
      have hm := giveL_more (stepsF dm i no) x (T.length - p.2.at_.toNat) T (newJ l i no p.2) p.2.at_.toNat (by omega)
      have e1 : (T ++ [x]).length - p.2.at_.toNat = T.length - p.2.at_.toNat + 1 := by rw [List.length_append, List.length_cons, List.length_nil]; omega
      have e2 : p.2.at_.toNat + (T.length - p.2.at_.toNat) = t := by omega
      rw [e2] at hm
      have hcn : ¬ (free < 0 ∨ p.2.at_ < free) := by omega
      have L : qS l dm i (⟨no, free, T ++ [x], js, none, ov⟩ : QS) p = putQ ⟨no + 1, free, T ++ [x], js, none, ov⟩ (giveL (stepsF dm i no) ((T ++ [x]).length - p.2.at_.toNat) (T ++ [x]) (newJ l i no p.2) p.2.at_.toNat).1 p.1 (giveL (stepsF dm i no) ((T ++ [x]).length - p.2.at_.toNat) (T ++ [x]) (newJ l i no p.2) p.2.at_.toNat).2 := by
        unfold qS; rw [if_neg hcn]
      have R : qS l dm i (⟨no, free, T, js, none, ov⟩ : QS) p = putQ ⟨no + 1, free, T, js, none, ov⟩ (giveL (stepsF dm i no) (T.length - p.2.at_.toNat) T (newJ l i no p.2) p.2.at_.toNat).1 p.1 (giveL (stepsF dm i no) (T.length - p.2.at_.toNat) T (newJ l i no p.2) p.2.at_.toNat).2 := by
        unfold qS; rw [if_neg hcn]
      show qS l dm i (⟨no, free, T ++ [x], js, none, ov⟩ : QS) p = tickQ dm i t x (qS l dm i (⟨no, free, T, js, none, ov⟩ : QS) p)
      rw [L, R, e1, hm]
      clear L R
      generalize giveL (stepsF dm i no) (T.length - p.2.at_.toNat) T (newJ l i no p.2) p.2.at_.toNat = g at hf hk
      have hno : g.2.no = no := hk.2
      have htk : (newJ l i no p.2).task = i := rfl
      rcases hf with ⟨h2, h3⟩ | ⟨h2, h3, h4⟩
      · have e3 : putQ (⟨no + 1, free, T, js, none, ov⟩ : QS) g.1 p.1 g.2 = ⟨no + 1, -1, g.1, js, some (p.1, g.2), ov⟩ := by unfold putQ; rw [if_pos (by omega)]
        rw [e3]
        unfold tickQ
        by_cases hx : x = -1
        · rw [if_pos ⟨h2, hx⟩]
          simp only [hx, if_true, hno, htk]
          unfold putQ
          split <;> rfl
        · rw [if_neg (fun c => hx c.2)]
          simp only [if_neg hx]
          unfold putQ
          rw [if_pos (by omega)]
      · rw [if_neg (fun c => h2 c.1)]
        have e4 : ∀ T' : List Int, ∀ T'' : List Int, putQ (⟨no + 1, free, T', js, none, ov⟩ : QS) T'' p.1 g.2 = ⟨no + 1, g.2.fin, T'', js ++ [(p.1, g.2)], none, ov⟩ := fun T' T'' => by unfold putQ; rw [if_neg (by omega)]
        rw [e4, e4]
        rfl
theorem tick_new {l : List Task} {dm : List (List Int)} {i : Int} {t : Nat} {s : QS} (h : QI dm i t s) (x : Int) {p : Nat × Due} (h1 : p.2.at_ = t) : qS l dm i (tickQ dm i t x s) p = tickQ dm i t x (rS l i s p) := by
  cases hc : s.cur with
  | some q =>
    obtain ⟨k, j⟩ := q
    obtain ⟨b1, b2, b3, b4⟩ := h.busy k j hc
    have e : rS l i s p = { s with ov := s.ov ++ [p] } := by unfold rS; rw [if_pos (by omega)]
    have e2 := tick_ov' dm i t x s
    have e3 := free_tick h hc (x := x) p.2.at_ (by omega)
    have e4 := tick_ov dm i t x s (s.ov ++ [p])
    rw [e, e4]
    generalize tickQ dm i t x s = u at e2 e3 ⊢
    obtain ⟨u1, u2, u3, u4, u5, u6⟩ := u
    simp only at e2 e3 ⊢
    subst e2
    unfold qS
    rw [if_pos e3]
    try rfl
  | none =>
    obtain ⟨f1, f2⟩ := h.idle hc
    have hlen := h.len
    obtain ⟨no, free, T, js, cur, ov⟩ := s
    simp only at hc f1 f2 hlen
    subst hc
    have hj : (newJ l i no p.2).steps < stepsF dm i no := by have := stepsF_pos dm i no; simp only [newJ]; omega
    have hm := giveL_more (stepsF dm i no) x 0 T (newJ l i no p.2) t (by omega)
    have e1 : (T ++ [x]).length - p.2.at_.toNat = 1 := by rw [List.length_append, List.length_cons, List.length_nil]; omega
    have e2 : p.2.at_.toNat = t := by omega
    have htk : (newJ l i no p.2).task = i := rfl
    have hno : (newJ l i no p.2).no = no := rfl
    have hm' : giveL (stepsF dm i no) 1 (T ++ [x]) (newJ l i no p.2) t = if (newJ l i no p.2).steps < stepsF dm i no ∧ x = -1 then (T ++ [i], stepJ (stepsF dm i no) (newJ l i no p.2) t) else (T ++ [x], newJ l i no p.2) := hm
    have L : qS l dm i (⟨no, free, T ++ [x], js, none, ov⟩ : QS) p = putQ ⟨no + 1, free, T ++ [x], js, none, ov⟩ (giveL (stepsF dm i no) ((T ++ [x]).length - p.2.at_.toNat) (T ++ [x]) (newJ l i no p.2) p.2.at_.toNat).1 p.1 (giveL (stepsF dm i no) ((T ++ [x]).length - p.2.at_.toNat) (T ++ [x]) (newJ l i no p.2) p.2.at_.toNat).2 := by
      unfold qS; rw [if_neg (show ¬ (free < 0 ∨ p.2.at_ < free) by omega)]
    have R : rS l i (⟨no, free, T, js, none, ov⟩ : QS) p = ⟨no + 1, -1, T, js, some (p.1, newJ l i no p.2), ov⟩ := by
      unfold rS; rw [if_neg (show ¬ free < 0 by omega)]
    show qS l dm i (⟨no, free, T ++ [x], js, none, ov⟩ : QS) p = tickQ dm i t x (rS l i (⟨no, free, T, js, none, ov⟩ : QS) p)
    rw [L, R, e1, e2, hm']
    clear L R
    unfold tickQ
    by_cases hx : x = -1
    · rw [if_pos ⟨hj, hx⟩]
      simp only [hx, if_true, hno]
      unfold putQ
      split <;> rfl
    · rw [if_neg (fun c => hx c.2)]
      simp only [if_neg hx]
      unfold putQ
      rw [if_pos (show (newJ l i no p.2).fin < 0 from (by simp only [newJ]; decide))]
theorem plan_more {l : List Task} {dm : List (List Int)} {i : Int} {t : Nat} (x : Int) (new : List (Nat × Due)) (hn : ∀ p ∈ new, p.2.at_ = t) : ∀ (old : List (Nat × Due)) (s : QS), QI dm i t s → (∀ p ∈ old, 0 ≤ p.2.at_ ∧ p.2.at_ < t) →
    (old ++ new).foldl (qS l dm i) (tickQ dm i t x s) = tickQ dm i t x (new.foldl (rS l i) (old.foldl (qS l dm i) s))
  | [], s, h, _ => by
    rw [List.nil_append, List.foldl_nil]
    induction new generalizing s with
    | nil => rfl
    | cons p r ih =>
      rw [List.foldl_cons, List.foldl_cons, tick_new h x (hn p List.mem_cons_self)]
      exact ih (fun q hq => hn q (List.mem_cons_of_mem _ hq)) _ (h.rS p)
  | p :: r, s, h, ho => by
    have h0 := ho p List.mem_cons_self
    rw [List.cons_append, List.foldl_cons, List.foldl_cons, tick_old h x h0.1 h0.2]
    exact plan_more x new hn r _ (h.qS h0.1 h0.2) fun q hq => ho q (List.mem_cons_of_mem _ hq)
end Go.Proofs.Ytfjoaeghnfkdlaa
