/- The kernel's run, plain: what stays as it is from tick to tick. No condition. -/
import Derived.Test.YtfjoaeghnfkdlaaGreatDoorB25
import Derived.Test.YtfjoaeghnfkdlaaGreatDoorB18
import Derived.Test.YtfjoaeghnfkdlaaGreatDoorB20
import Derived.Test.YtfjoaeghnfkdlaaGreatDoorB16
set_option linter.unusedSimpArgs false
set_option linter.unusedVariables false
set_option maxHeartbeats 1000000
set_option maxRecDepth 100000
namespace Go.Proofs.YtfjoaeghnfkdlaaGreatDoor
open Go.RowKit
def JR (B : Bk) : Prop := ∀ j ∈ B.all, 0 <= j.release ∧ j.release <= 1000000
theorem JR.set {B : Bk} (h : JR B) (i : Int) (j : Job) (hj : 0 <= j.release ∧ j.release <= 1000000) : JR (yz B i j) := fun x hx => by
 rcases List.mem_or_eq_of_mem_set hx with hx | rfl
 ·exact h x hx
 ·exact hj
theorem JR.at_ {B : Bk} (h : JR B) (i : Int) : 0 <= (jH B i).release ∧ (jH B i).release <= 1000000 := by
 unfold jH
 by_cases hp : qh B i < B.all.length
 ·exact h _ (qN hp)
 ·rw [List.getD_eq_getElem?_getD, List.getElem?_eq_none (by omega)]; exact ⟨by decide, by decide⟩
theorem JR.step {B : Bk} (h : JR B) (i t : Int) : JR (jc B i t) := by
 unfold jc; split
 ·exact h.set i _ (h.at_ i)
 ·exact h
theorem JR.fin {B : Bk} (h : JR B) (i t : Int) : JR (vk B i t) := by
 unfold vk; split
 ·exact fun x hx => h.set i _ (show 0 <= (vQ t (jH B i)).release ∧ _ from h.at_ i) x hx
 ·exact h
theorem JR.late {B : Bk} (h : JR B) (t : Int) (ks : List Int) : ∀ k, JR (jN B t ks k).2
 | 0 => h
 | k + 1 => by
  have ih := JR.late h t ks k
  unfold jN
  simp only
  split
  ·exact ih.set _ _ (show 0 <= (vZ _).release ∧ _ from ih.at_ _)
  ·exact ih
theorem JR.rel {B : Bk} (h : JR B) (l : List Task) (i t : Int) (ht : 0 <= t ∧ t <= 1000000) : JR (jv l B i t) := by
 unfold jv; split
 ·exact h
 ·split
  ·exact h
  ·intro x hx
   rcases List.mem_append.1 hx with hx | hx
   ·exact h x hx
   ·rw [List.mem_singleton] at hx; subst hx
    simp only [wK, inT]; omega
structure KI (l : List Task) (n : Nat) (K : Kn) : Prop where
 good : GoodB l n K.B
 now_ : 0 <= K.now ∧ K.now <= 1000000
 slen : K.S.length <= l.length
 last : ∀ i v, jw K.last i = some v -> 0 <= v ∧ v <= K.now
 due : ∀ d ∈ K.S, 0 <= d.task ∧ d.task < l.length ∧ 0 <= d.at_ ∧ d.at_ <= 2199023255552
 jr : JR K.B
theorem KI.mono {l : List Task} {n m : Nat} {K : Kn} (h : KI l n K) (hm : n <= m) : KI l m K := by
 obtain ⟨d, rfl⟩ := Nat.exists_eq_add_of_le hm
 refine ⟨?_, h.now_, h.slen, h.last, h.due, h.jr⟩
 clear hm
 induction d with
 | zero => exact h.good
 | succ d ih => exact ih.mono
theorem KI.new {l : List Task} (h : okK l = true) : KI l 0 (z8 l) := by
 rw [okK, Bool.and_eq_true, decide_eq_true_eq] at h
 refine ⟨VB (by omega), ⟨Int.le_refl _, (by show (0 : Int) <= 1000000; decide)⟩, Qk l _, fun i v hv => (by cases hv), fun d hd => ?_, fun j hj => (by cases hj)⟩
 obtain ⟨i, hi, rfl⟩ := List.mem_map.1 hd
 obtain ⟨h1, h2⟩ := List.mem_filter.1 hi
 rw [List.mem_range] at h1
 rw [decide_eq_true_eq] at h2
 refine ⟨(by simp only; omega), (by simp only; omega), h2, ?_⟩
 have hz : qs (l.getD i default) 0 <= 1099511627776 := by
  unfold qs
  split
  ·simp only
   split
   ·split <;> omega
   ·split <;> omega
  ·omega
 simp only; omega
theorem j1Q (room : Int) (S : List Due) (d : Due) {m : Nat} (hr : room <= m) (h : S.length <= m) : (wg room S d).length <= m := by
 unfold wg; split
 ·rename_i h0
  have : (S.length : Int) < room := by
   unfold xS at h0
   split at h0
   ·omega
   ·split at h0
    ·omega
    ·omega
  simp; omega
 ·exact h
theorem j1D {room : Int} {S : List Due} {d x : Due} (h : x ∈ wg room S d) : x ∈ S ∨ x = d := by
 unfold wg at h; split at h
 ·simpa using h
 ·exact .inl h
theorem zT {l : List Task} (h : okK l = true) (i : Int) (h0 : 0 <= i) (h1 : i < l.length) : 1 <= (l.getD i.toNat default).period ∧ (l.getD i.toNat default).period <= 1048576 := by
 rw [okK, Bool.and_eq_true] at h
 have := qL (List.all_eq_true.1 h.2 (l.getD i.toNat default) (qN (by omega)))
 omega
theorem KI.dues {l : List Task} (hok : okK l = true) {room now : Int} (hr : room = l.length) : ∀ (D : List Due) {n : Nat} {p : Kn × List Event}, KI l n p.1 -> p.1.now = now -> (∀ d ∈ D, 0 <= d.task ∧ d.task < l.length ∧ 0 <= d.at_ ∧ d.at_ <= 1099511627776) ->
  KI l (n + D.length) (D.foldl (xw l room) p).1 ∧ (D.foldl (xw l room) p).1.now = now
 | [], n, p, h, hn, _ => ⟨h, hn⟩
 | d :: r, n, p, h, hn, hd => by
  have hd0 := hd d List.mem_cons_self
  have hp := zT hok d.task hd0.1 hd0.2.1
  rw [List.foldl_cons, List.length_cons, show n + (r.length + 1) = n + 1 + r.length by omega]
  refine KI.dues hok hr r (p := xw l room p d) ⟨h.good.rel _ _, h.now_, j1Q _ _ _ (by omega) h.slen, h.last, fun x hx => ?_, h.jr.rel _ _ _ h.now_⟩ hn fun x hx => hd x (List.mem_cons_of_mem _ hx)
  rcases j1D hx with hx | rfl
  ·exact h.due x hx
  ·simp only [yb]; omega
theorem KI.asks {l : List Task} {now : Int} : ∀ (D : List Int) {n : Nat} {p : Kn × List Event}, KI l n p.1 -> p.1.now = now -> KI l (n + D.length) (D.foldl (wU l) p).1 ∧ (D.foldl (wU l) p).1.now = now
 | [], n, p, h, hn => ⟨h, hn⟩
 | i :: r, n, p, h, hn => by
  rw [List.foldl_cons, List.length_cons, show n + (r.length + 1) = n + 1 + r.length by omega]
  have hp : ∀ j v, jw (vd l p.1 i).last j = some v -> 0 <= v ∧ v <= p.1.now := fun j v hv => by
   unfold vd at hv
   simp only at hv
   split at hv
   ·rw [wO] at hv
    split at hv
    ·cases hv; exact ⟨h.now_.1, Int.le_refl _⟩
    ·exact h.last j v hv
   ·exact h.last j v hv
  unfold wU
  split
  ·exact KI.asks r (p := (zY l (vd l p.1 i) i, p.2 ++ [yq l (vd l p.1 i) i])) ⟨h.good.rel _ _, h.now_, h.slen, hp, h.due, h.jr.rel _ _ _ h.now_⟩ hn
  ·exact KI.asks r (p := (vd l p.1 i, p.2 ++ [⟨p.1.now, 2, i, 0, 0⟩])) ⟨h.good.mono, h.now_, h.slen, hp, h.due, h.jr⟩ hn
theorem j2M {α : Type} {p : α -> Bool} {x : α} : ∀ {l : List α}, x ∈ l.takeWhile p -> p x = true
 | [], h => by cases h
 | a :: l, h => by
  rw [List.takeWhile_cons] at h
  split at h
  ·rcases List.mem_cons.1 h with rfl | h
   ·assumption
   ·exact j2M h
  ·cases h
theorem j2o {t : Int} {S : List Due} {d : Due} (h : d ∈ wY t (jO S)) : d ∈ S ∧ d.at_ <= t := by
 refine ⟨(qK S).mem_iff.1 ((List.takeWhile_sublist _).subset h), ?_⟩
 have := j2M (p := fun d : Due => decide (d.at_ <= t)) h
 simpa using this
theorem j1T {t : Int} {S : List Due} {d : Due} (h : d ∈ vC t (jO S)) : d ∈ S := (qK S).mem_iff.1 ((List.dropWhile_sublist _).subset h)
theorem KI.late {l : List Task} {n : Nat} {K : Kn} (h : KI l n K) : KI l n ({ (yd K).1 with S := vC K.now (jO K.S) } : Kn) :=
 ⟨(h.good.late _ _ _).1, h.now_, Nat.le_trans (List.dropWhile_sublist _).length_le (by rw [wC]; exact h.slen), h.last, fun d hd => h.due d (j1T hd), h.jr.late _ _ _⟩
theorem KI.open_ {l : List Task} (hok : okK l = true) {n : Nat} {K : Kn} {room : Int} (hr : room = l.length) (h : KI l n K) (asks : List Int) : KI l (n + l.length + asks.length) (vT l room K asks).1 ∧ (vT l room K asks).1.now = K.now := by
 unfold vT
 split
 ·exact ⟨h.mono (by omega), rfl⟩
 ·have h1 := KI.dues hok hr (wY K.now (jO K.S)) (p := ({ (yd K).1 with S := vC K.now (jO K.S) }, (yd K).2)) h.late rfl (fun d hd => by
   obtain ⟨h2, h3⟩ := j2o hd
   have := h.due d h2
   have := h.now_
   omega)
  obtain ⟨h2, h3⟩ := KI.asks asks h1.1 h1.2
  refine ⟨h2.mono ?_, h3⟩
  have : (wY K.now (jO K.S)).length <= K.S.length := Nat.le_trans (List.takeWhile_sublist _).length_le (by rw [wC]; exact Nat.le_refl _)
  have := h.slen
  omega
theorem KI.close {l : List Task} {n : Nat} {K : Kn} (h : KI l n K) (hn : K.now < 1000000) (ended : Bool) : KI l (n + 2) (vY l K ended) := by
 unfold vY
 split
 ·have hB : GoodB l (n + 2) (if 0 <= qE l K.B then x9 K.B K.now (qE l K.B) ended else K.B) ∧ JR (if 0 <= qE l K.B then x9 K.B K.now (qE l K.B) ended else K.B) := by
   split
   ·unfold x9; split
    ·exact ⟨(h.good.step _ _).fin _ _, (h.jr.step _ _).fin _ _⟩
    ·exact ⟨(h.good.step _ _).mono, h.jr.step _ _⟩
   ·exact ⟨h.good.mono.mono, h.jr⟩
  exact ⟨hB.1, ⟨(by have := h.now_.1; simp only; omega), (by simp only; omega)⟩, h.slen, fun i v hv => (by have := h.last i v hv; simp only; omega), h.due, hB.2⟩
 ·exact h.mono (by omega)
/-! Who is asked for when. -/
def jY (asks : List Due) (t : Int) : List Int := (asks.filter fun d => decide (d.at_ = t)).map Due.task
def yF (m : List (Int × List Int)) (d : Due) : List (Int × List Int) := jq m d.at_ ((jw m d.at_).getD [] ++ [d.task])
theorem j0W (t : Int) : ∀ (asks : List Due) (m : List (Int × List Int)), (jw (asks.foldl yF m) t).getD [] = (jw m t).getD [] ++ jY asks t
 | [], m => by simp [jY]
 | d :: r, m => by
  rw [List.foldl_cons, j0W t r, yF, wO]
  by_cases h : t = d.at_
  ·subst h
   simp [jY, List.filter_cons]
  ·rw [if_neg h]
   simp [jY, List.filter_cons, show ¬ d.at_ = t from fun e => h e.symm]
def Xy (asks : List Due) (t : Int) : Nat := (asks.filter fun d => decide (0 <= d.at_ ∧ d.at_ < t)).length
theorem zS (t : Int) (ht : 0 <= t) : ∀ (asks : List Due), Xy asks (t + 1) = Xy asks t + (jY asks t).length
 | [] => rfl
 | d :: r => by
  have ih := zS t ht r
  unfold Xy jY at *
  rw [List.filter_cons, List.filter_cons, List.filter_cons]
  rw [List.length_map] at ih ⊢
  by_cases h1 : d.at_ = t
  ·rw [if_pos (by simp; omega), if_neg (by simp; omega), if_pos (by simp [h1])]
   simp only [List.length_cons]; omega
  ·by_cases h2 : 0 <= d.at_ ∧ d.at_ < t
   ·rw [if_pos (by simp; omega), if_pos (by simp; omega), if_neg (by simp [h1])]
    simp only [List.length_cons]; omega
   ·rw [if_neg (by simp; omega), if_neg (by simp; omega), if_neg (by simp [h1])]
    exact ih
theorem Xx (asks : List Due) (t : Int) : Xy asks t <= asks.length := List.length_filter_le _ _
/-! A run. -/
def VU (l : List Task) (K : Kn) : Int := if K.opn then max (qE l K.B) 0 else 0
def wu (B : Bk) (i : Int) : Job := if jm B.act i then jH B i else default
def wv (dm : List (List Int)) (i no : Int) : Int := if (dm.length : Int) <= i ∨ ((dm.getD i.toNat default).length : Int) <= no then 1 else max 1 ((dm.getD i.toNat default).getD no.toNat default)
def YY (l : List Task) (dm : List (List Int)) (K : Kn) : Bool := decide (wv dm (VU l K) (wu K.B (VU l K)).no <= (wu K.B (VU l K)).steps + 1)
def Yj (l : List Task) (asks : List Due) (dm : List (List Int)) (p : Kn × List Event) (t : Nat) : Kn × List Event :=
 let o := vT l l.length p.1 (jY asks t)
 (vY l o.1 (YY l dm o.1), p.2 ++ o.2 ++ zE l o.1 (wu o.1.B (VU l o.1)).steps (YY l dm o.1))
def xN (l : List Task) (asks : List Due) (dm : List (List Int)) (n : Nat) : Kn × List Event := (List.range n).foldl (Yj l asks dm) (z8 l, [])
theorem Jt (l : List Task) (asks : List Due) (dm : List (List Int)) (n : Nat) : xN l asks dm (n + 1) = Yj l asks dm (xN l asks dm n) n := by
 rw [xN, List.range_succ, List.foldl_append]; rfl
theorem VK {l : List Task} {room : Int} {K : Kn} {asks : List Int} : (vT l room K asks).1.opn = true := by
 have h1 : ∀ (D : List Due) (p : Kn × List Event), p.1.opn = true -> (D.foldl (xw l room) p).1.opn = true := by
  intro D
  induction D with
  | nil => intro p h; exact h
  | cons d D ih => intro p h; exact ih _ h
 have h2 : ∀ (D : List Int) (p : Kn × List Event), p.1.opn = true -> (D.foldl (wU l) p).1.opn = true := by
  intro D
  induction D with
  | nil => intro p h; exact h
  | cons d D ih =>
   intro p h
   refine ih _ ?_
   unfold wU; split <;> exact h
 unfold vT; split
 ·assumption
 ·exact h2 _ _ (h1 _ _ rfl)
theorem YH {l : List Task} {room : Int} {K : Kn} {asks : List Int} (hs : K.S.length <= 8) : (vT l room K asks).2.length <= 72 + asks.length := by
 unfold vT; split
 ·simp
 ·rw [Qh]
  unfold j6R
  rw [Jb]
  show (yd K).2.length + _ + _ <= _
  have h1 : (yd K).2.length <= 64 := by
   show (List.map _ _).length <= 64
   rw [List.length_map]
   have h3 : ∀ k, (jN K.B K.now (jV K.B.act) k).1.length <= k := by
    intro k
    induction k with
    | zero => exact Nat.le_refl _
    | succ k ih =>
     unfold jN
     simp only
     split
     ·simp only [List.length_append, List.length_cons, List.length_nil]; omega
     ·omega
   exact Nat.le_trans (h3 _) (J9 _)
  have h2 : (wY K.now (jO K.S)).length <= K.S.length := Nat.le_trans (List.takeWhile_sublist _).length_le (by rw [wC]; exact Nat.le_refl _)
  omega
theorem X0 {l : List Task} {K : Kn} {a : Int} {e : Bool} : (zE l K a e).length <= 2 := by
 unfold zE; split
 ·split
  ·unfold Vm; split <;> simp
  ·simp
 ·simp
structure RunI (l : List Task) (asks : List Due) (t : Nat) (p : Kn × List Event) : Prop where
 ki : KI l (10 * t + Xy asks t) p.1
 now_ : p.1.now = t
 opn : p.1.opn = false
 len : p.2.length <= 80 * t + Xy asks t
theorem XR {l : List Task} (hok : okK l = true) (asks : List Due) (dm : List (List Int)) : ∀ t : Nat, t <= 100000 -> RunI l asks t (xN l asks dm t)
 | 0, _ => ⟨(KI.new hok).mono (by omega), rfl, rfl, Nat.zero_le _⟩
 | t + 1, ht => by
  have ih := XR hok asks dm t (by omega)
  rw [Jt]
  have h8 : l.length <= 8 := by rw [okK, Bool.and_eq_true, decide_eq_true_eq] at hok; omega
  have ho := KI.open_ hok (room := l.length) rfl ih.ki (jY asks t)
  have hn := zS t (by omega) asks
  have hc := KI.close ho.1 (by rw [ho.2, ih.now_]; omega) (YY l dm (vT l l.length (xN l asks dm t).1 (jY asks t)).1)
  have hop : (vT l l.length (xN l asks dm t).1 (jY asks t)).1.opn = true := VK
  refine ⟨hc.mono (by push_cast; omega), ?_, ?_, ?_⟩
  ·show (vY l _ _).now = _
   unfold vY
   rw [if_pos hop]
   simp only [ho.2, ih.now_]; omega
  ·show (vY l _ _).opn = _
   unfold vY
   rw [if_pos hop]
  ·have h1 := ih.len
   have h2 := YH (l := l) (room := l.length) (K := (xN l asks dm t).1) (asks := jY asks t) (Nat.le_trans ih.ki.slen h8)
   have h3 := X0 (l := l) (K := (vT l l.length (xN l asks dm t).1 (jY asks t)).1) (a := (wu (vT l l.length (xN l asks dm t).1 (jY asks t)).1.B (VU l (vT l l.length (xN l asks dm t).1 (jY asks t)).1)).steps) (e := YY l dm (vT l l.length (xN l asks dm t).1 (jY asks t)).1)
   unfold Yj
   simp only [List.length_append]
   push_cast
   omega
abbrev foA (i : Nat) (F : Fo) : Nat × Chunk := (i, .sem (foC 43 3 F))
abbrev rkO (l : List Task) (B : Bk) (F : Fo) (now : Int) (opn : Bool) : j8 :=
 [(110, .blk 50 [.lst 7 (l.map jJ), .ptr 111 0, .part 118 0, .int .i64 now, .bool opn]), (111, .blk 53 [.lst 7 (l.map jJ), .own 115, .own 116]),
  (115, .row 71 8 (B.all.map vX)), (116, .row 60 2 (B.overs.map jD)), foA 118 F]
abbrev j6t : j8 := [dmy 110, dmy 111, dmy 115, dmy 116, dmy 118]
def atB (t : Task) (now : Int) : Bool := jt t && decide (t.kind = 1 ∧ t.offset <= now ∧ now <= 1099511627776 ∧ (now - t.offset) % t.period = 0)
abbrev nrX (l : List Task) (c : AV) (k : Nat) : j8 :=
 [(118, .row 43 1 ((List.replicate k ()).map fun _ => [AV.nils])), (110, .blk 50 [.lst 7 (l.map jJ), .ptr 111 0, c, .int .i64 0, .bool false]), (111, .blk 53 [.lst 7 (l.map jJ), .nils, .nils])]
set_option maxHeartbeats 4000000 in
theorem j1M (l : List Task) (hl : l.length <= 1000000) : FnH Tryz.prog 9 [.lst 7 (l.map jJ)] j6t (fun r h' => (okK l = true -> r = .ptr 110 0 ∧ h' = rkO l xg (foN (List.replicate l.length [])) 0 false) ∧ (okK l = false -> r = .nilp ∧ h' = [])) := by
 refine FnH.drop' (qo Tryz.func9 (j5 (by kernel_rfl)) rfl rfl ?_)
 refine wle (s' := [(0, .lst 7 (l.map jJ))]) (h' := []) les (LeH.nil _) ?_
 by_cases h1 : 1 <= l.length ∧ l.length <= 8
 ·have hok : okK l = l.all jt := by rw [okK, decide_eq_true h1, Bool.true_and]
  rw [hok]
  repeat' (first | refine sA ?_ | (show O _ _ _ _ _ _ _; first | (show O _ _ _ _ (⟨_, .box _ _, _, _, _, _⟩ :: _) _ _; first | refine wx (id := 111) rfl rfl rfl rfl rfl rfl rfl rfl ?_ | refine wx (id := 110) rfl rfl rfl rfl rfl rfl rfl rfl ?_)) | ((first | apply kM | apply kN); (iterate 3 (· exact rfl)); (· first | exact yab)) | refine sG ?_ | refine sQ ?_ ?_ | intro hc | exact trivial)
  all_goals first | (exfalso; omega) | skip
  refine wle (s' := [(3, .ptr 110 0), (20, .lst 7 (l.map jJ)), (21, .int .i64 l.length), (22, .int .i64 0)]) (h' := [(110, .blk 50 [.lst 7 (l.map jJ), .ptr 111 0, .nils, .int .i64 0, .bool false]), (111, .blk 53 [.lst 7 (l.map jJ), .nils, .nils])]) les leh ?_
  refine va (w8 (fun _ : Unit => [AV.nils]) (b := 110) 2 rfl rfl 118 43 1 (by omega) rfl) ?_
  refine jk (fun k : Nat => ([(3, .ptr 110 0), (20, .lst 7 (l.map jJ)), (21, .int .i64 l.length), (22, .int .i64 k)], nrX l (.own 118) k)) (fun k => k <= l.length ∧ ∀ j, j < k -> jt (l.getD j default) = true) (fun k => l.length - k) 0 ⟨Nat.zero_le _, fun j hj => by omega⟩ les (show LeH _ (nrX l (.own 118) 0) from leh) (fun k hk => ?_)
  obtain ⟨hk, hp⟩ := hk
  rcases Nat.lt_or_eq_of_le hk with hkk | hkk
  ·have c1 := j0z (l.getD k default)
   cases hpk : jt (l.getD k default) <;> rw [hpk] at c1
   ·have hno : l.all jt = false := by
     rw [List.all_eq_false]
     exact ⟨_, qN hkk, by rw [hpk]; decide⟩
    repeat' (first | refine sA ?_ | (show O _ _ _ _ _ _ _; first | refine jR (id := 12) rfl rfl rfl rfl rfl rfl rfl ?_) | refine sY ?_ | refine sC (c1) ?_ | refine sG ?_ | refine sQ ?_ ?_ | intro hc | exact trivial)
    all_goals first | (exfalso; omega) | skip
    exact jK rfl ⟨[], LeH.nil _, fun h => (by rw [hno] at h; cases h), fun _ => ⟨rfl, rfl⟩⟩
   ·have hnx : ∀ j, j < k + 1 -> jt (l.getD j default) = true := fun j hj => by
     rcases Nat.lt_or_eq_of_le (Nat.le_of_lt_succ hj) with q | q
     ·exact hp j q
     ·subst q; exact hpk
    have hrl : (List.replicate k ()).length <= 8 := by rw [List.length_replicate]; omega
    have hrn : (List.replicate (k + 1) ()) = List.replicate k () ++ [()] := by rw [List.replicate_succ']
    repeat' (first | refine sA ?_ | (show O _ _ _ _ _ _ _; first | refine jR (id := 12) rfl rfl rfl rfl rfl rfl rfl ?_) | refine sY ?_ | refine sC (c1) ?_ | refine sG ?_ | refine sQ ?_ ?_ | intro hc | exact trivial)
    all_goals first | (exfalso; omega) | skip
    refine jh (yL [false, false, true] (id := 110) rfl) ?_
    refine ole (h' := nrX l .undef k) (LeS.refl _) leh ?_
    (refine v7 (id := 118) (ys := [()]) (by_ := 24) rfl rfl rfl rfl rfl rfl rfl rfl rfl rfl (fun _ _ => rfl) ?_ ?_ rfl rfl rfl rfl rfl ?_; (· (first | omega | ((try simp only [List.length_cons, List.length_nil, List.length_append, List.length_map]) <;> omega))); (· (first | omega | ((try simp only [List.length_cons, List.length_nil, List.length_append, List.length_map]) <;> omega))))
    repeat' (first | refine sT ?_ | refine sQ ?_ ?_ | intro hc | exact trivial)
    exact ⟨k + 1, ⟨by omega, hnx⟩, by omega, les, (by show LeH _ (nrX l (.own 118) (k + 1)); rw [show nrX l (.own 118) (k + 1) = (118, .row 43 1 ((List.replicate k () ++ [()]).map fun _ => [AV.nils])) :: (nrX l (.own 118) k).tail from by rw [<- hrn]; rfl]; exact leh)⟩
  ·subst hkk
   have hyes : l.all jt = true := by
    rw [List.all_eq_true]
    intro x hx
    obtain ⟨j, hj, rfl⟩ := List.mem_iff_getElem.1 hx
    have := hp j hj
    rwa [List.getD_eq_getElem?_getD, List.getElem?_eq_getElem hj, Option.getD_some] at this
   repeat' (first | refine sT ?_ | refine sQ ?_ ?_ | intro hc | exact trivial)
   all_goals first | (exfalso; omega) | skip
   refine ww (fun _ => w8 vX (b := 111) 1 rfl rfl 115 71 8 (by omega) rfl) ?_
   refine ww (fun _ => w8 jD (b := 111) 2 rfl rfl 116 60 2 (by omega) rfl) ?_
   refine ww (fun _ => j1s (e := 3) (N := 118) (b := 110) (q := 2) (k := l.length) (by simp) rfl rfl rfl rfl rfl rfl rfl) ?_
   exact jK rfl ⟨rkO l xg (foN (List.replicate l.length [])) 0 false, leh, fun _ => ⟨rfl, rfl⟩, fun h => (by rw [hyes] at h; cases h)⟩
 ·have hno : okK l = false := by rw [okK, decide_eq_false h1, Bool.false_and]
  by_cases h0 : l.length = 0
  ·repeat' (first | refine sT ?_ | refine sQ ?_ ?_ | intro hc | exact trivial)
   all_goals first | (exfalso; omega) | exact jK rfl ⟨[], LeH.nil _, fun h => (by rw [hno] at h; cases h), fun _ => ⟨rfl, rfl⟩⟩
  ·repeat' (first | refine sT ?_ | refine sQ ?_ ?_ | intro hc | exact trivial)
   all_goals first | (exfalso; omega) | exact jK rfl ⟨[], LeH.nil _, fun h => (by rw [hno] at h; cases h), fun _ => ⟨rfl, rfl⟩⟩
/-! A release. -/
/-! Who is picked. -/
def ahK (l : List Task) (a b : Int) : Bool := decide (0 <= a ∧ a < l.length ∧ 0 <= b ∧ b < l.length) && vW (ze l) a b
def je (l : List Task) (B : Bk) (k : Nat) : Int := (List.range k).foldl (fun (b : Int) (i : Nat) => if jm B.act (i : Int) && (decide (b < 0) || ahK l (i : Int) b) then (i : Int) else b) (-1)
theorem zq (l : List Task) (B : Bk) (k : Nat) : je l B (k + 1) = if jm B.act k && (decide (je l B k < 0) || ahK l k (je l B k)) then (k : Int) else je l B k := by
 rw [je, List.range_succ, List.foldl_append]; rfl
/-! A map of lists, as it is filled. -/
abbrev j4v (rows : List (Nat × List Int)) : Int × Nat -> Int × List Int -> Prop := fun p q => p.1 = q.1 ∧ (p.2, q.2) ∈ rows
structure TabI (F : Fo) (at_ : List (Int × Nat)) (m : List (Int × List Int)) : Prop where
 cont : F.cont = .tab at_
 rel : L2 (j4v F.rows) at_ m
 nd : (at_.map Prod.snd).Nodup
 lt : ∀ p ∈ at_, p.2 < F.k
theorem J4 {α : Type} {key : Int} {i : α} : ∀ {m : List (Int × α)}, jw m key = some i -> (key, i) ∈ m
 | [], h => by cases h
 | (k', v) :: m, h => by
  unfold jw at h
  split at h
  ·rename_i e; subst e; cases h; exact List.mem_cons_self
  ·exact List.mem_cons_of_mem _ (J4 h)
theorem j05 {rows : List (Nat × List Int)} {key : Int} : ∀ {at_ : List (Int × Nat)} {m : List (Int × List Int)}, L2 (j4v rows) at_ m ->
  (jw at_ key = none ∧ jw m key = none) ∨ ∃ i l, jw at_ key = some i ∧ jw m key = some l ∧ (i, l) ∈ rows
 | [], m, h => by rw [L2.nil_iff.1 h]; exact .inl ⟨rfl, rfl⟩
 | (k', i) :: at_, m, h => by
  obtain ⟨⟨k2, l⟩, m', rfl, h1, h2⟩ := h.cons_inv
  obtain ⟨e1, h1⟩ := h1
  simp only at e1 h1
  subst e1
  unfold jw
  by_cases hk : k' = key
  ·rw [if_pos hk, if_pos hk]; exact .inr ⟨i, l, rfl, rfl, h1⟩
  ·rw [if_neg hk, if_neg hk]; exact j05 h2
theorem j04 {rows rows' : List (Nat × List Int)} {key : Int} {i i' : Nat} {l' : List Int} (hR : ∀ q ∈ rows, q.1 ≠ i -> q ∈ rows') (hn : (i', l') ∈ rows') : ∀ {at_ : List (Int × Nat)} {m : List (Int × List Int)}, L2 (j4v rows) at_ m -> (at_.map Prod.snd).Nodup -> jw at_ key = some i ->
  L2 (j4v rows') (jq at_ key i') (jq m key l')
 | [], m, h, _, hg => by cases hg
 | (k', j) :: at_, m, h, hnd, hg => by
  obtain ⟨⟨k2, l⟩, m', rfl, h1, h2⟩ := h.cons_inv
  obtain ⟨e1, h1⟩ := h1
  simp only at e1 h1
  subst e1
  rw [List.map_cons, List.nodup_cons] at hnd
  unfold jw at hg
  unfold jq
  by_cases hk : k' = key
  ·rw [if_pos hk] at hg
   cases hg
   rw [if_pos hk, if_pos hk]
   refine L2.cons ⟨rfl, hn⟩ ⟨h2.1, fun a x y hx hy => ?_⟩
   obtain ⟨q1, q2⟩ := h2.2 a x y hx hy
   refine ⟨q1, hR _ q2 fun e => hnd.1 ?_⟩
   exact List.mem_map.2 ⟨x, List.mem_of_getElem? hx, e⟩
  ·rw [if_neg hk] at hg
   rw [if_neg hk, if_neg hk]
   refine L2.cons ⟨rfl, hR _ h1 fun e => hnd.1 ?_⟩ (j04 hR hn h2 hnd.2 hg)
   have := List.mem_map_of_mem (f := Prod.snd) (J4 hg)
   simp only at e this
   rw [e]; exact this
theorem Zu {key : Int} {k : Nat} : ∀ {at_ : List (Int × Nat)}, (at_.map Prod.snd).Nodup -> (∀ p ∈ at_, p.2 < k) -> ((jq at_ key k).map Prod.snd).Nodup ∧ (∀ p ∈ jq at_ key k, p.2 < k + 1) ∧ ∀ p ∈ jq at_ key k, p.2 = k ∨ p ∈ at_
 | [], _, _ => ⟨by simp [jq], by simp [jq], by simp [jq]⟩
 | (k', j) :: at_, hnd, hlt => by
  rw [List.map_cons, List.nodup_cons] at hnd
  have hj := hlt _ List.mem_cons_self
  have hr : ∀ p ∈ at_, p.2 < k := fun p hp => hlt p (List.mem_cons_of_mem _ hp)
  unfold jq
  by_cases hk : k' = key
  ·rw [if_pos hk]
   refine ⟨?_, fun p hp => ?_, fun p hp => ?_⟩
   ·rw [List.map_cons, List.nodup_cons]
    refine ⟨fun h => ?_, hnd.2⟩
    obtain ⟨p, hp, e⟩ := List.mem_map.1 h
    have := hr p hp
    simp only at e; omega
   ·rcases List.mem_cons.1 hp with rfl | hp
    ·exact Nat.lt_succ_self _
    ·have := hr p hp; omega
   ·rcases List.mem_cons.1 hp with rfl | hp
    ·exact .inl rfl
    ·exact .inr (List.mem_cons_of_mem _ hp)
  ·rw [if_neg hk]
   obtain ⟨i1, i2, i3⟩ := Zu (key := key) hnd.2 hr
   refine ⟨?_, fun p hp => ?_, fun p hp => ?_⟩
   ·rw [List.map_cons, List.nodup_cons]
    refine ⟨fun h => ?_, i1⟩
    obtain ⟨p, hp, e⟩ := List.mem_map.1 h
    rcases i3 p hp with e2 | e2
    ·simp only at e hj; omega
    ·exact hnd.1 (by simp only at e ⊢; rw [<- e]; exact List.mem_map_of_mem e2)
   ·rcases List.mem_cons.1 hp with rfl | hp
    ·simp only at hj ⊢; omega
    ·exact i2 p hp
   ·rcases List.mem_cons.1 hp with rfl | hp
    ·exact .inr List.mem_cons_self
    ·exact (i3 p hp).imp id fun h => List.mem_cons_of_mem _ h
theorem Jv {α : Type} {key : Int} {x : α} : ∀ {m : List (Int × α)}, jw m key = none -> jq m key x = m ++ [(key, x)]
 | [], _ => rfl
 | (k', v) :: m, h => by
  unfold jw at h
  split at h
  ·cases h
  ·rename_i e
   unfold jq; rw [if_neg e, Jv h]; rfl
theorem L2.snoc {α β : Type} {R : α -> β -> Prop} {xs : List α} {ys : List β} (h : L2 R xs ys) {x : α} {y : β} (hxy : R x y) : L2 R (xs ++ [x]) (ys ++ [y]) := h.append ((L2.nil R).cons hxy)
theorem TabI.found {F : Fo} {at_ : List (Int × Nat)} {m : List (Int × List Int)} (h : TabI F at_ m) {d : Due} {i : Nat} {l : List Int} (hi : jw at_ d.at_ = some i) (hm : jw m d.at_ = some l) :
  TabI ⟨(F.app i l d.task).k, (F.app i l d.task).rows, .tab (jq at_ d.at_ F.k)⟩ (jq at_ d.at_ F.k) (yF m d) := by
 obtain ⟨n1, n2, _⟩ := Zu (key := d.at_) h.nd h.lt
 refine ⟨rfl, ?_, n1, n2⟩
 rw [yF, hm]
 exact j04 (rows := F.rows) (i := i) (fun q hq hne => List.mem_append_left _ (List.mem_filter.2 ⟨hq, by simpa using hne⟩)) (List.mem_append_right _ (List.mem_singleton.2 rfl)) h.rel h.nd hi
theorem TabI.new {F : Fo} {at_ : List (Int × Nat)} {m : List (Int × List Int)} (h : TabI F at_ m) {d : Due} (hi : jw at_ d.at_ = none) (hm : jw m d.at_ = none) :
  TabI ⟨(F.new d.task).k, (F.new d.task).rows, .tab (jq at_ d.at_ F.k)⟩ (jq at_ d.at_ F.k) (yF m d) := by
 obtain ⟨n1, n2, _⟩ := Zu (key := d.at_) h.nd h.lt
 refine ⟨rfl, ?_, n1, n2⟩
 rw [yF, hm, Jv hi, Jv hm]
 refine (h.rel.mono fun x y hxy => ⟨hxy.1, List.mem_append_left _ hxy.2⟩).snoc ⟨rfl, List.mem_append_right _ (List.mem_singleton.2 rfl)⟩
theorem j4D {m : List (Int × List Int)} {c : Nat} (h : ∀ p ∈ m, p.2.length <= c) (d : Due) : ∀ p ∈ yF m d, p.2.length <= c + 1 := by
 have hs : ∀ (m : List (Int × List Int)) (x : List Int), x.length <= c + 1 -> (∀ p ∈ m, p.2.length <= c) -> ∀ p ∈ jq m d.at_ x, p.2.length <= c + 1 := by
  intro m x hx
  induction m with
  | nil => intro _ p hp; simp only [jq, List.mem_singleton] at hp; subst hp; exact hx
  | cons a m ih =>
   intro h p hp
   obtain ⟨k, v⟩ := a
   have hm : ∀ p ∈ m, p.2.length <= c + 1 := fun p hp => Nat.le_succ_of_le (h p (List.mem_cons_of_mem _ hp))
   unfold jq at hp
   split at hp
   ·rcases List.mem_cons.1 hp with rfl | hp
    ·exact hx
    ·exact hm p hp
   ·rcases List.mem_cons.1 hp with rfl | hp
    ·exact Nat.le_succ_of_le (h _ List.mem_cons_self)
    ·exact ih (fun p hp => h p (List.mem_cons_of_mem _ hp)) p hp
 refine hs m _ ?_ h
 rw [List.length_append]
 cases hg : jw m d.at_ with
 | none => simp
 | some l => have := h _ (J4 hg); simpa using this
/-! How many steps a job has. -/
theorem j1Y (dm : List (List Int)) (i no : Int) (hi : 0 <= i) (hn : 0 <= no) : Fn Tryz.prog 62 [.lst 1 (dm.map eLI), .int .i64 i, .int .i64 no] (.int .i64 (wv dm i no)) := by
 refine fnb Tryz.func62 (j5 (by kernel_rfl)) rfl rfl rfl ?_
 by_cases h1 : (dm.length : Int) <= i
 ·repeat' (first | refine sA ?_ | ((first | apply kM | apply kN); (iterate 3 (· exact rfl)); (· first | (show Y _ ⟨_, .indexAddr _ _ _, _, _, _, _⟩ _ _ _; first | exact jP (i.toNat) rfl rfl rfl rfl rfl rfl (by omega) (by omega) | exact jP (no.toNat) rfl rfl rfl rfl rfl rfl (by omega) (by omega)))) | refine sY ?_ | refine sG ?_ | refine sQ ?_ ?_ | intro hc | exact trivial)
  all_goals first | (exfalso; omega) | exact jK rfl (by rw [wv, if_pos (.inl h1)])
 by_cases h2 : ((dm.getD i.toNat default).length : Int) <= no
 ·repeat' (first | refine sA ?_ | ((first | apply kM | apply kN); (iterate 3 (· exact rfl)); (· first | (show Y _ ⟨_, .indexAddr _ _ _, _, _, _, _⟩ _ _ _; first | exact Y.mk (qe (i.toNat) rfl rfl rfl rfl rfl (by omega)) | exact Y.mk (qe (no.toNat) rfl rfl rfl rfl rfl (by omega))))) | refine sY ?_ | refine sG ?_ | refine sQ ?_ ?_ | intro hc | exact trivial)
  all_goals first | (exfalso; omega) | exact jK rfl (by rw [wv, if_pos (.inr h2)])
 ·repeat' (first | refine sA ?_ | ((first | apply kM | apply kN); (iterate 3 (· exact rfl)); (· first | (show Y _ ⟨_, .indexAddr _ _ _, _, _, _, _⟩ _ _ _; first | exact Y.mk (qe (i.toNat) rfl rfl rfl rfl rfl (by omega)) | exact Y.mk (qe (no.toNat) rfl rfl rfl rfl rfl (by omega))))) | refine sY ?_ | refine sG ?_ | refine sQ ?_ ?_ | intro hc | exact trivial)
  all_goals first | (exfalso; omega) | exact jK rfl (by rw [wv, if_neg (by omega)])
theorem OkO.le {P : Program} {s : j6} {h : j8} {o : Oper} {v v' : AV} (hk : OkO P o s h v) (hl : LeV v v') : OkO P o s h v' := fun E σ ι a w hr hx K Q hK => hk E σ ι a w hr hx K Q fun σ' w' u k1 k2 k3 => hK σ' w' u k1 k2 (hl _ _ _ k3)
theorem j3u {P : Program} {s : j6} {h : j8} {o : Oper} {m : List (Int × List Int)} {t kt et : TypeId} {x y : Operand} {id : Nat} {k : Int} (l : List Int) (ho : o.op = .lookup t x y false) (ht : V6 P t = some (kt, et)) (hx : evA s x = .own id) (hg : j9 h id = some (.sem (yK (fun l : List Int => AV.lst 1 (l.map eI)) m))) (hy : evA s y = .int .i64 k)
  (hz : ∀ (w : World) (σ : Sig), ∃ z, (zeroValue et).run P w = .ok z w ∧ VR0 σ .nils z) (hl : (jw m k).getD [] = l) : OkO P o s h (.lst 1 (l.map eI)) := by
 subst hl
 cases hm : jw m k with
 | none => exact (wZ (cm := false) .nils false ho ht hx hg hy hz (.inl ⟨hm, rfl, rfl⟩)).le (LeV.nils _)
 | some l0 => exact wZ (cm := false) (.lst 1 (l0.map eI)) true ho ht hx hg hy hz (.inr ⟨l0, hm, rfl, rfl⟩)
theorem j15 {l : List Task} {n : Nat} {B : Bk} (h : GoodB l n B) (i : Int) (hn : n <= 20000) : 0 <= (wu B i).steps ∧ (wu B i).steps <= 20000 := by
 unfold wu; split
 ·rename_i hi
  obtain ⟨_, h1, _⟩ := h.pos hi
  have := h.st _ h1
  unfold jH; omega
 ·exact ⟨by decide, by decide⟩
theorem j5l {l : List Task} {n : Nat} {B : Bk} (h : GoodB l n B) (i : Int) : 0 <= (wu B i).no := by
 unfold wu; split
 ·rename_i hi
  obtain ⟨_, h1, _⟩ := h.pos hi
  unfold jH
  rw [h.no _ h1]; exact (j07 _ _).1
 ·decide
def ρR (i : Nat) : Nat := if i = 9 then 9 else i + 100
def ρJ (i : Nat) : Nat := [101, 201, 102, 103, 204, 105, 106].getD i (i + 200)
theorem j61 : ∀ (w : World) (σ : Sig), ∃ z, (zeroValue 43).run Tryz.prog w = .ok z w ∧ VR0 σ .nils z := fun w σ => ⟨.slice none 0 0, rfl, .nils⟩
abbrev foH (F : Fo) : Nat × Chunk := (30, .sem (foC 43 3 F))
abbrev mpH (m : List (Int × List Int)) : Nat × Chunk := (30, .sem (yK (fun l : List Int => AV.lst 1 (l.map eI)) m))
abbrev QD (i : Nat) (es : List Event) : Nat × Chunk := (i, .row 68 5 (es.map vA))
abbrev jB (j : Job) : Nat × Chunk := (12, .blk 71 (vX j))
def rH (l : List Task) (m : List (Int × List Int)) (j : Job) (y : Kn × Nat × List Event) (f : Bool) : j8 := jB j :: mpH m :: jo :: QD y.2.1 y.2.2 :: knO l l.length y.1
abbrev duB (d : Due) : Nat × Chunk := (14, .blk 60 (jD d))
def bH (l : List Task) (d : Due) (y : Fo) (f : Bool) : j8 := duB d :: foH y :: jo :: knO l l.length (z8 l)
set_option maxHeartbeats 16000000 in
theorem j60 (l : List Task) (asks : List Due) (dm : List (List Int)) (ticks : Int) (hok : okK l = true) (ha : asks.length <= 1000) (ht : 0 <= ticks ∧ ticks <= 1000) :
  FnT Tryz.prog tabK 26 [.lst 7 (l.map jJ), .lst 2 (asks.map jD), .lst 1 (dm.map eLI), .int .i64 ticks] (.tup [.lst 5 ((xN l asks dm ticks.toNat).2.map vA), .int .i64 0]) := by
 refine j1h Tryz.func26 (j5 (by kernel_rfl)) rfl rfl rfl rfl ?_
 have c1 := YQ l hok
 obtain ⟨T, hT⟩ : ∃ T : Nat, ticks = T := ⟨ticks.toNat, by omega⟩
 subst hT
 rw [Int.toNat_natCast]
 repeat' (first | refine sT ?_ | refine sQ ?_ ?_ | intro hc | exact trivial)
 refine jh (jA eI 108 3 1 (by omega) rfl) ?_
 refine jh (jA eI 107 3 1 (by omega) rfl) ?_
 refine jh (jA eI 106 3 1 (by omega) rfl) ?_
 refine jh (jA eI 105 3 1 (by omega) rfl) ?_
 refine jh (jA eI 104 3 1 (by omega) rfl) ?_
 refine jh (jA eI 103 3 1 (by omega) rfl) ?_
 refine jh (jA eI 102 3 1 (by omega) rfl) ?_
 refine jh (jA eI 101 3 1 (by omega) rfl) ?_
 refine jh (jA eI 100 3 1 (by omega) rfl) ?_
 refine jL (fun i => ρK i) (c1) rfl rfl leh (by kernel_rfl) (by kernel_rfl) (by kernel_rfl) (by kernel_rfl) rfl rfl (fun r h' hR => ?_)
 obtain ⟨rfl, rfl⟩ := hR
 refine ⟨rfl, rfl, ?_⟩
 refine ole (s' := [(1, .lst 2 (asks.map jD)), (2, .lst 1 (dm.map eLI)), (3, .int .i64 T), (23, .tup [.ptr 100 0, .int .i64 0])]) (h' := jo :: knO l l.length (z8 l)) les leh ?_
 repeat' (first | refine sT ?_ | refine sQ ?_ ?_ | intro hc | exact trivial)
 all_goals first | (exfalso; omega) | skip
 refine j5g (ec := 43) (e := 3) 30 rfl rfl rfl rfl ?_
 repeat' (first | refine sT ?_ | refine sQ ?_ ?_ | intro hc | exact trivial)
 refine wle (s' := [(2, .lst 1 (dm.map eLI)), (3, .int .i64 T), (10, .ptr 100 0), (12, .part 30 0), (37, .lst 2 (asks.map jD)), (38, .int .i64 asks.length), (39, .int .i64 0)]) (h' := foH ⟨1, [], .tab []⟩ :: jo :: knO l l.length (z8 l)) les leh ?_
 refine jk (fun x : Nat × Fo × List (Int × Nat) × List (Int × List Int) => ([(2, .lst 1 (dm.map eLI)), (3, .int .i64 T), (10, .ptr 100 0), (12, .part 30 0), (37, .lst 2 (asks.map jD)), (38, .int .i64 asks.length), (39, .int .i64 x.1)], foH x.2.1 :: jo :: knO l l.length (z8 l)))
  (fun x => x.1 <= asks.length ∧ TabI x.2.1 x.2.2.1 x.2.2.2 ∧ x.2.2.2 = (asks.take x.1).foldl yF [] ∧ ∀ p ∈ x.2.2.2, p.2.length <= x.1) (fun x => asks.length - x.1) (0, ⟨1, [], .tab []⟩, [], []) ⟨Nat.zero_le _, ⟨rfl, L2.nil _, List.nodup_nil, fun p hp => (by cases hp)⟩, rfl, fun p hp => (by cases hp)⟩ les leh (fun x hx => ?_)
 obtain ⟨k, F, at_, m⟩ := x
 obtain ⟨hk, hF, hm, hml⟩ := hx
 simp only at hk hF hm hml ⊢
 rcases Nat.lt_or_eq_of_le hk with hkk | hkk
 ·have hnx : (asks.take (k + 1)).foldl yF [] = yF m (asks.getD k default) := by
   rw [hm]; exact Jj yF [] asks hkk
  have hnl := j4D hml (asks.getD k default)
  have hgt := j05 (key := (asks.getD k default).at_) hF.rel
  generalize hdk : asks.getD k default = d0 at hnx hnl hgt
  repeat' (first | refine sB ?_ | (show O _ _ _ _ _ _ _; first | refine jR (id := 14) rfl rfl rfl rfl rfl rfl rfl ?_) | refine sY ?_ | refine sG ?_ | refine sQ ?_ ?_ | intro hc | exact trivial)
  all_goals first | (exfalso; omega) | skip
  rw [hdk]
  refine wle (s' := [(2, .lst 1 (dm.map eLI)), (3, .int .i64 T), (10, .ptr 100 0), (12, .part 30 0), (14, .ptr 14 0), (37, .lst 2 (asks.map jD)), (38, .int .i64 asks.length), (39, .int .i64 k)]) (h' := bH l d0 F false) les (show LeH _ (duB d0 :: foH F :: jo :: knO l l.length (z8 l)) from leh) ?_
  refine xl (bH l d0) (fun _ => True) (fun _ => True) [10, 11] [6] 0 99 (fun _ => []) F (LeH.refl _) (by kernel_rfl) (by kernel_rfl) (by kernel_rfl) trivial trivial rfl rfl rfl rfl ?_
  refine xt (v := .part 30 0) rfl rfl (by kernel_rfl) (fun y hy => zf ya) ?_
  repeat' (first | refine sA ?_ | refine sY ?_ | (show QW _ _ _ _ _ _ _ _ _ _ _ _ _ _ _; first | refine qr ?_ | (apply qt; (· exact rfl); (· exact rfl); (· exact rfl); (· intro y' f' hy'; first | exact ya); (· first | exact rfl | kernel_rfl))) | refine sG ?_ | refine sQ ?_ ?_ | intro hc | exact trivial)
  rcases hgt with ⟨g1, g2⟩ | ⟨i, l', g1, g2, g3⟩
  ·refine j5L (v := .nils) rfl rfl rfl rfl (fun f hf => Y.mk (Y3 (F := F) .nils rfl rfl rfl rfl hF.cont rfl j61 (.inl ⟨g1, rfl⟩))) (by kernel_rfl) ?_
   repeat' (first | refine sA ?_ | refine sY ?_ | (show QW _ _ _ _ _ _ _ _ _ _ _ _ _ _ _; first | refine qr ?_ | (apply qt; (· exact rfl); (· exact rfl); (· exact rfl); (· intro y' f' hy'; first | exact ya); (· first | exact rfl | kernel_rfl))) | refine sG ?_ | refine sQ ?_ ?_ | intro hc | exact trivial)
   refine xP (x' := F.new d0.task) rfl rfl rfl trivial trivial (fun f hf => j6I (N := 30) (F := F) (by_ := 8) d0.task rfl rfl rfl rfl rfl rfl rfl rfl rfl rfl rfl (show LeH _ (duB d0 :: foH (F.new d0.task) :: jo :: knO l l.length (z8 l)) from leh)) (by kernel_rfl) ?_
   repeat' (first | refine sA ?_ | refine sY ?_ | (show QW _ _ _ _ _ _ _ _ _ _ _ _ _ _ _; first | refine qr ?_ | (apply qt; (· exact rfl); (· exact rfl); (· exact rfl); (· intro y' f' hy'; first | exact ya); (· first | exact rfl | kernel_rfl))) | refine sG ?_ | refine sQ ?_ ?_ | intro hc | exact trivial)
   refine xP (x' := ⟨(F.new d0.task).k, (F.new d0.task).rows, .tab (jq at_ d0.at_ F.k)⟩) rfl rfl rfl trivial trivial (fun f hf => ((xV (YO (F := F.new d0.task) rfl rfl rfl rfl hF.cont rfl rfl) rfl).post (show LeH _ (duB d0 :: foH ⟨(F.new d0.task).k, (F.new d0.task).rows, .tab (jq at_ d0.at_ F.k)⟩ :: jo :: knO l l.length (z8 l)) from leh)).toL) (by kernel_rfl) ?_
   repeat' (first | refine sA ?_ | refine sY ?_ | (show QW _ _ _ _ _ _ _ _ _ _ _ _ _ _ _; first | refine qr ?_ | (apply qt; (· exact rfl); (· exact rfl); (· exact rfl); (· intro y' f' hy'; first | exact ya); (· first | exact rfl | kernel_rfl))) | refine sG ?_ | refine sQ ?_ ?_ | intro hc | exact trivial)
   exact ⟨(k + 1, ⟨(F.new d0.task).k, (F.new d0.task).rows, .tab (jq at_ d0.at_ F.k)⟩, jq at_ d0.at_ F.k, yF m d0), ⟨by simp only; omega, hF.new g1 g2, hnx.symm, hnl⟩, by simp only; omega, les, (show LeH _ (foH ⟨(F.new d0.task).k, (F.new d0.task).rows, .tab (jq at_ d0.at_ F.k)⟩ :: jo :: knO l l.length (z8 l)) from leh)⟩
  ·have hll := hml _ (J4 g2)
   simp only at hll
   refine j5L (v := .part 30 i) rfl rfl rfl rfl (fun f hf => Y.mk (Y3 (F := F) (.part 30 i) rfl rfl rfl rfl hF.cont rfl j61 (.inr ⟨i, g1, rfl⟩))) (by kernel_rfl) ?_
   repeat' (first | refine sA ?_ | refine sY ?_ | (show QW _ _ _ _ _ _ _ _ _ _ _ _ _ _ _; first | refine qr ?_ | (apply qt; (· exact rfl); (· exact rfl); (· exact rfl); (· intro y' f' hy'; first | exact ya); (· first | exact rfl | kernel_rfl))) | refine sG ?_ | refine sQ ?_ ?_ | intro hc | exact trivial)
   refine xP (x' := F.app i l' d0.task) rfl rfl rfl trivial trivial (fun f hf => j5i (N := 30) (F := F) (by_ := 8) l' d0.task rfl rfl rfl g3 rfl rfl rfl rfl rfl rfl (by omega) (by omega) rfl (show LeH _ (duB d0 :: foH (F.app i l' d0.task) :: jo :: knO l l.length (z8 l)) from leh)) (by kernel_rfl) ?_
   repeat' (first | refine sA ?_ | refine sY ?_ | (show QW _ _ _ _ _ _ _ _ _ _ _ _ _ _ _; first | refine qr ?_ | (apply qt; (· exact rfl); (· exact rfl); (· exact rfl); (· intro y' f' hy'; first | exact ya); (· first | exact rfl | kernel_rfl))) | refine sG ?_ | refine sQ ?_ ?_ | intro hc | exact trivial)
   refine xP (x' := ⟨(F.app i l' d0.task).k, (F.app i l' d0.task).rows, .tab (jq at_ d0.at_ F.k)⟩) rfl rfl rfl trivial trivial (fun f hf => ((xV (YO (F := F.app i l' d0.task) rfl rfl rfl rfl hF.cont rfl rfl) rfl).post (show LeH _ (duB d0 :: foH ⟨(F.app i l' d0.task).k, (F.app i l' d0.task).rows, .tab (jq at_ d0.at_ F.k)⟩ :: jo :: knO l l.length (z8 l)) from leh)).toL) (by kernel_rfl) ?_
   repeat' (first | refine sA ?_ | refine sY ?_ | (show QW _ _ _ _ _ _ _ _ _ _ _ _ _ _ _; first | refine qr ?_ | (apply qt; (· exact rfl); (· exact rfl); (· exact rfl); (· intro y' f' hy'; first | exact ya); (· first | exact rfl | kernel_rfl))) | refine sG ?_ | refine sQ ?_ ?_ | intro hc | exact trivial)
   exact ⟨(k + 1, ⟨(F.app i l' d0.task).k, (F.app i l' d0.task).rows, .tab (jq at_ d0.at_ F.k)⟩, jq at_ d0.at_ F.k, yF m d0), ⟨by simp only; omega, hF.found g1 g2, hnx.symm, hnl⟩, by simp only; omega, les, (show LeH _ (foH ⟨(F.app i l' d0.task).k, (F.app i l' d0.task).rows, .tab (jq at_ d0.at_ F.k)⟩ :: jo :: knO l l.length (z8 l)) from leh)⟩
 subst hkk
 rw [List.take_length] at hm
 repeat' (first | refine sU ?_ | refine sQ ?_ ?_ | intro hc | exact trivial)
 all_goals first | (exfalso; omega) | skip
 refine va (j0h (t := 12) (N := 30) m rfl rfl hF.cont hF.rel rfl rfl) ?_
 refine wle (s' := [(2, .lst 1 (dm.map eLI)), (10, .ptr 100 0), (12, .own 30), (15, .nils), (55, .int .i64 T), (56, .int .i64 0)]) (h' := mpH m :: jo :: knO l l.length (z8 l)) les leh ?_
 refine va (vN vA (t := 15) rfl 41 68 5 (by omega) rfl) ?_
 have h8 : l.length <= 8 := by rw [okK, Bool.and_eq_true, decide_eq_true_eq] at hok; omega
 refine jk (fun t : Nat => ([(2, .lst 1 (dm.map eLI)), (10, .ptr 100 0), (12, .own 30), (15, .own 41), (55, .int .i64 T), (56, .int .i64 t)], mpH m :: jo :: QD 41 (xN l asks dm t).2 :: knO l l.length (xN l asks dm t).1)) (fun t => t <= T) (fun t => T - t) 0 (Nat.zero_le _) les (show LeH _ (mpH m :: jo :: QD 41 [] :: knO l l.length (z8 l)) from leh) (fun t htT => ?_)
 have hI := XR hok asks dm t (by omega)
 rcases Nat.lt_or_eq_of_le htT with htt | htt
 ·have hnx := Jt l asks dm t
  have hgm := j0W t asks []
  rw [<- hm] at hgm
  generalize xN l asks dm t = p at hnx hI ⊢
  obtain ⟨K, es⟩ := p
  obtain ⟨h1, h2, h3, h4⟩ := hI
  simp only at h1 h2 h3 h4
  have hal := Xx asks t
  have hal2 := zS t (by omega) asks
  have hal3 := Xx asks (t + 1)
  have f1 := j4g l l.length K (10 * t + Xy asks t) 8 (by omega) h1.good (by rw [h2]; omega) (Nat.le_trans h1.slen h8) h1.last (fun d hd => by
   have q1 := h1.due d hd
   have q2 := zT hok d.task q1.1 q1.2.1
   omega) (jY asks t) (by omega) (by omega)
  have g1 := KI.open_ hok (room := l.length) rfl h1 (jY asks t)
  have hop : (vT l l.length K (jY asks t)).1.opn = true := VK
  have hol := YH (l := l) (room := l.length) (K := K) (asks := jY asks t) (Nat.le_trans h1.slen h8)
  unfold Yj at hnx
  simp only at hnx
  generalize vT l l.length K (jY asks t) = o at f1 g1 hop hol hnx
  obtain ⟨K1, e1⟩ := o
  simp only at f1 g1 hop hol hnx
  obtain ⟨B, S, last, now, opn⟩ := K
  obtain ⟨B1, S1, last1, now1, opn1⟩ := K1
  simp only at h2 h3 hop g1
  subst h2 h3 hop
  obtain ⟨g1, g2⟩ := g1
  subst g2
  have hgm : (jw m t).getD [] = jY asks t := by simpa [jw] using hgm
  have f2 := Yx l l.length ⟨B1, S1, last1, t, true⟩ (by omega) g1.good.act
  obtain ⟨wi, hwi⟩ : ∃ wi, wi = VU l ⟨B1, S1, last1, t, true⟩ := ⟨_, rfl⟩
  have hw0 : 0 <= wi := by rw [hwi]; simp only [VU]; split <;> omega
  have f3 := XY l B1 _ g1.good wi
  have hjk : wu B1 wi = if jm B1.act wi then jH B1 wi else default := rfl
  have hst : 0 <= (wu B1 wi).steps ∧ (wu B1 wi).steps <= 20000 := j15 g1.good wi (by omega)
  have hno : 0 <= (wu B1 wi).no := j5l g1.good wi
  rw [<- hjk] at f3
  have hend : YY l dm ⟨B1, S1, last1, t, true⟩ = decide (wv dm wi (wu B1 wi).no <= (wu B1 wi).steps + 1) := by rw [hwi]; rfl
  have f4 := j2i l l.length ⟨B1, S1, last1, t, true⟩ _ (by omega) g1.good (by omega) (wu B1 wi).steps (decide (wv dm wi (wu B1 wi).no <= (wu B1 wi).steps + 1)) (fun h => j1O h) ⟨by simp only; omega, by simp only; omega⟩ (fun h => by
   have := (g1.jr.step (qE l B1) t).at_ (qE l B1)
   exact ⟨this.1, Int.le_trans this.2 (by decide)⟩)
  have hcl := X0 (l := l) (K := ⟨B1, S1, last1, t, true⟩) (a := (wu B1 wi).steps) (e := decide (wv dm wi (wu B1 wi).no <= (wu B1 wi).steps + 1))
  rw [<- hwi, hend] at hnx
  simp only at hnx
  generalize wu B1 wi = jb at *
  have e2 : VU l ⟨B1, S1, last1, t, true⟩ = (if true = true then max (qE l B1) 0 else 0) := rfl
  refine va (j2d (t := 15) (id := 41) (id2 := 40) rfl rfl rfl rfl rfl) ?_
  refine wle (s' := [(2, .lst 1 (dm.map eLI)), (10, .ptr 100 0), (12, .own 30), (15, .own 40), (55, .int .i64 T), (56, .int .i64 t)]) (h' := mpH m :: jo :: QD 40 es :: knY l l.length B S last t false) les leh ?_
  repeat' (first | refine sA ?_ | refine sY ?_ | ((first | apply kM | apply kN); (iterate 3 (· exact rfl)); (· first | exact Y.mk (j3u (jY asks t) rfl rfl rfl rfl rfl j61 hgm))) | refine sG ?_ | refine sQ ?_ ?_ | intro hc | exact trivial)
  all_goals first | (exfalso; omega) | skip
  refine jL (fun i => ρR i) (f1) rfl rfl leh (by kernel_rfl) (by kernel_rfl) (by kernel_rfl) (by kernel_rfl) rfl rfl (fun r h' hR => ?_)
  obtain ⟨rfl, rfl⟩ := hR
  refine ⟨rfl, rfl, ?_⟩
  refine ole (s' := [(2, .lst 1 (dm.map eLI)), (10, .ptr 100 0), (12, .own 30), (55, .int .i64 T), (56, .int .i64 t), (59, .own 40), (64, .lst 5 (e1.map vA))]) (h' := mpH m :: jo :: QD 40 es :: knY l l.length B1 S1 last1 t true) les leh ?_
  repeat' (first | refine sT ?_ | refine sQ ?_ ?_ | intro hc | exact trivial)
  (refine v7 (id := 40) (ys := e1) (by_ := 40) rfl rfl rfl rfl rfl rfl rfl rfl rfl rfl (fun _ _ => rfl) ?_ ?_ rfl rfl rfl rfl rfl ?_; (· (first | omega | ((try simp only [List.length_cons, List.length_nil, List.length_append, List.length_map]) <;> omega))); (· (first | omega | ((try simp only [List.length_cons, List.length_nil, List.length_append, List.length_map]) <;> omega))))
  repeat' (first | refine sT ?_ | refine sQ ?_ ?_ | intro hc | exact trivial)
  refine jL (fun i => ρR i) (f2) rfl rfl leh (by kernel_rfl) (by kernel_rfl) (by kernel_rfl) (by kernel_rfl) rfl rfl (fun r h' hR => ?_)
  obtain ⟨rfl, rfl⟩ := hR
  refine ⟨rfl, rfl, ?_⟩
  rw [<- e2, <- hwi]
  refine ole (s' := [(2, .lst 1 (dm.map eLI)), (10, .ptr 100 0), (12, .own 30), (15, .own 40), (55, .int .i64 T), (56, .int .i64 t), (68, .tup [.int .i64 wi, .bool (true && decide (0 <= qE l B1))])]) (h' := mpH m :: jo :: QD 40 (es ++ e1) :: knY l l.length B1 S1 last1 t true) les leh ?_
  repeat' (first | refine sT ?_ | refine sQ ?_ ?_ | intro hc | exact trivial)
  refine jL (fun i => ρJ i) (f3) rfl rfl leh (by kernel_rfl) (by kernel_rfl) (by kernel_rfl) (by kernel_rfl) rfl rfl (fun r h' hR => ?_)
  obtain ⟨rfl, rfl⟩ := hR
  refine ⟨rfl, rfl, ?_⟩
  refine ole (s' := [(2, .lst 1 (dm.map eLI)), (10, .ptr 100 0), (12, .own 30), (15, .own 40), (17, .int .i64 wi), (55, .int .i64 T), (56, .int .i64 t), (77, .tup [.agg (vX jb), .bool (jm B1.act wi)])]) (h' := mpH m :: jo :: QD 40 (es ++ e1) :: knY l l.length B1 S1 last1 t true) les leh ?_
  repeat' (first | refine sB ?_ | (show O _ _ _ _ _ _ _; first | refine jR (id := 12) rfl rfl rfl rfl rfl rfl rfl ?_) | refine sY ?_ | refine sG ?_ | refine sQ ?_ ?_ | intro hc | exact trivial)
  obtain ⟨ed, hed⟩ : ∃ ed, ed = decide (wv dm wi jb.no <= jb.steps + 1) := ⟨_, rfl⟩
  have c5 := j1Y dm wi jb.no hw0 hno
  have hed2 : decide (wv dm wi jb.no <= jb.steps + 1) = ed := hed.symm
  rw [hed2] at f4 hcl hnx
  obtain ⟨K2, hK2⟩ : ∃ K2, K2 = vY l ⟨B1, S1, last1, t, true⟩ ed := ⟨_, rfl⟩
  obtain ⟨e2', he2⟩ : ∃ e, e = zE l ⟨B1, S1, last1, t, true⟩ jb.steps ed := ⟨_, rfl⟩
  rw [<- hK2] at f4 hnx
  rw [<- he2] at f4 hnx hcl
  refine wle (s' := [(2, .lst 1 (dm.map eLI)), (10, .ptr 100 0), (12, .own 30), (15, .own 40), (17, .int .i64 wi), (19, .ptr 12 0), (55, .int .i64 T), (56, .int .i64 t)]) (h' := rH l m jb (⟨B1, S1, last1, t, true⟩, 40, es ++ e1) false) les (show LeH _ (jB jb :: mpH m :: jo :: QD 40 (es ++ e1) :: knY l l.length B1 S1 last1 t true) from leh) ?_
  refine xl (rH l m jb) (fun _ => True) (fun _ => True) [13, 14] [] 0 99 (fun i => if i = 13 then [9, 105, 106, 107, 108] else if i = 14 then [41] else []) (⟨B1, S1, last1, t, true⟩, 40, es ++ e1) (LeH.refl _) (by kernel_rfl) (by kernel_rfl) (by kernel_rfl) trivial trivial rfl rfl rfl rfl ?_
  refine xt (v := .own 40) rfl rfl (by kernel_rfl) (fun y hy => zf ya) ?_
  repeat' (first | refine sA ?_ | refine sY ?_ | refine sC (c5) ?_ | (show QW _ _ _ _ _ _ _ _ _ _ _ _ _ _ _; first | refine qr ?_ | (apply qt; (· exact rfl); (· exact rfl); (· exact rfl); (· intro y' f' hy'; first | exact ya | exact q_c (c5) rfl); (· first | exact rfl | kernel_rfl))) | refine sG ?_ | refine sQ ?_ ?_ | intro hc | exact trivial)
  rw [hed2]
  refine xP (x' := (K2, 40, es ++ e1)) rfl rfl rfl trivial trivial (fun f hf => xD ρR f4 rfl (show LeH (jB jb :: mpH m :: jo :: QD 40 (es ++ e1) :: knY l l.length B1 S1 last1 t true) _ from leh) (by kernel_rfl) (by kernel_rfl) (by kernel_rfl) (by kernel_rfl) (by kernel_rfl) (by kernel_rfl) (by kernel_rfl) rfl (show LeH _ (jB jb :: mpH m :: jo :: QD 40 (es ++ e1) :: knO l l.length K2) from leh)) (by kernel_rfl) ?_
  refine xP (x' := (K2, 41, es ++ e1 ++ e2')) rfl rfl rfl trivial trivial (fun f hf => j6j (id := 40) (id2 := 41) (ys := e2') (by_ := 40) rfl rfl rfl rfl rfl rfl rfl rfl rfl rfl (fun _ _ => rfl) (by rw [List.length_append]; omega) (by rw [List.length_append]; omega) rfl rfl rfl rfl (show LeH _ (jB jb :: mpH m :: jo :: QD 41 (es ++ e1 ++ e2') :: knO l l.length K2) from leh)) (by kernel_rfl) ?_
  repeat' (first | refine sA ?_ | refine sY ?_ | (show QW _ _ _ _ _ _ _ _ _ _ _ _ _ _ _; first | refine qr ?_ | (apply qt; (· exact rfl); (· exact rfl); (· exact rfl); (· intro y' f' hy'; first | exact ya); (· first | exact rfl | kernel_rfl))) | refine sG ?_ | refine sQ ?_ ?_ | intro hc | exact trivial)
  exact ⟨t + 1, by omega, by omega, les, by simp only [hnx]; exact (show LeH _ (mpH m :: jo :: QD 41 (es ++ e1 ++ e2') :: knO l l.length K2) from leh)⟩
 ·subst htt
  repeat' (first | refine sT ?_ | refine sQ ?_ ?_ | intro hc | exact trivial)
  all_goals first | (exfalso; omega) | skip
  refine ww (fun _ => jf (t := 8) rfl rfl rfl) ?_
  exact jK rfl rfl
def zB (l : List Task) (B : Bk) (now at_ : Int) (ended : Bool) : List Event :=
 if 0 <= je l B l.length then ⟨now, 5, je l B l.length, (jH B (je l B l.length)).no, at_⟩ :: (if ended then [⟨now, 7, je l B l.length, (jH B (je l B l.length)).no, now + 1 - (jH B (je l B l.length)).release⟩] else []) else [⟨now, 6, -1, 0, 0⟩]
def zJ (l : List Task) (B : Bk) (now : Int) (ended : Bool) : Bk := if 0 <= je l B l.length then x9 B now (je l B l.length) ended else B
theorem XL (B : Bk) (t : Int) : ∀ k, k <= 64 -> ∀ i ∈ (XD B t k).1, jm B.act i = true
 | 0, _, i, hi => by cases hi
 | k + 1, hk, i, hi => by
  have ih := XL B t k (by omega)
  rw [ZW _ _ _ (by omega)] at hi
  split at hi
  ·rename_i hh
   unfold j0O at hi
   split at hi
   ·rcases List.mem_append.1 hi with hi | hi
    ·exact ih i hi
    ·rw [List.mem_singleton] at hi; subst hi; exact hh
   ·exact ih i hi
  ·exact ih i hi
theorem j2w (B : Bk) (t : Int) : ∀ i ∈ (jN B t (jV B.act) (jV B.act).length).1, jm B.act i = true := by
 rw [<- j0f]; exact XL B t 64 (Nat.le_refl _)
/-! Asks, by the document. -/
def rpQ (l : List Task) (LL : List (List Int)) (now i : Int) : Bool := decide (0 <= i ∧ i < l.length) && decide ((l.getD i.toNat default).kind = 2) && match (LL.getD i.toNat []).getLast? with
 | none => true
 | some v => decide ((l.getD i.toNat default).period <= now - v)
def wG (l : List Task) (B : Bk) (now i : Int) : Event := yq l ⟨B, [], [], now, true⟩ i
structure Rk where
 B : Bk
 LL : List (List Int)
 es : List Event
def ye (l : List Task) (now : Int) (p : Bk × List Event) (i : Nat) : Bk × List Event := if atB (l.getD i default) now then (jv l p.1 i now, p.2 ++ [wG l p.1 now i]) else p
def qg (l : List Task) (now : Int) (p : Rk) (i : Int) : Rk :=
 if rpQ l p.LL now i then ⟨jv l p.B i now, p.LL.set i.toNat (p.LL.getD i.toNat [] ++ [now]), p.es ++ [wG l p.B now i]⟩ else ⟨p.B, p.LL, p.es ++ [⟨now, 2, i, 0, 0⟩]⟩
def qQ (B : Bk) (now : Int) : Bk × List Event :=
 let L := jN B now (jV B.act) (jV B.act).length
 (L.2, L.1.map (x4 L.2 now))
def qU (l : List Task) (B : Bk) (LL : List (List Int)) (now : Int) (asks : List Int) : Rk :=
 let p := (List.range l.length).foldl (ye l now) (qQ B now)
 asks.foldl (qg l now) ⟨p.1, LL, p.2⟩
structure RI (l : List Task) (n : Nat) (now : Int) (B : Bk) (LL : List (List Int)) : Prop where
 good : GoodB l n B
 len : LL.length = l.length
 rows : ∀ r ∈ LL, r.length <= n ∧ ∀ v ∈ r, 0 <= v ∧ v <= now
theorem RI.mono {l : List Task} {n : Nat} {now : Int} {B : Bk} {LL : List (List Int)} (h : RI l n now B LL) : RI l (n + 1) now B LL := ⟨h.good.mono, h.len, fun r hr => ⟨Nat.le_succ_of_le (h.rows r hr).1, (h.rows r hr).2⟩⟩
theorem RI.ask {l : List Task} {n : Nat} {now : Int} (h0 : 0 <= now) {p : Rk} (h : RI l n now p.B p.LL) (i : Int) : RI l (n + 1) now (qg l now p i).B (qg l now p i).LL := by
 unfold qg
 split
 ·refine ⟨h.good.rel _ _, (by simp only [List.length_set]; exact h.len), fun r hr => ?_⟩
  rcases List.mem_or_eq_of_mem_set hr with hr | rfl
  ·exact ⟨Nat.le_succ_of_le (h.rows r hr).1, (h.rows r hr).2⟩
  ·by_cases hi : i.toNat < p.LL.length
   ·have hm : p.LL.getD i.toNat [] ∈ p.LL := by
     rw [List.getD_eq_getElem?_getD, List.getElem?_eq_getElem hi, Option.getD_some]; exact List.getElem_mem hi
    refine ⟨(by rw [List.length_append]; have := (h.rows _ hm).1; simp only [List.length_cons, List.length_nil]; omega), fun v hv => ?_⟩
    rcases List.mem_append.1 hv with hv | hv
    ·exact (h.rows _ hm).2 v hv
    ·rw [List.mem_singleton] at hv; subst hv; exact ⟨h0, Int.le_refl _⟩
   ·rw [List.getD_eq_getElem?_getD, List.getElem?_eq_none (by omega), Option.getD_none]
    refine ⟨(by simp), fun v hv => ?_⟩
    simp only [List.nil_append, List.mem_singleton] at hv; subst hv; exact ⟨h0, Int.le_refl _⟩
 ·exact h.mono
theorem RI.asks {l : List Task} {now : Int} (h0 : 0 <= now) : ∀ (D : List Int) {n : Nat} {p : Rk}, RI l n now p.B p.LL -> RI l (n + D.length) now (D.foldl (qg l now) p).B (D.foldl (qg l now) p).LL
 | [], n, p, h => h
 | i :: r, n, p, h => by
  rw [List.foldl_cons, List.length_cons, show n + (r.length + 1) = n + 1 + r.length by omega]
  exact RI.asks h0 r (h.ask h0 i)
theorem zm {l : List Task} {now : Int} : ∀ (D : List Nat) {n : Nat} {p : Bk × List Event}, GoodB l n p.1 -> GoodB l (n + D.length) (D.foldl (ye l now) p).1 ∧ (D.foldl (ye l now) p).2.length <= p.2.length + D.length
 | [], n, p, h => ⟨h, Nat.le_refl _⟩
 | i :: r, n, p, h => by
  rw [List.foldl_cons, List.length_cons, show n + (r.length + 1) = n + 1 + r.length by omega]
  unfold ye
  split
  ·obtain ⟨h1, h2⟩ := zm (now := now) r (p := (jv l p.1 i now, p.2 ++ [wG l p.1 now i])) (h.rel _ _)
   refine ⟨h1, Nat.le_trans h2 ?_⟩
   simp only [List.length_append, List.length_cons, List.length_nil]; omega
  ·obtain ⟨h1, h2⟩ := zm (now := now) r (p := p) h.mono
   exact ⟨h1, Nat.le_trans h2 (by omega)⟩
theorem YR {l : List Task} {now : Int} : ∀ (D : List Int) (p : Rk), (D.foldl (qg l now) p).es.length = p.es.length + D.length
 | [], p => rfl
 | d :: r, p => by
  rw [List.foldl_cons, YR r]
  unfold qg
  split <;> (simp only [List.length_append, List.length_cons, List.length_nil]; omega)
end Go.Proofs.YtfjoaeghnfkdlaaGreatDoor
