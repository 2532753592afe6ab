/- The kernel: what a tick's beginning tells. No condition. -/
import Derived.Test.YtfjoaeghnfkdlaaGreatDoorB24
import Derived.Test.YtfjoaeghnfkdlaaGreatDoorB7
import Derived.Test.YtfjoaeghnfkdlaaGreatDoorB8
set_option linter.unusedSimpArgs false
set_option linter.unusedVariables false
set_option maxHeartbeats 1000000
set_option maxRecDepth 100000
namespace Go.Proofs.YtfjoaeghnfkdlaaGreatDoor
open Go.RowKit
def x4 (B : Bk) (now : Int) (i : Int) : Event := ⟨now, 4, i, (if jm B.act i then jH B i else default).no, 0⟩
def yb (l : List Task) (d : Due) : Due := ⟨d.at_ + (l.getD d.task.toNat default).period, d.task⟩
def xw (l : List Task) (room : Int) (p : Kn × List Event) (d : Due) : Kn × List Event := ({ zY l p.1 d.task with S := wg room p.1.S (yb l d) }, p.2 ++ [yq l p.1 d.task])
def wU (l : List Task) (p : Kn × List Event) (i : Int) : Kn × List Event :=
 if wS l p.1 i then (zY l (vd l p.1 i) i, p.2 ++ [yq l (vd l p.1 i) i]) else (vd l p.1 i, p.2 ++ [⟨p.1.now, 2, i, 0, 0⟩])
def yd (K : Kn) : Kn × List Event :=
 let L := jN K.B K.now (jV K.B.act) (jV K.B.act).length
 (⟨L.2, K.S, K.last, K.now, true⟩, L.1.map (x4 L.2 K.now))
def j6R (l : List Task) (room : Int) (K : Kn) : Kn × List Event := (wY K.now (jO K.S)).foldl (xw l room) ({ (yd K).1 with S := vC K.now (jO K.S) }, (yd K).2)
def vT (l : List Task) (room : Int) (K : Kn) (asks : List Int) : Kn × List Event := if K.opn then (K, []) else asks.foldl (wU l) (j6R l room K)
theorem Jj {α β : Type} [Inhabited β] (f : α -> β -> α) (a : α) (l : List β) {k : Nat} (h : k < l.length) : (l.take (k + 1)).foldl f a = f ((l.take k).foldl f a) (l.getD k default) := by
 have e : l.getD k default = l[k] := by simp [h]
 rw [List.take_succ_eq_append_getElem h, List.foldl_append, e]; rfl
theorem j3j {α β : Type} [Inhabited α] (f : α -> β) (l : List α) {k : Nat} (h : k < l.length) : (l.take (k + 1)).map f = (l.take k).map f ++ [f (l.getD k default)] := by
 have e : l.getD k default = l[k] := by simp [h]
 rw [List.take_succ_eq_append_getElem h, List.map_append, e]; rfl
structure OpI (l : List Task) (n : Nat) (now : Int) (m : Nat) (K : Kn) : Prop where
 good : GoodB l n K.B
 now_ : K.now = now
 opn : K.opn = true
 slen : K.S.length <= m
 last : ∀ i v, jw K.last i = some v -> 0 <= v ∧ v <= now
theorem j1P (room : Int) (S : List Due) (d : Due) : (wg room S d).length <= S.length + 1 := by
 unfold wg; split
 ·simp
 ·omega
theorem OpI.due {l : List Task} {n m : Nat} {now room : Int} {p : Kn × List Event} (h : OpI l n now m p.1) (d : Due) : OpI l (n + 1) now (m + 1) (xw l room p d).1 :=
 ⟨h.good.rel _ _, h.now_, h.opn, Nat.le_trans (j1P _ _ _) (Nat.succ_le_succ h.slen), h.last⟩
theorem OpI.pass {l : List Task} {n m : Nat} {now : Int} {K : Kn} (h0 : 0 <= now) (h : OpI l n now m K) (i : Int) : OpI l n now m (vd l K i) := by
 refine ⟨h.good, h.now_, h.opn, h.slen, fun j v hv => ?_⟩
 unfold vd at hv
 simp only at hv
 split at hv
 ·rw [wO] at hv
  split at hv
  ·cases hv; rw [h.now_]; omega
  ·exact h.last j v hv
 ·exact h.last j v hv
theorem OpI.let_ {l : List Task} {n m : Nat} {now : Int} {K : Kn} (h : OpI l n now m K) (i : Int) : OpI l (n + 1) now m (zY l K i) :=
 ⟨h.good.rel _ _, h.now_, h.opn, h.slen, h.last⟩
theorem OpI.ask {l : List Task} {n m : Nat} {now : Int} {p : Kn × List Event} (h0 : 0 <= now) (h : OpI l n now m p.1) (i : Int) : OpI l (n + 1) now m (wU l p i).1 := by
 unfold wU
 split
 ·exact (h.pass h0 i).let_ i
 ·have := h.pass h0 i
  exact ⟨this.good.mono, this.now_, this.opn, this.slen, this.last⟩
theorem OpI.dues {l : List Task} {now room : Int} : ∀ (D : List Due) {n m : Nat} {p : Kn × List Event}, OpI l n now m p.1 -> OpI l (n + D.length) now (m + D.length) (D.foldl (xw l room) p).1
 | [], n, m, p, h => h
 | d :: r, n, m, p, h => by
  have := OpI.dues (room := room) r (h.due (room := room) d)
  rw [List.foldl_cons, List.length_cons, show n + (r.length + 1) = n + 1 + r.length by omega, show m + (r.length + 1) = m + 1 + r.length by omega]
  exact this
theorem OpI.asks {l : List Task} {now : Int} (h0 : 0 <= now) : ∀ (D : List Int) {n m : Nat} {p : Kn × List Event}, OpI l n now m p.1 -> OpI l (n + D.length) now m (D.foldl (wU l) p).1
 | [], n, m, p, h => h
 | d :: r, n, m, p, h => by
  have := OpI.asks h0 r (h.ask h0 d)
  rw [List.foldl_cons, List.length_cons, show n + (r.length + 1) = n + 1 + r.length by omega]
  exact this
theorem OpI.late {l : List Task} {n m : Nat} {K : Kn} (hg : GoodB l n K.B) (hs : K.S.length <= m) (hL : ∀ i v, jw K.last i = some v -> 0 <= v ∧ v <= K.now) : OpI l n K.now m (yd K).1 :=
 ⟨(hg.late _ _ _).1, rfl, rfl, hs, hL⟩
theorem Jb {l : List Task} {room : Int} : ∀ (D : List Due) (p : Kn × List Event), (D.foldl (xw l room) p).2.length = p.2.length + D.length
 | [], p => rfl
 | d :: r, p => by rw [List.foldl_cons, Jb r, xw, List.length_append]; simp only [List.length_cons, List.length_nil]; omega
theorem Qh {l : List Task} : ∀ (D : List Int) (p : Kn × List Event), (D.foldl (wU l) p).2.length = p.2.length + D.length
 | [], p => rfl
 | d :: r, p => by
  rw [List.foldl_cons, Qh r]
  unfold wU
  split <;> (rw [List.length_append]; simp only [List.length_cons, List.length_nil]; omega)
abbrev evR (es : List Event) : Nat × Chunk := (20, .row 68 5 (es.map vA))
def opH (l : List Task) (room : Int) (S : List Due) (last : List (Int × Int)) (now : Int) (es : List Event) (y : Bk) (f : Bool) : j8 := jo :: evR es :: knX l room y S last now true
def opU (l : List Task) (room : Int) (B : Bk) (last : List (Int × Int)) (now : Int) (es : List Event) (y : List Due) (f : Bool) : j8 := jo :: evR es :: knX l room B y last now true
def opV (l : List Task) (room : Int) (d : Due) (B : Bk) (last : List (Int × Int)) (now : Int) (opn : Bool) (es : List Event) (y : List Due) (f : Bool) : j8 := (12, .blk 60 (jD d)) :: jo :: evR es :: knX l room B y last now opn
def ρT (i : Nat) : Nat := if i = 0 then 1 else if i = 7 then 9 else i
set_option maxHeartbeats 16000000 in
theorem j4g (l : List Task) (room : Int) (K : Kn) (n m : Nat) (hl : l.length <= 1000000) (h : GoodB l n K.B) (hnow : 0 <= K.now ∧ K.now <= 2000000) (hs : K.S.length <= m) (hL : ∀ i v, jw K.last i = some v -> 0 <= v ∧ v <= K.now)
  (hd : ∀ d ∈ K.S, 0 <= d.task ∧ d.task < l.length ∧ d.at_ + (l.getD d.task.toNat default).period <= 9000000000000000000 ∧ -9000000000000000000 <= d.at_ + (l.getD d.task.toNat default).period) (asks : List Int) (hn : n + m + m + asks.length <= 90000) (hm4 : m <= 4000) :
  FnH Tryz.prog 11 [.ptr 0 0, .lst 1 (asks.map eI)] (jo :: knH l room K)
  (fun r h' => r = .lst 5 ((vT l room K asks).2.map vA) ∧ h' = jo :: knH l room (vT l room K asks).1) := by
 have i1 := OpI.late (n := n) h hs hL
 have hDm : ∀ d ∈ wY K.now (jO K.S), d ∈ K.S := fun d hd => (qK K.S).mem_iff.1 ((List.takeWhile_sublist _).subset hd)
 have hDl : (wY K.now (jO K.S)).length <= m := Nat.le_trans (List.takeWhile_sublist _).length_le (by rw [wC]; exact hs)
 have hRl : (vC K.now (jO K.S)).length <= m := Nat.le_trans (List.dropWhile_sublist _).length_le (by rw [wC]; exact hs)
 have i2 : OpI l n K.now m ({ (yd K).1 with S := vC K.now (jO K.S) } : Kn) := ⟨i1.good, i1.now_, i1.opn, hRl, i1.last⟩
 obtain ⟨B, S, last, now, opn⟩ := K
 simp only at h hnow hs hL hd hDm hDl hRl i2
 refine FnH.drop' (qo Tryz.func11 (j5 (by kernel_rfl)) rfl rfl ?_)
 cases opn
 case true =>
  repeat' (first | refine sT ?_ | refine sQ ?_ ?_ | intro hc | exact trivial)
  refine ww (fun _ => V8 5 (t := 4) rfl) ?_
  exact jK rfl ⟨jo :: knX l room B S last now true, leh, rfl, rfl⟩
 have c1 := j3W l B n h (by omega) now
 have e1 : yd ⟨B, S, last, now, false⟩ = (⟨(jN B now (jV B.act) (jV B.act).length).2, S, last, now, true⟩, (jN B now (jV B.act) (jV B.act).length).1.map (x4 (jN B now (jV B.act) (jV B.act).length).2 now)) := rfl
 have hkl := (h.late now (jV B.act) (jV B.act).length).2.2
 have hsl := J9 B.act
 have eO : vT l room ⟨B, S, last, now, false⟩ asks = asks.foldl (wU l) ((wY now (jO S)).foldl (xw l room) ({ (yd ⟨B, S, last, now, false⟩).1 with S := vC now (jO S) }, (yd ⟨B, S, last, now, false⟩).2)) := rfl
 rw [eO]
 rw [e1] at i2 ⊢
 obtain ⟨ks, hks⟩ : ∃ ks, ks = (jN B now (jV B.act) (jV B.act).length).1 := ⟨_, rfl⟩
 obtain ⟨B1, hB1⟩ : ∃ B1, B1 = (jN B now (jV B.act) (jV B.act).length).2 := ⟨_, rfl⟩
 rw [<- hks] at c1 hkl i2 ⊢
 rw [<- hB1] at c1 i2 ⊢
 have g1 : GoodB l n B1 := i2.good
 repeat' (first | refine sU ?_ | refine sQ ?_ ?_ | intro hc | exact trivial)
 refine wle (s' := [(0, .ptr 0 0), (1, .lst 1 (asks.map eI)), (5, .nils)]) (h' := jo :: knX l room B S last now true) les leh ?_
 refine va (vN vA (t := 5) rfl 20 68 5 (by omega) rfl) ?_
 refine wle (s' := [(0, .ptr 0 0), (1, .lst 1 (asks.map eI)), (5, .own 20)]) (h' := opH l room S last now [] B false) les (show LeH _ (jo :: evR [] :: knX l room B S last now true) from leh) ?_
 refine xl (opH l room S last now []) (fun _ => True) (fun _ => True) [8] [] 0 99 (nwR 8 [5, 6, 9]) B (LeH.refl _) (by kernel_rfl) (by kernel_rfl) (by kernel_rfl) trivial trivial rfl rfl rfl rfl ?_
 refine xt (v := .ptr 0 0) rfl rfl (by kernel_rfl) (fun y hy => zf ya) ?_
 repeat' (first | refine sA ?_ | refine sY ?_ | (show QW _ _ _ _ _ _ _ _ _ _ _ _ _ _ _; first | refine qr ?_ | (apply qt; (· exact rfl); (· exact rfl); (· exact rfl); (· intro y' f' hy'; first | exact ya); (· first | exact rfl | kernel_rfl))) | refine sG ?_ | refine sQ ?_ ?_ | intro hc | exact trivial)
 refine xP (x' := B1) rfl rfl rfl trivial trivial (fun f hf => xD ρT c1 rfl (show LeH (jo :: evR [] :: knX l room B S last now true) _ from leh) rfl rfl rfl rfl rfl rfl rfl rfl (show LeH _ (jo :: evR [] :: knX l room B1 S last now true) from leh)) (by kernel_rfl) ?_
 repeat' (first | refine sA ?_ | refine sY ?_ | (show QW _ _ _ _ _ _ _ _ _ _ _ _ _ _ _; first | refine qr ?_ | (apply qt; (· exact rfl); (· exact rfl); (· exact rfl); (· intro y' f' hy'; first | exact ya); (· first | exact rfl | kernel_rfl))) | refine sG ?_ | refine sQ ?_ ?_ | intro hc | exact trivial)
 refine jk (fun k : Nat => ([(0, .ptr 0 0), (1, .lst 1 (asks.map eI)), (5, .own 20), (33, .lst 1 (ks.map eI)), (34, .int .i64 ks.length), (35, .int .i64 k)], jo :: evR ((ks.take k).map (x4 B1 now)) :: knX l room B1 S last now true)) (fun k => k <= ks.length) (fun k => ks.length - k) 0 (Nat.zero_le _) les (show LeH (jo :: evR [] :: knX l room B1 S last now true) _ from leh) (fun k hk => ?_)
 rcases Nat.lt_or_eq_of_le hk with hkk | hkk
 ·have hnx := j3j (x4 B1 now) ks hkk
  have hel : ((ks.take k).map (x4 B1 now)).length <= 64 := by rw [List.length_map, List.length_take]; omega
  generalize (ks.take k).map (x4 B1 now) = es at hnx hel ⊢
  repeat' (first | refine sT ?_ | refine sQ ?_ ?_ | intro hc | exact trivial)
  all_goals first | (exfalso; omega) | skip
  refine jL (fun i => ρL i) (XY l B1 n g1 (ks.getD k default)) rfl rfl leh (by kernel_rfl) (by kernel_rfl) (by kernel_rfl) (by kernel_rfl) rfl rfl (fun r h' hR => ?_)
  obtain ⟨rfl, rfl⟩ := hR
  refine ⟨rfl, rfl, ?_⟩
  refine ole (h' := jo :: evR es :: knX l room B1 S last now true) (LeS.refl _) leh ?_
  repeat' (first | refine sA ?_ | (show O _ _ _ _ _ _ _; first | refine jR (id := 12) rfl rfl rfl rfl rfl rfl rfl ?_) | refine sY ?_ | refine sG ?_ | refine sQ ?_ ?_ | intro hc | exact trivial)
  refine jL (fun i => ρK i) (wj l room ⟨B1, S, last, now, true⟩ 4 (ks.getD k default) (if jm B1.act (ks.getD k default) then jH B1 (ks.getD k default) else default).no 0) rfl rfl leh (by kernel_rfl) (by kernel_rfl) (by kernel_rfl) (by kernel_rfl) rfl rfl (fun r h' hR => ?_)
  obtain ⟨rfl, rfl⟩ := hR
  refine ⟨rfl, rfl, ?_⟩
  refine ole (h' := jo :: evR es :: knX l room B1 S last now true) (LeS.refl _) leh ?_
  repeat' (first | refine sT ?_ | refine sQ ?_ ?_ | intro hc | exact trivial)
  (refine v7 (id := 20) (ys := [x4 B1 now (ks.getD k default)]) (by_ := 40) rfl rfl rfl rfl rfl rfl rfl rfl rfl rfl (fun _ _ => rfl) ?_ ?_ rfl rfl rfl rfl rfl ?_; (· (first | omega | ((try simp only [List.length_cons, List.length_nil, List.length_append, List.length_map]) <;> omega))); (· (first | omega | ((try simp only [List.length_cons, List.length_nil, List.length_append, List.length_map]) <;> omega))))
  repeat' (first | refine sT ?_ | refine sQ ?_ ?_ | intro hc | exact trivial)
  exact ⟨k + 1, by omega, by omega, les, by simp only [hnx]; exact leh⟩
 subst hkk
 rw [List.take_length]
 obtain ⟨es1, hes1⟩ : ∃ es1, es1 = ks.map (x4 B1 now) := ⟨_, rfl⟩
 rw [<- hes1]
 have hel1 : es1.length <= 64 := by rw [hes1, List.length_map]; omega
 have c4 := j1G now room S (by omega)
 obtain ⟨D, hD⟩ : ∃ D, D = wY now (jO S) := ⟨_, rfl⟩
 obtain ⟨R, hR0⟩ : ∃ R, R = vC now (jO S) := ⟨_, rfl⟩
 rw [<- hD] at c4 hDm hDl ⊢
 rw [<- hR0] at c4 hRl i2 ⊢
 repeat' (first | refine sU ?_ | refine sQ ?_ ?_ | intro hc | exact trivial)
 refine wle (s' := [(0, .ptr 0 0), (1, .lst 1 (asks.map eI)), (5, .own 20)]) (h' := opU l room B1 last now es1 S false) les (show LeH _ (jo :: evR es1 :: knX l room B1 S last now true) from leh) ?_
 refine xl (opU l room B1 last now es1) (fun _ => True) (fun _ => True) [8] [] 0 99 (nwR 8 [7]) S (LeH.refl _) (by kernel_rfl) (by kernel_rfl) (by kernel_rfl) trivial trivial rfl rfl rfl rfl ?_
 refine xt (v := .ptr 0 0) rfl rfl (by kernel_rfl) (fun y hy => zf ya) ?_
 repeat' (first | refine sA ?_ | refine sY ?_ | (show QW _ _ _ _ _ _ _ _ _ _ _ _ _ _ _; first | refine qr ?_ | (apply qt; (· exact rfl); (· exact rfl); (· exact rfl); (· intro y' f' hy'; first | exact ya); (· first | exact rfl | kernel_rfl))) | refine sG ?_ | refine sQ ?_ ?_ | intro hc | exact trivial)
 refine xP (x' := R) rfl rfl rfl trivial trivial (fun f hf => xD ρA c4 rfl (show LeH (jo :: evR es1 :: knX l room B1 S last now true) _ from leh) rfl rfl rfl rfl rfl rfl rfl rfl (show LeH _ (jo :: evR es1 :: knX l room B1 R last now true) from leh)) (by kernel_rfl) ?_
 repeat' (first | refine sA ?_ | refine sY ?_ | (show QW _ _ _ _ _ _ _ _ _ _ _ _ _ _ _; first | refine qr ?_ | (apply qt; (· exact rfl); (· exact rfl); (· exact rfl); (· intro y' f' hy'; first | exact ya); (· first | exact rfl | kernel_rfl))) | refine sG ?_ | refine sQ ?_ ?_ | intro hc | exact trivial)
 refine jk (fun k : Nat => ([(0, .ptr 0 0), (1, .lst 1 (asks.map eI)), (5, .own 20), (65, .lst 2 (D.map jD)), (66, .int .i64 D.length), (67, .int .i64 k)], jo :: evR ((D.take k).foldl (xw l room) ((⟨B1, R, last, now, true⟩ : Kn), es1)).2 :: knH l room ((D.take k).foldl (xw l room) ((⟨B1, R, last, now, true⟩ : Kn), es1)).1)) (fun k => k <= D.length) (fun k => D.length - k) 0 (Nat.zero_le _) les (show LeH (jo :: evR es1 :: knX l room B1 R last now true) _ from leh) (fun k hk2 => ?_)
 rcases Nat.lt_or_eq_of_le hk2 with hkd | hkd
 ·have hnx := Jj (xw l room) ((⟨B1, R, last, now, true⟩ : Kn), es1) D hkd
  have hI := OpI.dues (room := room) (D.take k) (p := ((⟨B1, R, last, now, true⟩ : Kn), es1)) i2
  have hev := Jb (l := l) (room := room) (D.take k) ((⟨B1, R, last, now, true⟩ : Kn), es1)
  have hdd := hd _ (hDm _ (qN hkd))
  rw [List.length_take, Nat.min_eq_left (by omega)] at hI hev
  generalize (D.take k).foldl (xw l room) ((⟨B1, R, last, now, true⟩ : Kn), es1) = p at hnx hI hev ⊢
  obtain ⟨⟨B', S', last', now', opn'⟩, es'⟩ := p
  obtain ⟨q1, q2, q3, q4, q5⟩ := hI
  simp only at q1 q2 q3 q4 hev
  subst now'
  subst opn'
  repeat' (first | refine sA ?_ | (show O _ _ _ _ _ _ _; first | refine jR (id := 12) rfl rfl rfl rfl rfl rfl rfl ?_) | refine sY ?_ | refine sG ?_ | refine sQ ?_ ?_ | intro hc | exact trivial)
  all_goals first | (exfalso; omega) | skip
  refine ole (h' := (12, .blk 60 (jD (D.getD k default))) :: jo :: evR es' :: knX l room B' S' last' now true) (LeS.refl _) leh ?_
  refine jL (fun i => ρK i) (j3m l room ⟨B', S', last', now, true⟩ (n + k) q1 (by omega) (D.getD k default).task) rfl rfl leh (by kernel_rfl) (by kernel_rfl) (by kernel_rfl) (by kernel_rfl) rfl rfl (fun r h' hR => ?_)
  obtain ⟨rfl, rfl⟩ := hR
  refine ⟨rfl, rfl, ?_⟩
  refine ole (h' := (12, .blk 60 (jD (D.getD k default))) :: jo :: evR es' :: knX l room (jv l B' (D.getD k default).task now) S' last' now true) (LeS.refl _) leh ?_
  repeat' (first | refine sT ?_ | refine sQ ?_ ?_ | intro hc | exact trivial)
  (refine v7 (id := 20) (ys := [yq l ⟨B', S', last', now, true⟩ (D.getD k default).task]) (by_ := 40) rfl rfl rfl rfl rfl rfl rfl rfl rfl rfl (fun _ _ => rfl) ?_ ?_ rfl rfl rfl rfl rfl ?_; (· (first | omega | ((try simp only [List.length_cons, List.length_nil, List.length_append, List.length_map]) <;> omega))); (· (first | omega | ((try simp only [List.length_cons, List.length_nil, List.length_append, List.length_map]) <;> omega))))
  repeat' (first | refine sU ?_ | refine sQ ?_ ?_ | intro hc | exact trivial)
  refine wle (s' := [(0, .ptr 0 0), (1, .lst 1 (asks.map eI)), (5, .own 20), (11, .ptr 12 0), (65, .lst 2 (D.map jD)), (66, .int .i64 D.length), (67, .int .i64 k)]) (h' := opV l room (D.getD k default) (jv l B' (D.getD k default).task now) last' now true (es' ++ [yq l ⟨B', S', last', now, true⟩ (D.getD k default).task]) S' false) les (show LeH _ ((12, .blk 60 (jD (D.getD k default))) :: jo :: evR (es' ++ [yq l ⟨B', S', last', now, true⟩ (D.getD k default).task]) :: knX l room (jv l B' (D.getD k default).task now) S' last' now true) from leh) ?_
  refine xl (opV l room (D.getD k default) (jv l B' (D.getD k default).task now) last' now true (es' ++ [yq l ⟨B', S', last', now, true⟩ (D.getD k default).task])) (fun _ => True) (fun _ => True) [19] [] 0 99 (nwR 19 [7]) S' (LeH.refl _) (by kernel_rfl) (by kernel_rfl) (by kernel_rfl) trivial trivial rfl rfl rfl rfl ?_
  refine xt (v := .ptr 0 0) rfl rfl (by kernel_rfl) (fun y hy => zf ya) ?_
  repeat' (first | refine sA ?_ | ((first | apply kM | apply kN); (iterate 3 (· exact rfl)); (· first | (show Y _ ⟨_, .indexAddr _ _ _, _, _, _, _⟩ _ _ _; first | exact jP ((D.getD k default).task.toNat) rfl rfl rfl rfl rfl rfl (by omega) (by omega)))) | refine sY ?_ | (show QW _ _ _ _ _ _ _ _ _ _ _ _ _ _ _; first | refine qr ?_ | (apply qt; (· exact rfl); (· exact rfl); (· exact rfl); (· intro y' f' hy'; first | (show Y _ ⟨_, .indexAddr _ _ _, _, _, _, _⟩ _ _ _; first | exact jP ((D.getD k default).task.toNat) rfl rfl rfl rfl rfl rfl (by omega) (by omega)) | exact ya); (· first | exact rfl | kernel_rfl))) | refine sG ?_ | refine sQ ?_ ?_ | intro hc | exact trivial)
  refine xP (x' := wg room S' (yb l (D.getD k default))) rfl rfl rfl trivial trivial (fun f hf => xD ρA (Yr room S' (yb l (D.getD k default)) (by omega)) rfl (show LeH ((12, .blk 60 (jD (D.getD k default))) :: jo :: evR (es' ++ [yq l ⟨B', S', last', now, true⟩ (D.getD k default).task]) :: knX l room (jv l B' (D.getD k default).task now) S' last' now true) _ from leh) rfl rfl rfl rfl rfl rfl rfl rfl (show LeH _ ((12, .blk 60 (jD (D.getD k default))) :: jo :: evR (es' ++ [yq l ⟨B', S', last', now, true⟩ (D.getD k default).task]) :: knX l room (jv l B' (D.getD k default).task now) (wg room S' (yb l (D.getD k default))) last' now true) from leh)) (by kernel_rfl) ?_
  repeat' (first | refine sA ?_ | refine sY ?_ | (show QW _ _ _ _ _ _ _ _ _ _ _ _ _ _ _; first | refine qr ?_ | (apply qt; (· exact rfl); (· exact rfl); (· exact rfl); (· intro y' f' hy'; first | exact ya); (· first | exact rfl | kernel_rfl))) | refine sG ?_ | refine sQ ?_ ?_ | intro hc | exact trivial)
  exact ⟨k + 1, by omega, by omega, les, by simp only [hnx]; exact (show LeH _ (jo :: evR (es' ++ [yq l ⟨B', S', last', now, true⟩ (D.getD k default).task]) :: knX l room (jv l B' (D.getD k default).task now) (wg room S' (yb l (D.getD k default))) last' now true) from leh)⟩
 subst hkd
 rw [List.take_length]
 have hI := OpI.dues (room := room) D (p := ((⟨B1, R, last, now, true⟩ : Kn), es1)) i2
 have hev := Jb (l := l) (room := room) D ((⟨B1, R, last, now, true⟩ : Kn), es1)
 have hfin : ∀ q, D.foldl (xw l room) ((⟨B1, R, last, now, true⟩ : Kn), es1) = q -> asks.foldl (wU l) (D.foldl (xw l room) ((⟨B1, R, last, now, true⟩ : Kn), es1)) = asks.foldl (wU l) q := fun q e => by rw [e]
 obtain ⟨q, hq⟩ : ∃ q, D.foldl (xw l room) ((⟨B1, R, last, now, true⟩ : Kn), es1) = q := ⟨_, rfl⟩
 rw [hq] at hI hev ⊢
 repeat' (first | refine sU ?_ | refine sQ ?_ ?_ | intro hc | exact trivial)
 refine jk (fun k : Nat => ([(0, .ptr 0 0), (5, .own 20), (99, .lst 1 (asks.map eI)), (100, .int .i64 asks.length), (101, .int .i64 k)], jo :: evR ((asks.take k).foldl (wU l) q).2 :: knH l room ((asks.take k).foldl (wU l) q).1)) (fun k => k <= asks.length) (fun k => asks.length - k) 0 (Nat.zero_le _) les (show LeH (jo :: evR q.2 :: knH l room q.1) _ from leh) (fun k hk3 => ?_)
 rcases Nat.lt_or_eq_of_le hk3 with hka | hka
 ·have hnx := Jj (wU l) q asks hka
  have hJ := OpI.asks hnow.1 (asks.take k) hI
  have hev2 := Qh (l := l) (asks.take k) q
  rw [List.length_take, Nat.min_eq_left (by omega)] at hJ hev2
  generalize (asks.take k).foldl (wU l) q = p at hnx hJ hev2 ⊢
  obtain ⟨⟨B', S', last', now', opn'⟩, es'⟩ := p
  obtain ⟨q1, q2, q3, q4, q5⟩ := hJ
  simp only at q1 q2 q3 q4 q5 hev hev2
  subst now'
  subst opn'
  repeat' (first | refine sT ?_ | refine sQ ?_ ?_ | intro hc | exact trivial)
  all_goals first | (exfalso; omega) | skip
  refine ole (h' := jo :: evR es' :: knX l room B' S' last' now true) (LeS.refl _) leh ?_
  refine jL (fun i => ρK i) (j1d l room ⟨B', S', last', now, true⟩ hl hnow (asks.getD k default) (q5 (asks.getD k default))) rfl rfl leh (by kernel_rfl) (by kernel_rfl) (by kernel_rfl) (by kernel_rfl) rfl rfl (fun r h' hR => ?_)
  obtain ⟨rfl, rfl⟩ := hR
  refine ⟨rfl, rfl, ?_⟩
  refine ole (h' := jo :: evR es' :: knH l room (vd l ⟨B', S', last', now, true⟩ (asks.getD k default))) (LeS.refl _) leh ?_
  cases hpq : wS l ⟨B', S', last', now, true⟩ (asks.getD k default)
  case true =>
   rw [wU, if_pos hpq] at hnx
   repeat' (first | refine sT ?_ | refine sQ ?_ ?_ | intro hc | exact trivial)
   refine jL (fun i => ρK i) (j3m l room (vd l ⟨B', S', last', now, true⟩ (asks.getD k default)) _ q1 (by omega) (asks.getD k default)) rfl rfl leh (by kernel_rfl) (by kernel_rfl) (by kernel_rfl) (by kernel_rfl) rfl rfl (fun r h' hR => ?_)
   obtain ⟨rfl, rfl⟩ := hR
   refine ⟨rfl, rfl, ?_⟩
   refine ole (h' := jo :: evR es' :: knH l room (zY l (vd l ⟨B', S', last', now, true⟩ (asks.getD k default)) (asks.getD k default))) (LeS.refl _) leh ?_
   repeat' (first | refine sT ?_ | refine sQ ?_ ?_ | intro hc | exact trivial)
   (refine v7 (id := 20) (ys := [yq l (vd l ⟨B', S', last', now, true⟩ (asks.getD k default)) (asks.getD k default)]) (by_ := 40) rfl rfl rfl rfl rfl rfl rfl rfl rfl rfl (fun _ _ => rfl) ?_ ?_ rfl rfl rfl rfl rfl ?_; (· (first | omega | ((try simp only [List.length_cons, List.length_nil, List.length_append, List.length_map]) <;> omega))); (· (first | omega | ((try simp only [List.length_cons, List.length_nil, List.length_append, List.length_map]) <;> omega))))
   repeat' (first | refine sT ?_ | refine sQ ?_ ?_ | intro hc | exact trivial)
   exact ⟨k + 1, by omega, by omega, les, by simp only [hnx]; exact leh⟩
  case false =>
   rw [wU, if_neg (by rw [hpq]; decide)] at hnx
   repeat' (first | refine sT ?_ | refine sQ ?_ ?_ | intro hc | exact trivial)
   refine jL (fun i => ρK i) (wj l room (vd l ⟨B', S', last', now, true⟩ (asks.getD k default)) 2 (asks.getD k default) 0 0) rfl rfl leh (by kernel_rfl) (by kernel_rfl) (by kernel_rfl) (by kernel_rfl) rfl rfl (fun r h' hR => ?_)
   obtain ⟨rfl, rfl⟩ := hR
   refine ⟨rfl, rfl, ?_⟩
   refine ole (h' := jo :: evR es' :: knH l room (vd l ⟨B', S', last', now, true⟩ (asks.getD k default))) (LeS.refl _) leh ?_
   repeat' (first | refine sT ?_ | refine sQ ?_ ?_ | intro hc | exact trivial)
   (refine v7 (id := 20) (ys := [(⟨now, 2, (asks.getD k default), 0, 0⟩ : Event)]) (by_ := 40) rfl rfl rfl rfl rfl rfl rfl rfl rfl rfl (fun _ _ => rfl) ?_ ?_ rfl rfl rfl rfl rfl ?_; (· (first | omega | ((try simp only [List.length_cons, List.length_nil, List.length_append, List.length_map]) <;> omega))); (· (first | omega | ((try simp only [List.length_cons, List.length_nil, List.length_append, List.length_map]) <;> omega))))
   repeat' (first | refine sT ?_ | refine sQ ?_ ?_ | intro hc | exact trivial)
   exact ⟨k + 1, by omega, by omega, les, by simp only [hnx]; exact leh⟩
 subst hka
 rw [List.take_length]
 repeat' (first | refine sT ?_ | refine sQ ?_ ?_ | intro hc | exact trivial)
 refine ww (fun _ => jf (t := 4) rfl rfl rfl) ?_
 exact jK rfl ⟨jo :: knH l room (asks.foldl (wU l) q).1, leh, rfl, rfl⟩
def zE (l : List Task) (K : Kn) (at_ : Int) (ended : Bool) : List Event :=
 if K.opn then (if 0 <= qE l K.B then Vm K.now (qE l K.B) at_ ended (jH K.B (qE l K.B)) (vQ K.now (jH (jc K.B (qE l K.B) K.now) (qE l K.B))) else [⟨K.now, 6, -1, 0, 0⟩]) else []
def vY (l : List Task) (K : Kn) (ended : Bool) : Kn :=
 if K.opn then { K with B := if 0 <= qE l K.B then x9 K.B K.now (qE l K.B) ended else K.B, now := K.now + 1, opn := false } else K
set_option maxHeartbeats 8000000 in
theorem j2i (l : List Task) (room : Int) (K : Kn) (n : Nat) (hl : l.length <= 1000000) (h : GoodB l n K.B) (hn : n <= 99999) (at_ : Int) (ended : Bool) (hh : 0 <= qE l K.B -> jm K.B.act (qE l K.B) = true) (hnow : 0 <= K.now ∧ K.now <= 2000000) (hrel : 0 <= qE l K.B -> 0 <= (jH (jc K.B (qE l K.B) K.now) (qE l K.B)).release ∧ (jH (jc K.B (qE l K.B) K.now) (qE l K.B)).release <= 2000000) :
  FnH Tryz.prog 12 [.ptr 0 0, .int .i64 at_, .bool ended] (jo :: knH l room K)
  (fun r h' => r = .lst 5 ((zE l K at_ ended).map vA) ∧ h' = jo :: knH l room (vY l K ended)) := by
 obtain ⟨B, S, last, now, opn⟩ := K
 simp only at h hh hnow hrel ⊢
 refine FnH.drop' (qo Tryz.func12 (j5 (by kernel_rfl)) rfl rfl ?_)
 cases opn
 case false =>
  repeat' (first | refine sT ?_ | refine sQ ?_ ?_ | intro hc | exact trivial)
  refine ww (fun _ => V8 5 (t := 6) rfl) ?_
  exact jK rfl ⟨jo :: knX l room B S last now false, leh, rfl, rfl⟩
 have c1 := Yx l room ⟨B, S, last, now, true⟩ hl h.act
 have eE : zE l ⟨B, S, last, now, true⟩ at_ ended = if 0 <= qE l B then Vm now (qE l B) at_ ended (jH B (qE l B)) (vQ now (jH (jc B (qE l B) now) (qE l B))) else [⟨now, 6, -1, 0, 0⟩] := rfl
 have eK : vY l ⟨B, S, last, now, true⟩ ended = ⟨if 0 <= qE l B then x9 B now (qE l B) ended else B, S, last, now + 1, false⟩ := rfl
 rw [eE, eK]
 have c3 : FnH Tryz.prog 10 [.ptr 0 0] (jo :: knX l room B S last now true) (fun r h' => r = .tup [.int .i64 (max (qE l B) 0), .bool (decide (0 <= qE l B))] ∧ h' = jo :: knX l room B S last now true) := c1
 clear c1
 by_cases hp : 0 <= qE l B
 ·have c2 := j4s l room ⟨B, S, last, now, true⟩ n h hn (qE l B) at_ ended (hh hp) hnow (hrel hp)
  rw [if_pos hp, if_pos hp]
  have hmx : max (qE l B) 0 = qE l B := by omega
  have c1 : FnH Tryz.prog 10 [.ptr 0 0] (jo :: knX l room B S last now true) (fun r h' => r = .tup [.int .i64 (qE l B), .bool true] ∧ h' = jo :: knX l room B S last now true) := by rw [hmx, decide_eq_true hp] at c3; exact c3
  generalize qE l B = pv at *
  repeat' (first | refine sT ?_ | refine sQ ?_ ?_ | intro hc | exact trivial)
  refine jL (fun i => ρK i) (wj l room ⟨B, S, last, now, true⟩ 6 (-1) 0 0) rfl rfl leh (by kernel_rfl) (by kernel_rfl) (by kernel_rfl) (by kernel_rfl) rfl rfl (fun r h' hR => ?_)
  obtain ⟨rfl, rfl⟩ := hR
  refine ⟨rfl, rfl, ?_⟩
  refine ole (h' := jo :: knX l room B S last now true) (LeS.refl _) leh ?_
  repeat' (first | refine sT ?_ | refine sQ ?_ ?_ | intro hc | exact trivial)
  refine jL (fun i => ρK i) (c1) rfl rfl leh (by kernel_rfl) (by kernel_rfl) (by kernel_rfl) (by kernel_rfl) rfl rfl (fun r h' hR => ?_)
  obtain ⟨rfl, rfl⟩ := hR
  refine ⟨rfl, rfl, ?_⟩
  refine ole (s' := [(0, .ptr 0 0), (1, .int .i64 at_), (2, .bool ended), (7, .lst 5 ([(⟨now, 6, -1, 0, 0⟩ : Event)].map vA)), (24, .tup [.int .i64 (pv), .bool true])]) (h' := jo :: knX l room B S last now true) les leh ?_
  repeat' (first | refine sT ?_ | refine sQ ?_ ?_ | intro hc | exact trivial)
  refine jL (fun i => ρK i) (c2) rfl rfl leh (by kernel_rfl) (by kernel_rfl) (by kernel_rfl) (by kernel_rfl) rfl rfl (fun r h' hR => ?_)
  obtain ⟨rfl, rfl⟩ := hR
  refine ⟨rfl, rfl, ?_⟩
  refine ole (s' := [(0, .ptr 0 0), (32, .lst 5 ((Vm now pv at_ ended (jH B pv) (vQ now (jH (jc B pv now) pv))).map vA))]) (h' := jo :: knX l room (x9 B now pv ended) S last now true) les leh ?_
  repeat' (first | refine sT ?_ | refine sQ ?_ ?_ | intro hc | exact trivial)
  exact jK rfl ⟨jo :: knX l room (x9 B now pv ended) S last (now + 1) false, leh, rfl, rfl⟩
 ·rw [if_neg hp, if_neg hp]
  have c1 : FnH Tryz.prog 10 [.ptr 0 0] (jo :: knX l room B S last now true) (fun r h' => r = .tup [.int .i64 (max (qE l B) 0), .bool false] ∧ h' = jo :: knX l room B S last now true) := by rw [decide_eq_false hp] at c3; exact c3
  repeat' (first | refine sT ?_ | refine sQ ?_ ?_ | intro hc | exact trivial)
  refine jL (fun i => ρK i) (wj l room ⟨B, S, last, now, true⟩ 6 (-1) 0 0) rfl rfl leh (by kernel_rfl) (by kernel_rfl) (by kernel_rfl) (by kernel_rfl) rfl rfl (fun r h' hR => ?_)
  obtain ⟨rfl, rfl⟩ := hR
  refine ⟨rfl, rfl, ?_⟩
  refine ole (h' := jo :: knX l room B S last now true) (LeS.refl _) leh ?_
  repeat' (first | refine sT ?_ | refine sQ ?_ ?_ | intro hc | exact trivial)
  refine jL (fun i => ρK i) (c1) rfl rfl leh (by kernel_rfl) (by kernel_rfl) (by kernel_rfl) (by kernel_rfl) rfl rfl (fun r h' hR => ?_)
  obtain ⟨rfl, rfl⟩ := hR
  refine ⟨rfl, rfl, ?_⟩
  refine ole (s' := [(0, .ptr 0 0), (1, .int .i64 at_), (2, .bool ended), (7, .lst 5 ([(⟨now, 6, -1, 0, 0⟩ : Event)].map vA)), (24, .tup [.int .i64 (max (qE l B) 0), .bool false])]) (h' := jo :: knX l room B S last now true) les leh ?_
  repeat' (first | refine sT ?_ | refine sQ ?_ ?_ | intro hc | exact trivial)
  exact jK rfl ⟨jo :: knX l room B S last (now + 1) false, leh, rfl, rfl⟩
theorem j0I {prio : List Int} : ∀ (q : List Int) (b : Int), q.foldl (yG prio) b = b ∨ q.foldl (yG prio) b ∈ q
 | [], b => .inl rfl
 | x :: q, b => by
  rw [List.foldl_cons]
  rcases j0I q (yG prio b x) with h | h
  ·rw [h]; unfold yG; split
   ·exact .inr List.mem_cons_self
   ·exact .inl rfl
  ·exact .inr (List.mem_cons_of_mem _ h)
theorem j1O {l : List Task} {B : Bk} (h : 0 <= qE l B) : jm B.act (qE l B) = true := by
 rw [vx, decide_eq_true_eq]
 unfold qE V2 at *
 rw [List.take_length] at *
 rcases j0I (prio := ze l) (jV B.act) (-1) with e | e
 ·omega
 ·exact e
section
variable {n : Md} {s : j6} {h : j8}
theorem j3h {E : Env} {σ : Sig} {ι : Nat -> Value} {w : World} {id sz : Nat} {e : TypeId} {xs : List (List AV)} (hr : Rel E σ ι h w) (hg : j9 h id = some (.row e sz xs)) (h10 : 10 <= id ∧ id < 100) : ∃ σ', Sig.le σ σ' ∧ Rel E σ' ι (yf id h) w ∧ VR σ' ι (.lst sz xs) (ι id) := by
 obtain ⟨hsz0, hsz, vs, hown, hL⟩ := hr.ch id _ hg
 rcases hown.2 with ⟨h1, h2⟩ | ⟨g, cap, cur, h1, _, h2, h3, h4, h5, h6⟩
 ·have hnil : xs = [] := List.eq_nil_of_length_eq_zero h2
  subst hnil
  refine ⟨σ, Sig.le.refl σ, hr.le fun i c hc => ?_, ?_⟩
  ·rw [vE] at hc
   split at hc
   ·cases hc
   ·exact hc
  ·rw [h1]; exact .base _ _ (.empty _ _ _ (by simp))
 ·obtain ⟨h7, h8⟩ := hr.letGo hg (g := g) (by rw [h1]; rfl) h10 (xs.length * sz)
  refine ⟨_, h7, h8, ?_⟩
  rw [h1]
  have hfl := qM hsz
  refine .base _ _ (.lst _ _ _ 0 _ (fun j => (vs[j]?).getD undef) h3 h4 hsz (fun j c hc => ?_) fun j c hc => ?_)
  ·obtain ⟨u, hu, _⟩ := hL.get hc
   have hj : j < xs.length * sz := by rw [<- hfl]; exact (List.getElem?_eq_some_iff.1 hc).1
   unfold yX
   rw [if_pos ⟨rfl, rfl, by simpa using hj⟩]
   rw [hu]
   rw [<- h6, List.getElem?_take] at hu
   rw [if_pos hj] at hu
   simp only [World.cell?, h2, Option.isSome_none, Bool.false_eq_true, if_false, Nat.zero_add, Option.getD_some]
   rw [<- Array.getElem?_toList]; exact hu
  ·obtain ⟨u, hu, hR⟩ := hL.get hc
   rw [hu]; exact hR.mono h7
theorem j1H {b id sz : Nat} {ty e : TypeId} {cs : List AV} {xs : List (List AV)} (j : Nat) (hg : j9 h b = some (.blk ty cs)) (hj : cs[j]? = some (.own id)) (hi : j9 h id = some (.row e sz xs)) (h10 : ZV id = true) : Turns n s h s ((b, .blk ty (cs.set j (.lst sz xs))) :: yf id h) := by
 intro E σ ι a w hr ht
 have hbi : b ≠ id := fun e => by rw [e, hi] at hg; cases hg
 obtain ⟨σ', q1, r1, q3⟩ := j3h hr hi (yD h10)
 have hgb : j9 (yf id h) b = some (.blk ty cs) := by rw [vE, if_neg (by first | exact hbi | exact fun e => hbi e.symm)]; exact hg
 obtain ⟨g, cur, e1, e2, e3⟩ := r1.ch b _ hgb
 have hsame : YtfjoaeghnfkdlaaGreatDoor.upd ι b (ι b) = ι := by funext i; unfold YtfjoaeghnfkdlaaGreatDoor.upd; split <;> simp_all
 have hnew := r1.turn (id := b) (u := ι b) (h' := (b, .blk ty (cs.set j (.lst sz xs))) :: yf id h) (c' := .blk ty (cs.set j (.lst sz xs))) (w' := w)
  (fun i c hi hc => by rw [j7, if_neg (fun e => hi e.symm)] at hc; exact ⟨hc, .inl rfl⟩) (by rw [j7, if_pos rfl])
  (by rw [hsame]; exact ⟨g, cur, e1, e2, by rw [List.length_set]; exact e3.1, fun k x y hx hy => by
    rw [List.getElem?_set] at hx
    by_cases hjk : j = k
    ·subst hjk
     have h5 := e3.2 j (.own id) y hj hy
     have hjl := (List.getElem?_eq_some_iff.1 hj).1
     rw [if_pos rfl, if_pos hjl] at hx
     cases hx
     rw [h5.own_inv]; exact q3
    ·rw [if_neg hjk] at hx
     exact e3.2 k x y hx hy⟩)
  rfl rfl rfl (Nat.le_refl _) (fun _ _ _ => rfl) (fun g hv => .inl ⟨_, hgb, hv⟩) (.inr rfl)
 rw [hsame] at hnew
 exact ⟨σ', ι, hnew, ⟨ht.size, ht.defers, fun u => (ht.at_ u).mono q1⟩⟩
end
def Xn (q : Nat -> Bool) (n : Nat) : Option Nat := (List.range n).find? q
theorem j0v {q : Nat -> Bool} {n k : Nat} (hk : k < n) (hq : q k = true) (hno : ∀ j, j < k -> q j = false) : Xn q n = some k := by
 rw [Xn, List.find?_range_eq_some]; exact ⟨hq, List.mem_range.2 hk, fun j hj => by simp [hno j hj]⟩
theorem j0c {q : Nat -> Bool} {n : Nat} (hno : ∀ j, j < n -> q j = false) : Xn q n = none := by
 rw [Xn, List.find?_range_eq_none]; exact fun j hj => by simp [hno j hj]
theorem j50 {q : Nat -> Bool} {k : Nat} (hno : ∀ j, j < k -> q j = false) (h : q k = false) : ∀ j, j < k + 1 -> q j = false := fun j hj => by
 rcases Nat.lt_succ_iff_lt_or_eq.1 hj with h' | rfl
 ·exact hno j h'
 ·exact h
def j5X (o : Option Nat) : Int := match o with | some k => (k : Int) | none => -1
theorem j3x {α : Type} [Inhabited α] (q : α -> Bool) (xs : List α) : decide (0 <= j5X (Xn (fun i => q (xs.getD i default)) xs.length)) = xs.any q := by
 cases h : Xn (fun i => q (xs.getD i default)) xs.length with
 | some k =>
  rw [Xn, List.find?_range_eq_some] at h
  have hk := List.mem_range.1 h.2.1
  have h1 : q xs[k] = true := by simpa [hk] using h.1
  rw [List.any_eq_true.2 ⟨xs[k], List.getElem_mem hk, h1⟩]
  simp [j5X]
 | none =>
  rw [Xn, List.find?_range_eq_none] at h
  have : xs.any q = false := by
   rw [List.any_eq_false]
   intro x hx
   obtain ⟨j, hj⟩ := List.getElem?_of_mem hx
   have hjl : j < xs.length := (List.getElem?_eq_some_iff.1 hj).1
   have := h j hjl
   simpa [hjl, (List.getElem?_eq_some_iff.1 hj).2] using this
  rw [this]; rfl
theorem Zp (xs : List Task) (F : FuncId) (cap : List AV) (q : Task -> Bool) (hF : ∀ x, Fn Tryz.prog F ([.agg (jJ x)] ++ cap) (.bool (q x))) (hn : xs.length <= 1000000) :
  Fn Tryz.prog 69 [.lst 7 (xs.map jJ), .fn (.func F) [] cap] (.int .i64 (j5X (Xn (fun i => q (xs.getD i default)) xs.length))) := by
 refine fnb Tryz.func69 (j5 (by kernel_rfl)) rfl rfl rfl ?_
 repeat' (first | refine sT ?_ | refine sQ ?_ ?_ | intro hc | exact trivial)
 refine jk (fun k : Nat => ([(0, .lst 7 (xs.map jJ)), (1, .fn (.func F) [] cap), (7, .int .i64 xs.length), (8, .int .i64 k)], [])) (fun k => k <= xs.length ∧ ∀ j, j < k -> q (xs.getD j default) = false) (fun k => xs.length - k) 0 ⟨Nat.zero_le _, fun j hj => absurd hj (by omega)⟩ les leh (fun k hk => ?_)
 obtain ⟨hk, hno⟩ := hk
 by_cases hlt : k < xs.length
 ·repeat' (first | refine sT ?_ | refine sC (hF (xs.getD k default)) ?_ | refine sQ ?_ ?_ | intro hc | exact trivial)
  all_goals first | (exfalso; omega) | skip
  ·rw [j0v (q := fun i => q (xs.getD i default)) hlt hc hno]; exact jK rfl rfl
  ·exact ⟨k + 1, ⟨by omega, j50 (q := fun i => q (xs.getD i default)) hno hc⟩, by omega, les, leh⟩
 ·obtain rfl : k = xs.length := by omega
  rw [j0c (q := fun i => q (xs.getD i default)) hno]
  repeat' (first | refine sT ?_ | refine sQ ?_ ?_ | intro hc | exact trivial)
  all_goals first | (exfalso; omega) | exact jK rfl rfl
theorem VL (xs : List Task) (F : FuncId) (cap : List AV) (q : Task -> Bool) (hF : ∀ x, Fn Tryz.prog F ([.agg (jJ x)] ++ cap) (.bool (q x))) (hn : xs.length <= 1000000) :
  Fn Tryz.prog 32 [.lst 7 (xs.map jJ), .fn (.func F) [] cap] (.bool (xs.any q)) := by
 rw [<- j3x]
 refine fnb Tryz.func32 (j5 (by kernel_rfl)) rfl rfl rfl ?_
 repeat' (first | refine sT ?_ | refine sC (Zp xs F cap q hF hn) ?_ | refine sQ ?_ ?_ | intro hc | exact trivial)
 exact jK rfl rfl
theorem X5 (t : Task) : Fn Tryz.prog 33 ([.agg (jJ t)] ++ []) (.bool (!jt t)) := by
 refine fnb Tryz.func33 (j5 (by kernel_rfl)) rfl rfl rfl ?_
 repeat' (first | refine sT ?_ | refine sC (Qo t) ?_ | refine sQ ?_ ?_ | intro hc | exact trivial)
 exact jK rfl rfl
def okK (l : List Task) : Bool := decide (1 <= l.length ∧ l.length <= 8) && l.all jt
theorem j0Z {α β : Type} [Inhabited α] (f : α -> β) (l : List α) {k : Nat} (h : k < l.length) : (l.take (k + 1)).map f = (l.take k).map f ++ [f (l.getD k default)] := by
 have e : l.getD k default = l[k] := by simp [h]
 rw [List.take_succ_eq_append_getElem h, List.map_append, e]; rfl
def w7 (l : List Task) (k : Nat) : List Due := ((List.range k).filter fun i => decide (0 <= qs (l.getD i default) 0)).map fun i => ⟨qs (l.getD i default) 0, i⟩
def z8 (l : List Task) : Kn := ⟨xg, w7 l l.length, [], 0, false⟩
theorem Qk (l : List Task) (k : Nat) : (w7 l k).length <= k := by
 unfold w7; rw [List.length_map]
 exact Nat.le_trans (List.length_filter_le _ _) (by simp)
theorem ZU {l : List Task} {k : Nat} (h : 0 <= qs (l.getD k default) 0) : w7 l (k + 1) = w7 l k ++ [⟨qs (l.getD k default) 0, k⟩] := by
 unfold w7; rw [List.range_succ, List.filter_append, List.map_append, List.filter_cons, if_pos (decide_eq_true h)]; rfl
theorem j1b {l : List Task} {k : Nat} (h : ¬ 0 <= qs (l.getD k default) 0) : w7 l (k + 1) = w7 l k := by
 unfold w7; rw [List.range_succ, List.filter_append, List.map_append, List.filter_cons, if_neg (by simpa using h)]; simp
abbrev dmy (i : Nat) : Nat × Chunk := (i, .row 3 1 (([] : List Int).map eI))
abbrev j71 : j8 := [dmy 100, dmy 101, dmy 102, dmy 103, dmy 104, dmy 105, dmy 106, dmy 107, dmy 108]
abbrev knY (l : List Task) (room : Int) (B : Bk) (S : List Due) (last : List (Int × Int)) (now : Int) (opn : Bool) : j8 :=
 [(100, .blk 87 [.lst 7 (l.map jJ), .lst 1 ((l.map Task.prio).map eI), .ptr 101 0, .ptr 104 0, .own 108, .int .i64 now, .bool opn]),
  (101, .blk 127 [.lst 7 (l.map jJ), .own 105, .own 102, .own 103, .int .u64 B.act, .own 106]), (105, .row 71 8 (B.all.map vX)), (102, mI B.now), (103, mI B.cnt), (106, .row 60 2 (B.overs.map jD)),
  (104, .blk 129 [.int .i64 room, .own 107]), (107, agC S), (108, mI last)]
abbrev knO (l : List Task) (room : Int) (K : Kn) : j8 := knY l room K.B K.S K.last K.now K.opn
abbrev nwX (l : List Task) (c : AV) (ps : List Int) (S : List Due) : j8 :=
 [(100, .blk 87 [.lst 7 (l.map jJ), c, .ptr 101 0, .ptr 104 0, .own 108, .int .i64 0, .bool false]), (10, .row 3 1 (ps.map eI)),
  (101, .blk 127 [.lst 7 (l.map jJ), .own 105, .own 102, .own 103, .int .u64 0, .own 106]), (105, .row 71 8 (([] : List Job).map vX)), (102, mI []), (103, mI []), (106, .row 60 2 (([] : List Due).map jD)),
  (104, .blk 129 [.int .i64 l.length, .own 107]), (107, agC S), (108, mI [])]
abbrev nwH (l : List Task) (ps : List Int) (S : List Due) : j8 := nwX l (.own 10) ps S
abbrev tkB (t : Task) : Nat × Chunk := (12, .blk 77 (jJ t))
def ρN (i : Nat) : Nat := [0, 1, 2, 3, 4, 101, 102, 103].getD i (i + 200)
def ρM (i : Nat) : Nat := [0, 1, 2, 3, 4, 104].getD i (i + 200)
def ρP (i : Nat) : Nat := [104, 201, 202, 203, 204, 107].getD i (i + 200)
theorem j0b (l : List Task) (hl : l.length <= 1000000) (h : okK l = false) : Fn Tryz.prog 8 [.lst 7 (l.map jJ)] (.tup [.nilp, .int .i64 1]) := by
 have c1 := VL l 33 [] _ X5 hl
 rw [show (l.any fun t => !jt t) = !l.all jt by rw [List.all_eq_not_any_not]; simp] at c1
 refine fnb Tryz.func8 (j5 (by kernel_rfl)) rfl rfl rfl ?_
 rw [okK] at h
 by_cases h1 : 1 <= l.length ∧ l.length <= 8
 ·rw [decide_eq_true h1, Bool.true_and] at h
  rw [h] at c1
  repeat' (first | refine sT ?_ | refine sC (c1) ?_ | refine sQ ?_ ?_ | intro hc | exact trivial)
  all_goals first | (exfalso; omega) | exact jK rfl rfl
 ·by_cases h0 : l.length = 0
  ·repeat' (first | refine sT ?_ | refine sQ ?_ ?_ | intro hc | exact trivial)
   all_goals first | (exfalso; omega) | exact jK rfl rfl
  ·repeat' (first | refine sT ?_ | refine sQ ?_ ?_ | intro hc | exact trivial)
   all_goals first | (exfalso; omega) | exact jK rfl rfl
set_option maxHeartbeats 8000000 in
theorem YQ (l : List Task) (h : okK l = true) : FnH Tryz.prog 8 [.lst 7 (l.map jJ)] j71 (fun r h' => r = .tup [.ptr 100 0, .int .i64 0] ∧ h' = knO l l.length (z8 l)) := by
 rw [okK, Bool.and_eq_true, decide_eq_true_eq] at h
 obtain ⟨⟨h1, h2⟩, h3⟩ := h
 have c1 := VL l 33 [] _ X5 (by omega)
 rw [show (l.any fun t => !jt t) = !l.all jt by rw [List.all_eq_not_any_not]; simp, h3] at c1
 have c2 := Yu l (by omega)
 have c3 := j2j l (by omega)
 rw [show YG l = l from by unfold YG; rw [List.take_of_length_le]; omega] at c3
 have c4 := j2z l.length
 rw [show max 0 (min (l.length : Int) 4096) = l.length by omega] at c4
 refine FnH.drop' (qo Tryz.func8 (j5 (by kernel_rfl)) rfl rfl ?_)
 refine wle (s' := [(0, .lst 7 (l.map jJ))]) (h' := []) les (LeH.nil _) ?_
 repeat' (first | refine sT ?_ | refine sC (c1) ?_ | refine sC (c2) ?_ | refine sQ ?_ ?_ | intro hc | exact trivial)
 all_goals first | (exfalso; omega) | skip
 refine ole (s' := [(0, .lst 7 (l.map jJ)), (22, .lst 7 (l.map jJ)), (23, .lst 7 (l.map jJ))]) (h' := []) les (LeH.nil _) ?_
 refine jh (jA eI 101 3 1 (by omega) rfl) ?_
 refine jh (jA eI 102 3 1 (by omega) rfl) ?_
 refine jh (jA eI 103 3 1 (by omega) rfl) ?_
 refine jL (fun i => ρN i) (c3) rfl rfl leh rfl rfl rfl rfl rfl rfl (fun r h' hR => ?_)
 obtain ⟨rfl, rfl⟩ := hR
 refine ⟨rfl, rfl, ?_⟩
 refine ole (s' := [(0, .lst 7 (l.map jJ)), (22, .lst 7 (l.map jJ)), (24, .ptr 101 0)]) (h' := [(101, .blk 127 [.lst 7 (l.map jJ), .nils, .own 102, .own 103, .int .u64 0, .nils]), (102, mI []), (103, mI [])]) les leh ?_
 repeat' (first | refine sT ?_ | refine sQ ?_ ?_ | intro hc | exact trivial)
 refine jh (jA eI 104 3 1 (by omega) rfl) ?_
 refine jL (fun i => ρM i) (c4) rfl rfl leh rfl rfl rfl rfl rfl rfl (fun r h' hR => ?_)
 obtain ⟨rfl, rfl⟩ := hR
 refine ⟨rfl, rfl, ?_⟩
 refine ole (s' := [(0, .lst 7 (l.map jJ)), (22, .lst 7 (l.map jJ)), (24, .ptr 101 0), (27, .ptr 104 0)]) (h' := [(104, .blk 129 [.int .i64 l.length, .nils]), (101, .blk 127 [.lst 7 (l.map jJ), .nils, .own 102, .own 103, .int .u64 0, .nils]), (102, mI []), (103, mI [])]) les leh ?_
 repeat' (first | refine sT ?_ | refine sQ ?_ ?_ | intro hc | exact trivial)
 refine j3t 108 (fun n : Int => AV.int .i64 n) rfl rfl rfl rfl ?_
 repeat' (first | refine sA ?_ | (show O _ _ _ _ _ _ _; first | (show O _ _ _ _ (⟨_, .box _ _, _, _, _, _⟩ :: _) _ _; first | refine wx (id := 100) rfl rfl rfl rfl rfl rfl rfl rfl ?_)) | ((first | apply kM | apply kN); (iterate 3 (· exact rfl)); (· first | exact yab)) | refine sG ?_ | refine sQ ?_ ?_ | intro hc | exact trivial)
 refine wle (s' := [(4, .ptr 100 0), (31, .lst 7 (l.map jJ)), (32, .int .i64 l.length), (33, .int .i64 0)]) (h' := [(100, .blk 87 [.lst 7 (l.map jJ), .nils, .ptr 101 0, .ptr 104 0, .own 108, .int .i64 0, .bool false]), (101, .blk 127 [.lst 7 (l.map jJ), .nils, .own 102, .own 103, .int .u64 0, .nils]), (102, mI []), (103, mI []), (104, .blk 129 [.int .i64 l.length, .nils]), (108, mI [])]) les leh ?_
 refine va (w8 vX (b := 101) 1 rfl rfl 105 71 8 (by omega) rfl) ?_
 refine va (w8 jD (b := 101) 5 rfl rfl 106 60 2 (by omega) rfl) ?_
 refine va (w8 jD (b := 104) 1 rfl rfl 107 60 2 (by omega) rfl) ?_
 refine va (j0q 107 (agΦ []) rfl ⟨[], rfl, fun k _ hk => absurd hk (by simp), List.Perm.refl _⟩) ?_
 refine va (w8 eI (b := 100) 1 rfl rfl 10 3 1 (by omega) rfl) ?_
 refine jk (fun k : Nat => ([(4, .ptr 100 0), (31, .lst 7 (l.map jJ)), (32, .int .i64 l.length), (33, .int .i64 k)], nwH l ((l.take k).map Task.prio) (w7 l k))) (fun k => k <= l.length) (fun k => l.length - k) 0 (Nat.zero_le _) les (show LeH _ (nwH l [] []) from leh) (fun k hk => ?_)
 rcases Nat.lt_or_eq_of_le hk with hkk | hkk
 ·have hnx := j0Z Task.prio l hkk
  have hpl : jt (l.getD k default) = true := List.all_eq_true.1 h3 _ (qN hkk)
  have hsl := Qk l k
  have hpsl : ((l.take k).map Task.prio).length <= 8 := by rw [List.length_map, List.length_take]; omega
  have c5 := XP (l.getD k default) 0
  have hyes := ZU (l := l) (k := k)
  have hno := j1b (l := l) (k := k)
  generalize (l.take k).map Task.prio = ps at hnx hpsl ⊢
  generalize w7 l k = S at hsl hyes hno ⊢
  repeat' (first | refine sB ?_ | (show O _ _ _ _ _ _ _; first | refine jR (id := 12) rfl rfl rfl rfl rfl rfl rfl ?_) | refine sY ?_ | refine sG ?_ | refine sQ ?_ ?_ | intro hc | exact trivial)
  all_goals first | (exfalso; omega) | skip
  refine wle (s' := [(4, .ptr 100 0), (5, .int .i64 k), (6, .ptr 12 0), (31, .lst 7 (l.map jJ)), (32, .int .i64 l.length), (33, .int .i64 k)]) (h' := tkB (l.getD k default) :: nwX l (.own 10) ps S) les (show LeH _ (tkB (l.getD k default) :: nwX l (.own 10) ps S) from leh) ?_
  refine ZK (H := fun y : j8 => y) (ok := fun _ => True) (tn := [8, 11]) (ln := [4, 6]) (c := 8) (R := 10) (tkB (l.getD k default) :: nwX l (.own 10) ps S) (LeH.refl _) (by kernel_rfl) (by kernel_rfl) (by kernel_rfl) trivial ?_
  repeat' (first | refine sA ?_ | refine sY ?_ | (show KW _ _ _ _ _ _ _ _ _ _ _ _ _; first | refine Xk rfl ?_ | (apply J3; (· exact rfl); (· exact rfl); (· exact rfl); (· intro y' hy'; first | exact ya); (· first | exact rfl | kernel_rfl)) | (apply Xs; (· exact rfl); (· exact rfl); (· exact rfl); (· exact rfl); (· first | exact ya); (· first | exact rfl | kernel_rfl))) | refine sG ?_ | refine sQ ?_ ?_ | intro hc | exact trivial)
  refine j5t (x' := tkB (l.getD k default) :: nwX l .undef (ps ++ [(l.getD k default).prio]) S) rfl rfl rfl trivial
   (TuK.post (TuK.pre (Qu (h2 := tkB (l.getD k default) :: nwX l .undef ps S) [false, true] (id := 100) rfl leh)
     (Jx (l := ps) (f := eI) (ys := [(l.getD k default).prio]) (by_ := 8) rfl rfl rfl rfl rfl rfl rfl rfl rfl rfl (fun _ _ => rfl) (by simp only [List.length_cons, List.length_nil]; omega) (by simp only [List.length_cons, List.length_nil]; omega) rfl rfl)) leh) ?_
  repeat' (first | refine sA ?_ | refine sY ?_ | (show KW _ _ _ _ _ _ _ _ _ _ _ _ _; first | refine Xk rfl ?_ | (apply J3; (· exact rfl); (· exact rfl); (· exact rfl); (· intro y' hy'; first | exact ya); (· first | exact rfl | kernel_rfl)) | (apply Xs; (· exact rfl); (· exact rfl); (· exact rfl); (· exact rfl); (· first | exact ya); (· first | exact rfl | kernel_rfl))) | refine sG ?_ | refine sQ ?_ ?_ | intro hc | exact trivial)
  refine j68 (x' := tkB (l.getD k default) :: nwX l (.own 10) (ps ++ [(l.getD k default).prio]) S) rfl rfl rfl trivial ((xV (VP rfl rfl rfl rfl rfl rfl (Nat.le_of_ble_eq_true rfl)) rfl).post leh) (by kernel_rfl) ?_
  repeat' (first | refine sA ?_ | refine sY ?_ | (show KW _ _ _ _ _ _ _ _ _ _ _ _ _; first | refine Xk rfl ?_ | (apply J3; (· exact rfl); (· exact rfl); (· exact rfl); (· intro y' hy'; first | exact ya); (· first | exact rfl | kernel_rfl)) | (apply Xs; (· exact rfl); (· exact rfl); (· exact rfl); (· exact rfl); (· first | exact ya); (· first | exact rfl | kernel_rfl))) | refine sG ?_ | refine sQ ?_ ?_ | intro hc | exact trivial)
  refine ole (s' := [(4, .ptr 100 0), (5, .int .i64 k), (6, .ptr 12 0), (31, .lst 7 (l.map jJ)), (32, .int .i64 l.length), (33, .int .i64 k), (50, .agg (jJ (l.getD k default)))]) (h' := tkB (l.getD k default) :: nwX l (.own 10) (ps ++ [(l.getD k default).prio]) S) les leh ?_
  by_cases hz : 0 <= qs (l.getD k default) 0
  ·rw [decide_eq_true hz, if_neg (show ¬ qs (l.getD k default) 0 < 0 by omega)] at c5
   have hpe : xS l.length S.length ⟨qs (l.getD k default) 0, k⟩ = 0 := by rw [xS, if_neg (by simp only; omega), if_neg (by omega)]
   have c6 := Yr l.length S ⟨qs (l.getD k default) 0, k⟩ (by omega)
   rw [wg, hpe, if_pos rfl, <- hyes hz] at c6
   repeat' (first | refine sT ?_ | refine sC (c5) ?_ | refine sQ ?_ ?_ | intro hc | exact trivial)
   all_goals first | (exfalso; omega) | skip
   refine jL (fun i => ρP i) (c6) rfl rfl leh rfl rfl rfl rfl rfl rfl (fun r h' hR => ?_)
   obtain ⟨rfl, rfl⟩ := hR
   refine ⟨rfl, rfl, ?_⟩
   refine ole (s' := [(4, .ptr 100 0), (31, .lst 7 (l.map jJ)), (32, .int .i64 l.length), (33, .int .i64 k)]) (h' := nwX l (.own 10) (ps ++ [(l.getD k default).prio]) (w7 l (k + 1))) les leh ?_
   repeat' (first | refine sT ?_ | refine sQ ?_ ?_ | intro hc | exact trivial)
   exact ⟨k + 1, by omega, by omega, les, by simp only [hnx]; exact leh⟩
  ·rw [decide_eq_false hz] at c5
   repeat' (first | refine sT ?_ | refine sC (c5) ?_ | refine sQ ?_ ?_ | intro hc | exact trivial)
   all_goals first | (exfalso; omega) | skip
   exact ⟨k + 1, by omega, by omega, les, by simp only [hnx, hno hz]; exact leh⟩
 ·subst hkk
  repeat' (first | refine sT ?_ | refine sQ ?_ ?_ | intro hc | exact trivial)
  all_goals first | (exfalso; omega) | skip
  rw [List.take_length]
  refine ww (fun _ => j1H (b := 100) (id := 10) 1 rfl rfl rfl rfl) ?_
  exact jK rfl ⟨knO l l.length (z8 l), leh, rfl, rfl⟩
end Go.Proofs.YtfjoaeghnfkdlaaGreatDoor
