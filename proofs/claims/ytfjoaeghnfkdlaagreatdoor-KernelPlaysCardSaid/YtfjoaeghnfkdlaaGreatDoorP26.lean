/- Whatever is done with the kernel, in whatever order: plain. No condition. -/
import Derived.Test.YtfjoaeghnfkdlaaGreatDoorP25
import Derived.Test.YtfjoaeghnfkdlaaGreatDoorP8
import Derived.WalkKit
set_option linter.unusedSimpArgs false
set_option linter.unusedVariables false
set_option maxHeartbeats 1000000
namespace Go.Proofs.YtfjoaeghnfkdlaaGreatDoor
set_option maxRecDepth 100000
open Go.RowKit
structure PI (l : List Task) (n : Nat) (K : Kn) (LL : List (List Int)) : Prop where
  ki : KI l n K
  ri : RI l n K.now K.B LL
  last : LastR l K.last LL
  due : K.S.Perm (nxS l (if K.opn then K.now + 1 else K.now))
theorem PI.new {l : List Task} (hok : okK l = true) : PI l 0 (newK l) (List.replicate l.length []) := by
  have hl8 : l.length ≤ 8 := by rw [okK, Bool.and_eq_true, decide_eq_true_eq] at hok; omega
  have h1 := (rRun_inv hl8 [] [] 0 (by omega)).ri
  have h2 := (run_same hok [] [] 0 (by omega)).1
  exact ⟨KI.new hok, h1, h2.last, h2.due⟩
theorem PI.open_ {l : List Task} (hok : okK l = true) {n : Nat} {K : Kn} {LL : List (List Int)} (h : PI l n K LL) (ho : K.opn = false) (asks : List Int) :
    PI l (n + l.length + asks.length) (openP l l.length K asks).1 (rBegin l K.B LL K.now asks).LL ∧ (openP l l.length K asks).2 = (rBegin l K.B LL K.now asks).es ∧ (openP l l.length K asks).1.B = (rBegin l K.B LL K.now asks).B ∧ (openP l l.length K asks).1.now = K.now ∧ (openP l l.length K asks).1.opn = true := by
  have hd := h.due
  rw [ho, if_neg (by decide)] at hd
  obtain ⟨o1, o2, o3, o4⟩ := open_sim hok ⟨rfl, h.last, hd⟩ h.ki.now_ ho asks
  have k := KI.open_ hok (room := l.length) rfl h.ki asks
  have r := (h.ri.begin_ h.ki.now_ h.ki.jr asks).1
  have hop : (openP l l.length K asks).1.opn = true := open_opn
  refine ⟨⟨k.1, ?_, o3, ?_⟩, o1, o2, k.2, hop⟩
  · rw [k.2, o2]; exact r
  · rw [hop, if_pos rfl, k.2]; exact o4
theorem close_any {l : List Task} {n : Nat} {K : Kn} (h : GoodB l n K.B) (hn : 0 ≤ K.now ∧ K.now ≤ 1000000) (ho : K.opn = true) (at_ : Int) (ended : Bool) :
    closeE l K at_ ended = rendE l K.B K.now at_ ended ∧ closeK l K ended = ⟨rendB l K.B K.now ended, K.S, K.last, K.now + 1, false⟩ := by
  have hp := pick_eq_r h
  obtain ⟨B, S, last, now, opn⟩ := K
  simp only at h hn ho hp ⊢
  subst ho
  unfold closeE closeK rendE rendB
  simp only [if_true, hp]
  have hpk := rpick_has (l := l) (B := B) l.length
  generalize rpickTo l B l.length = pv at *
  by_cases h0 : 0 ≤ pv
  · have hh := (hpk h0).1
    simp only [if_pos h0]
    refine ⟨?_, trivial⟩
    unfold stepE
    congr 1
    rw [jobAt_step h hh]
    have : inT now = now := by unfold inT; omega
    simp only [endJb, stepJb, this]
  · simp only [if_neg h0]
    exact ⟨trivial, trivial⟩
theorem PI.close {l : List Task} {n : Nat} {K : Kn} {LL : List (List Int)} (h : PI l n K LL) (ho : K.opn = true) (hn : K.now < 1000000) (ended : Bool) : PI l (n + 2) (closeK l K ended) LL := by
  have hk := KI.close h.ki hn ended
  have hc := (close_any h.ki.good h.ki.now_ ho 0 ended).2
  have hd := h.due
  rw [ho, if_pos rfl] at hd
  have hg := (rendB_good h.ki.good h.ki.jr K.now ended).1
  rw [hc] at hk ⊢
  exact ⟨hk, h.ri.next hg (by omega), h.last, hd⟩
theorem rpick_neg (l : List Task) (B : Bk) : ∀ k, rpickTo l B k = -1 ∨ 0 ≤ rpickTo l B k
  | 0 => .inl rfl
  | k + 1 => by
    have ih := rpick_neg l B k
    unfold rpickTo at ih ⊢
    rw [List.range_succ, List.foldl_append, List.foldl_cons, List.foldl_nil]
    split
    · exact .inr (by omega)
    · exact ih
theorem rpick_nat (l : List Task) (B : Bk) : rpickTo l B l.length = -1 ∨ ∃ p : Nat, rpickTo l B l.length = Int.ofNat p := by
  rcases rpick_neg l B l.length with h | h
  · exact .inl h
  · exact .inr ⟨(rpickTo l B l.length).toNat, by simp only [Int.ofNat_eq_natCast]; omega⟩
theorem PI.up {l : List Task} {n m : Nat} {K : Kn} {LL : List (List Int)} (h : PI l n K LL) (hm : n ≤ m) : PI l m K LL :=
  ⟨h.ki.mono hm, ⟨h.ri.good.up hm, h.ri.len, fun r hr => ⟨Nat.le_trans (h.ri.rows r hr).1 hm, (h.ri.rows r hr).2⟩⟩, h.last, h.due⟩
theorem PI.play0 {l : List Task} (hok : okK l = true) {n : Nat} {K : Kn} {LL : List (List Int)} (h : PI l n K LL) (al : List Int) (hal : al.length ≤ 20) :
    ∃ LL1, PI l (n + 30) (openP l l.length K al).1 LL1 ∧ (openP l l.length K al).1.now = K.now ∧ (if K.opn then [] else (rBegin l K.B LL K.now al).es) = (openP l l.length K al).2 ∧
      (if K.opn then rkX l K.B (foN LL) K.now K.opn else rkX l (rBegin l K.B LL K.now al).B (foN (rBegin l K.B LL K.now al).LL) K.now true) = rkX l (openP l l.length K al).1.B (foN LL1) (openP l l.length K al).1.now (openP l l.length K al).1.opn := by
  have hl8 : l.length ≤ 8 := by rw [okK, Bool.and_eq_true, decide_eq_true_eq] at hok; omega
  cases ho : K.opn
  · obtain ⟨h1, h2, h3, h4, h5⟩ := h.open_ hok ho al
    refine ⟨_, h1.up (by omega), h4, ?_, ?_⟩
    · rw [if_neg (by decide), h2]
    · rw [if_neg (by decide), h3, h4, h5]
  · have e : openP l l.length K al = (K, []) := by unfold openP; rw [if_pos ho]
    rw [e]
    refine ⟨LL, h.up (by omega), rfl, rfl, ?_⟩
    rw [if_pos rfl]; simp only [ho]
theorem PI.play1 {l : List Task} {n : Nat} {K : Kn} {LL : List (List Int)} (h : PI l n K LL) (hn : K.now < 1000000) (at_ : Int) (ended : Bool) :
    PI l (n + 30) (closeK l K ended) LL ∧ (closeK l K ended).now ≤ K.now + 1 ∧ (if K.opn then rendE l K.B K.now at_ ended else []) = closeE l K at_ ended ∧
      (if K.opn then rkX l (rendB l K.B K.now ended) (foN LL) (K.now + 1) false else rkX l K.B (foN LL) K.now K.opn) = rkX l (closeK l K ended).B (foN LL) (closeK l K ended).now (closeK l K ended).opn := by
  cases ho : K.opn
  · have e : closeK l K ended = K := by unfold closeK; rw [ho]; rfl
    have e2 : closeE l K at_ ended = [] := by unfold closeE; rw [ho]; rfl
    rw [e, e2]
    refine ⟨h.up (by omega), by omega, rfl, ?_⟩
    rw [if_neg (by decide)]; simp only [ho]
  · have h1 := h.close ho hn ended
    obtain ⟨h2, h3⟩ := close_any h.ki.good h.ki.now_ ho at_ ended
    refine ⟨h1.up (by omega), ?_, ?_, ?_⟩
    · rw [h3]; exact Int.le_refl _
    · rw [if_pos rfl, h2]
    · rw [if_pos rfl, h3]
end Go.Proofs.YtfjoaeghnfkdlaaGreatDoor
namespace Go.Proofs.YtfjoaeghnfkdlaaGreatDoor
set_option maxRecDepth 100000
open Go.RowKit Go.ChangeShapes Go.WideShapes

structure Ask29 where
  kind : Int
  at_ : Int
  l : List Int
  ended : Bool
instance : Inhabited Ask29 := ⟨⟨0, 0, [], false⟩⟩
theorem Ask29.ext_ {x y : Ask29} (h : x.kind = y.kind ∧ x.at_ = y.at_ ∧ x.l = y.l ∧ x.ended = y.ended) : x = y := by cases x; cases y; simp_all
instance : DecidableEq Ask29 := fun x y => decidable_of_iff (x.kind = y.kind ∧ x.at_ = y.at_ ∧ x.l = y.l ∧ x.ended = y.ended) ⟨Ask29.ext_, fun h => by subst h; simp⟩
def Ask29.ok (x : Ask29) : Prop := (Lit.int .i64 x.kind).wf = true ∧ (Lit.int .i64 x.at_).wf = true
def Ask29.cod : Cod Ask29 := fun w cs x => ∃ (A_l : Option Addr) (c_l : Nat), cs = [.int .i64 x.kind, .int .i64 x.at_, .slice A_l x.l.length c_l, .bool x.ended] ∧ x.ok ∧ x.l.length ≤ c_l ∧ c_l ≤ maxLen ∧ Row (cInt .i64) 1 w A_l x.l
theorem Ask29.mono : Mono Ask29.cod := fun _ _ _ _ he ⟨A_l, c_l, h, hk, l_l, m_l, r_l⟩ => ⟨A_l, c_l, h, hk, l_l, m_l, r_l.ext (Mono.int _) he⟩
theorem Ask29.size {w : World} {cs : List Value} {x : Ask29} (h : Ask29.cod w cs x) : cs.length = 4 := by obtain ⟨A_l, c_l, h, _⟩ := h; rw [h]; rfl
theorem Ask29.at {w : World} {b off : Nat} {xs : List Ask29} (h : Row' Ask29.cod 4 w b off xs) (i : Nat) (hi : i < xs.length) :
    ∃ (A_l : Option Addr) (c_l : Nat), w.cell? ⟨b, off + i * 4, none⟩ = some (.int .i64 xs[i].kind) ∧ w.cell? ⟨b, off + i * 4 + 1, none⟩ = some (.int .i64 xs[i].at_) ∧ w.cell? ⟨b, off + i * 4 + 2, none⟩ = some (.slice A_l xs[i].l.length c_l) ∧ w.cell? ⟨b, off + i * 4 + 3, none⟩ = some (.bool xs[i].ended) ∧ xs[i].ok ∧ xs[i].l.length ≤ c_l ∧ c_l ≤ maxLen ∧ Row (cInt .i64) 1 w A_l xs[i].l := by
  obtain ⟨cs, hx, _, hc⟩ := h i xs[i] (List.getElem?_eq_getElem hi)
  obtain ⟨A_l, c_l, rfl, hk, l_l, m_l, r_l⟩ := hx
  exact ⟨A_l, c_l, hc 0 _ rfl, hc 1 _ rfl, hc 2 _ rfl, hc 3 _ rfl, hk, l_l, m_l, r_l⟩
end Go.Proofs.YtfjoaeghnfkdlaaGreatDoor
namespace Go.Proofs.YtfjoaeghnfkdlaaGreatDoor
set_option maxRecDepth 100000
open Go.RowKit
def eAsk29 (x : Ask29) : List AV := [.int .i64 x.kind, .int .i64 x.at_, .lst 1 (x.l.map eI), .bool x.ended]
theorem br_Ask29 : Br Ask29.cod eAsk29 := fun w cs x ⟨A_l, c_l, h1, hk, l_l, m_l, r_l⟩ => by
  subst h1
  obtain ⟨h_kind, h_at_⟩ := hk
  exact ((((L2.nil _).cons (.bool _)).cons (br_row br_int (fun _ => rfl) r_l l_l m_l)).cons (.int _ _ (rangeP_wf.2 h_at_))).cons (.int _ _ (rangeP_wf.2 h_kind))
end Go.Proofs.YtfjoaeghnfkdlaaGreatDoor
