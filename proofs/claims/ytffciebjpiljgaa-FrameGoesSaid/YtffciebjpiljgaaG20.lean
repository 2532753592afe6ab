/- The struct Case13: its cells, and how they are read; no condition. -/
import Derived.Test.YtffciebjpiljgaaG7
import Derived.Test.YtffciebjpiljgaaG19
import Derived.Test.YtffciebjpiljgaaG8
namespace Go.Proofs.Ytffciebjpiljgaa
set_option linter.unusedSimpArgs false
set_option linter.unusedVariables false
set_option maxRecDepth 100000
open Go.RowKit Go.ChangeShapes Go.WideShapes

structure Case13 where
  pc : Int
  r0 : Int
  r1 : Int
  r2 : Int
  r3 : Int
  r4 : Int
  r5 : Int
  r6 : Int
  r7 : Int
  tn : List Int
  p : List Instr
  l : List Int
  at_ : Int
  len : Int
instance : Inhabited Case13 := ⟨⟨0, 0, 0, 0, 0, 0, 0, 0, 0, [], [], [], 0, 0⟩⟩
theorem Case13.ext_ {x y : Case13} (h : x.pc = y.pc ∧ x.r0 = y.r0 ∧ x.r1 = y.r1 ∧ x.r2 = y.r2 ∧ x.r3 = y.r3 ∧ x.r4 = y.r4 ∧ x.r5 = y.r5 ∧ x.r6 = y.r6 ∧ x.r7 = y.r7 ∧ x.tn = y.tn ∧ x.p = y.p ∧ x.l = y.l ∧ x.at_ = y.at_ ∧ x.len = y.len) : x = y := by cases x; cases y; simp_all
instance : DecidableEq Case13 := fun x y => decidable_of_iff (x.pc = y.pc ∧ x.r0 = y.r0 ∧ x.r1 = y.r1 ∧ x.r2 = y.r2 ∧ x.r3 = y.r3 ∧ x.r4 = y.r4 ∧ x.r5 = y.r5 ∧ x.r6 = y.r6 ∧ x.r7 = y.r7 ∧ x.tn = y.tn ∧ x.p = y.p ∧ x.l = y.l ∧ x.at_ = y.at_ ∧ x.len = y.len) ⟨Case13.ext_, fun h => by subst h; simp⟩
def Case13.ok (x : Case13) : Prop := (Lit.int .i64 x.pc).wf = true ∧ (Lit.int .u32 x.r0).wf = true ∧ (Lit.int .u32 x.r1).wf = true ∧ (Lit.int .u32 x.r2).wf = true ∧ (Lit.int .u32 x.r3).wf = true ∧ (Lit.int .u32 x.r4).wf = true ∧ (Lit.int .u32 x.r5).wf = true ∧ (Lit.int .u32 x.r6).wf = true ∧ (Lit.int .u32 x.r7).wf = true ∧ (Lit.int .i64 x.at_).wf = true ∧ (Lit.int .i64 x.len).wf = true
def Case13.cod : Cod Case13 := fun w cs x => ∃ (A_tn : Option Addr) (c_tn : Nat) (A_p : Option Addr) (c_p : Nat) (A_l : Option Addr) (c_l : Nat), cs = [.int .i64 x.pc, .int .u32 x.r0, .int .u32 x.r1, .int .u32 x.r2, .int .u32 x.r3, .int .u32 x.r4, .int .u32 x.r5, .int .u32 x.r6, .int .u32 x.r7, .slice A_tn x.tn.length c_tn, .slice A_p x.p.length c_p, .slice A_l x.l.length c_l, .int .i64 x.at_, .int .i64 x.len] ∧ x.ok ∧ x.tn.length ≤ c_tn ∧ c_tn ≤ maxLen ∧ Row (cInt .i64) 1 w A_tn x.tn ∧ x.p.length ≤ c_p ∧ c_p ≤ maxLen ∧ Row Instr.cod 5 w A_p x.p ∧ x.l.length ≤ c_l ∧ c_l ≤ maxLen ∧ Row (cInt .u32) 1 w A_l x.l
theorem Case13.mono : Mono Case13.cod := fun _ _ _ _ he ⟨A_tn, c_tn, A_p, c_p, A_l, c_l, h, hk, l_tn, m_tn, r_tn, l_p, m_p, r_p, l_l, m_l, r_l⟩ => ⟨A_tn, c_tn, A_p, c_p, A_l, c_l, h, hk, l_tn, m_tn, r_tn.ext (Mono.int _) he, l_p, m_p, r_p.ext Instr.mono he, l_l, m_l, r_l.ext (Mono.int _) he⟩
theorem Case13.size {w : World} {cs : List Value} {x : Case13} (h : Case13.cod w cs x) : cs.length = 14 := by obtain ⟨A_tn, c_tn, A_p, c_p, A_l, c_l, h, _⟩ := h; rw [h]; rfl
/-- The cells of an element. -/
theorem Case13.at {w : World} {b off : Nat} {xs : List Case13} (h : Row' Case13.cod 14 w b off xs) (i : Nat) (hi : i < xs.length) :
    ∃ (A_tn : Option Addr) (c_tn : Nat) (A_p : Option Addr) (c_p : Nat) (A_l : Option Addr) (c_l : Nat), w.cell? ⟨b, off + i * 14, none⟩ = some (.int .i64 xs[i].pc) ∧ w.cell? ⟨b, off + i * 14 + 1, none⟩ = some (.int .u32 xs[i].r0) ∧ w.cell? ⟨b, off + i * 14 + 2, none⟩ = some (.int .u32 xs[i].r1) ∧ w.cell? ⟨b, off + i * 14 + 3, none⟩ = some (.int .u32 xs[i].r2) ∧ w.cell? ⟨b, off + i * 14 + 4, none⟩ = some (.int .u32 xs[i].r3) ∧ w.cell? ⟨b, off + i * 14 + 5, none⟩ = some (.int .u32 xs[i].r4) ∧ w.cell? ⟨b, off + i * 14 + 6, none⟩ = some (.int .u32 xs[i].r5) ∧ w.cell? ⟨b, off + i * 14 + 7, none⟩ = some (.int .u32 xs[i].r6) ∧ w.cell? ⟨b, off + i * 14 + 8, none⟩ = some (.int .u32 xs[i].r7) ∧ w.cell? ⟨b, off + i * 14 + 9, none⟩ = some (.slice A_tn xs[i].tn.length c_tn) ∧ w.cell? ⟨b, off + i * 14 + 10, none⟩ = some (.slice A_p xs[i].p.length c_p) ∧ w.cell? ⟨b, off + i * 14 + 11, none⟩ = some (.slice A_l xs[i].l.length c_l) ∧ w.cell? ⟨b, off + i * 14 + 12, none⟩ = some (.int .i64 xs[i].at_) ∧ w.cell? ⟨b, off + i * 14 + 13, none⟩ = some (.int .i64 xs[i].len) ∧ xs[i].ok ∧ xs[i].tn.length ≤ c_tn ∧ c_tn ≤ maxLen ∧ Row (cInt .i64) 1 w A_tn xs[i].tn ∧ xs[i].p.length ≤ c_p ∧ c_p ≤ maxLen ∧ Row Instr.cod 5 w A_p xs[i].p ∧ xs[i].l.length ≤ c_l ∧ c_l ≤ maxLen ∧ Row (cInt .u32) 1 w A_l xs[i].l := by
  obtain ⟨cs, hx, _, hc⟩ := h i xs[i] (List.getElem?_eq_getElem hi)
  obtain ⟨A_tn, c_tn, A_p, c_p, A_l, c_l, rfl, hk, l_tn, m_tn, r_tn, l_p, m_p, r_p, l_l, m_l, r_l⟩ := hx
  exact ⟨A_tn, c_tn, A_p, c_p, A_l, c_l, hc 0 _ rfl, hc 1 _ rfl, hc 2 _ rfl, hc 3 _ rfl, hc 4 _ rfl, hc 5 _ rfl, hc 6 _ rfl, hc 7 _ rfl, hc 8 _ rfl, hc 9 _ rfl, hc 10 _ rfl, hc 11 _ rfl, hc 12 _ rfl, hc 13 _ rfl, hk, l_tn, m_tn, r_tn, l_p, m_p, r_p, l_l, m_l, r_l⟩
/-- A cell of a part. -/
theorem dt13 {cs : List Value} {o k j : Nat} {v : Value} (h : ((cs.drop o).take k)[j]? = some v) : cs[o + j]? = some v := by
  rw [List.getElem?_take] at h
  split at h
  · rwa [List.getElem?_drop] at h
  · cases h
/-- From the row's reading. -/
theorem Case13.opens : Opens Try.prog 57 Case13.cod := by
  intro H enc w base spare held fuel cs x h
  obtain ⟨xs, n, _, _, hlen, hxl, hf⟩ := DataW.trod_struct Try.underlying57 h
  have hxl' : xs.length = 4 := hxl
  have hl' : cs.length = 14 := hlen.trans (by kernel_rfl)
  have F0 := (hf 0 _ rfl).trans (List.getElem?_eq_getElem (show 0 < xs.length by omega))
  obtain ⟨ys, n0, _, _, _, hyl, hg⟩ := DataW.trod_struct Try.underlying52 F0
  have hyl' : ys.length = 3 := hyl
  have a0 := (hg 0 _ rfl).trans (List.getElem?_eq_getElem (show 0 < ys.length by omega))
  obtain ⟨v0, e0, _, w0⟩ := DataW.trod_int Try.underlying3 a0
  have g0 := dt13 (takeHead e0)
  have a1 := (hg 1 _ rfl).trans (List.getElem?_eq_getElem (show 1 < ys.length by omega))
  obtain ⟨zs, m, _, _, _, hzl, hq⟩ := DataW.trod_array Try.underlying50 a1
  have hce : Try.prog.cellsOf 47 = 1 := by kernel_rfl
  rw [hce] at hq
  have b0 := (hq 0 (by omega)).trans (List.getElem?_eq_getElem (show 0 < zs.length by omega))
  obtain ⟨v1, e1, _, w1⟩ := DataW.trod_int Try.underlying47 b0
  have g1 := dt13 (dt13 (takeHead e1))
  have b1 := (hq 1 (by omega)).trans (List.getElem?_eq_getElem (show 1 < zs.length by omega))
  obtain ⟨v2, e2, _, w2⟩ := DataW.trod_int Try.underlying47 b1
  have g2 := dt13 (dt13 (takeHead e2))
  have b2 := (hq 2 (by omega)).trans (List.getElem?_eq_getElem (show 2 < zs.length by omega))
  obtain ⟨v3, e3, _, w3⟩ := DataW.trod_int Try.underlying47 b2
  have g3 := dt13 (dt13 (takeHead e3))
  have b3 := (hq 3 (by omega)).trans (List.getElem?_eq_getElem (show 3 < zs.length by omega))
  obtain ⟨v4, e4, _, w4⟩ := DataW.trod_int Try.underlying47 b3
  have g4 := dt13 (dt13 (takeHead e4))
  have b4 := (hq 4 (by omega)).trans (List.getElem?_eq_getElem (show 4 < zs.length by omega))
  obtain ⟨v5, e5, _, w5⟩ := DataW.trod_int Try.underlying47 b4
  have g5 := dt13 (dt13 (takeHead e5))
  have b5 := (hq 5 (by omega)).trans (List.getElem?_eq_getElem (show 5 < zs.length by omega))
  obtain ⟨v6, e6, _, w6⟩ := DataW.trod_int Try.underlying47 b5
  have g6 := dt13 (dt13 (takeHead e6))
  have b6 := (hq 6 (by omega)).trans (List.getElem?_eq_getElem (show 6 < zs.length by omega))
  obtain ⟨v7, e7, _, w7⟩ := DataW.trod_int Try.underlying47 b6
  have g7 := dt13 (dt13 (takeHead e7))
  have b7 := (hq 7 (by omega)).trans (List.getElem?_eq_getElem (show 7 < zs.length by omega))
  obtain ⟨v8, e8, _, w8⟩ := DataW.trod_int Try.underlying47 b7
  have g8 := dt13 (dt13 (takeHead e8))
  have a2 := (hg 2 _ rfl).trans (List.getElem?_eq_getElem (show 2 < ys.length by omega))
  obtain ⟨v9, A9, c9, e9, l9, m9, r9⟩ := Opens.slice (R := (cInt .i64)) (k := 1) Try.underlying23 (show Try.prog.cellsOf 3 = 1 by kernel_rfl) (by decide) (Opens.int Try.underlying3) _ _ _ _ _ _ _ _ _ a2
  have g9 := dt13 (takeHead e9)
  have f10 := (hf 1 _ rfl).trans (List.getElem?_eq_getElem (show 1 < xs.length by omega))
  obtain ⟨v10, A10, c10, e10, l10, m10, r10⟩ := Opens.slice (R := Instr.cod) (k := 5) Try.underlying22 (show Try.prog.cellsOf 49 = 5 by kernel_rfl) (by decide) Instr.opens _ _ _ _ _ _ _ _ _ f10
  have g10 := takeHead e10
  have f11 := (hf 2 _ rfl).trans (List.getElem?_eq_getElem (show 2 < xs.length by omega))
  obtain ⟨v11, A11, c11, e11, l11, m11, r11⟩ := Opens.slice (R := (cInt .u32)) (k := 1) Try.underlying53 (show Try.prog.cellsOf 47 = 1 by kernel_rfl) (by decide) (Opens.int Try.underlying47) _ _ _ _ _ _ _ _ _ f11
  have g11 := takeHead e11
  have F3 := (hf 3 _ rfl).trans (List.getElem?_eq_getElem (show 3 < xs.length by omega))
  obtain ⟨us, n3, _, _, _, hul, hr⟩ := DataW.trod_struct Try.underlying55 F3
  have hul' : us.length = 2 := hul
  have d0 := (hr 0 _ rfl).trans (List.getElem?_eq_getElem (show 0 < us.length by omega))
  obtain ⟨v12, e12, _, w12⟩ := DataW.trod_int Try.underlying3 d0
  have g12 := dt13 (takeHead e12)
  have d1 := (hr 1 _ rfl).trans (List.getElem?_eq_getElem (show 1 < us.length by omega))
  obtain ⟨v13, e13, _, w13⟩ := DataW.trod_int Try.underlying3 d1
  have g13 := dt13 (takeHead e13)
  refine ⟨⟨v0, v1, v2, v3, v4, v5, v6, v7, v8, v9, v10, v11, v12, v13⟩, A9, c9, A10, c10, A11, c11, ?_, ⟨w0, w1, w2, w3, w4, w5, w6, w7, w8, w12, w13⟩, l9, m9, r9, l10, m10, r10, l11, m11, r11⟩
  refine list_of_cells [.int .i64 v0, .int .u32 v1, .int .u32 v2, .int .u32 v3, .int .u32 v4, .int .u32 v5, .int .u32 v6, .int .u32 v7, .int .u32 v8, .slice A9 v9.length c9, .slice A10 v10.length c10, .slice A11 v11.length c11, .int .i64 v12, .int .i64 v13] hl' fun i hi => ?_
  have hi' : i < 14 := hi
  match i, hi' with
  | 0, _ => exact g0
  | 1, _ => exact g1
  | 2, _ => exact g2
  | 3, _ => exact g3
  | 4, _ => exact g4
  | 5, _ => exact g5
  | 6, _ => exact g6
  | 7, _ => exact g7
  | 8, _ => exact g8
  | 9, _ => exact g9
  | 10, _ => exact g10
  | 11, _ => exact g11
  | 12, _ => exact g12
  | 13, _ => exact g13
end Go.Proofs.Ytffciebjpiljgaa
namespace Go.Proofs.Ytffciebjpiljgaa
set_option linter.unusedSimpArgs false
set_option linter.unusedVariables false
set_option maxRecDepth 100000
open Go.RowKit
def eCase13 (x : Case13) : List AV := [.int .i64 x.pc, .int .u32 x.r0, .int .u32 x.r1, .int .u32 x.r2, .int .u32 x.r3, .int .u32 x.r4, .int .u32 x.r5, .int .u32 x.r6, .int .u32 x.r7, .lst 1 (x.tn.map eI), .lst 5 (x.p.map eInstr), .lst 1 (x.l.map eU), .int .i64 x.at_, .int .i64 x.len]
end Go.Proofs.Ytffciebjpiljgaa
namespace Go.Proofs.Ytffciebjpiljgaa
set_option linter.unusedSimpArgs false
set_option linter.unusedVariables false
set_option maxRecDepth 100000
set_option linter.unusedSimpArgs false
set_option linter.unusedVariables false
set_option maxRecDepth 100000
open Go.RowKit
def passF (p : List Instr) (f : Fr) (code : Int) : Fr × Bool :=
  if rightF p f.pc f.tn = true ∧ kindI (p.getD f.pc.toNat default).op = 1 then (⟨f.pc + 1, setR f.rg (p.getD f.pc.toNat default).a.toNat code, f.tn⟩, true) else (f, false)
abbrev csF (pc : Int) (rg : Nat → Int) (tn : List Int) (p : List Instr) (L : List Int) (a l : Int) : List AV := eFw pc rg (.lst 1 (tn.map eI)) ++ [.lst 5 (p.map eInstr), .lst 1 (L.map eU), .int .i64 a, .int .i64 l]
def rgO (x : Case13) : Nat → Int
  | 0 => x.r0
  | 1 => x.r1
  | 2 => x.r2
  | 3 => x.r3
  | 4 => x.r4
  | 5 => x.r5
  | 6 => x.r6
  | 7 => x.r7
  | _ + 8 => 0
theorem light13_fn (pc : Int) (rg : Nat → Int) (tn : List Int) (p : List Instr) (L : List Int) (a l : Int) : Fn Try.prog 30 [.agg (csF pc rg tn p L a l)] (.bool (decide (p.length ≤ 200 ∧ L.length ≤ 300 ∧ tn.length ≤ 200))) := by
  by_cases h : p.length ≤ 200 ∧ L.length ≤ 300 ∧ tn.length ≤ 200
  · rw [decide_eq_true h]
    refine fnb Try.func30 (entered_of (by kernel_rfl)) rfl rfl rfl ?_
    repeat' (first | (show W _ _ _ _ _ _; first | apply kA | refine kB rfl ?_ | refine kC rfl rfl ?_ | refine kD rfl rfl ?_ | apply kE | apply kF | apply kG | apply kH | refine kI (by kernel_rfl) (by kernel_rfl) ?_) | (show O _ _ _ _ _ _ _; first | (show O _ _ _ _ (⟨_, .store _ _ _, _, _, _, _⟩ :: _) _ _; refine kJ rfl rfl rfl rfl rfl rfl rfl rfl rfl rfl rfl ?_) | apply kK) | apply kL | ((first | apply kM | apply kN); (iterate 3 (· exact rfl)); (· first | exact ya)) | refine kO rfl rfl rfl rfl rfl ?_ | refine kP rfl rfl rfl ?_ | ((first | refine kQ rfl rfl ?_ ?_ | refine kR rfl rfl rfl rfl rfl ?_ ?_ | refine kS rfl rfl rfl ?_ ?_) <;> intro hc <;> (try simp only [KL, cond_true, cond_false, beq_iff_eq, bne_iff_ne, ne_eq, reduceCtorEq] at hc) <;> (try (have hT : True := hc; clear hT hc)) <;> (try (exfalso; omega))) | apply kT | apply kU | apply kV | apply kW | refine kX rfl ?_ | apply kY | apply kZ)
    all_goals first | (exfalso; omega) | exact retq rfl (congrArg AV.bool (by rw [Bool.eq_iff_iff]; (try simp only [cond_true, cond_false, decide_eq_true_eq, Bool.not_eq_true', decide_eq_false_iff_not, Bool.and_eq_true, Bool.or_eq_true, true_iff, false_iff, iff_true, iff_false, Bool.false_eq_true, Bool.not_true, Bool.not_false, reduceCtorEq]); (first | done | omega | (constructor <;> intros <;> omega))))
  · rw [decide_eq_false h]
    refine fnb Try.func30 (entered_of (by kernel_rfl)) rfl rfl rfl ?_
    repeat' (first | (show W _ _ _ _ _ _; first | apply kA | refine kB rfl ?_ | refine kC rfl rfl ?_ | refine kD rfl rfl ?_ | apply kE | apply kF | apply kG | apply kH | refine kI (by kernel_rfl) (by kernel_rfl) ?_) | (show O _ _ _ _ _ _ _; first | (show O _ _ _ _ (⟨_, .store _ _ _, _, _, _, _⟩ :: _) _ _; refine kJ rfl rfl rfl rfl rfl rfl rfl rfl rfl rfl rfl ?_) | apply kK) | apply kL | ((first | apply kM | apply kN); (iterate 3 (· exact rfl)); (· first | exact ya)) | refine kO rfl rfl rfl rfl rfl ?_ | refine kP rfl rfl rfl ?_ | ((first | refine kQ rfl rfl ?_ ?_ | refine kR rfl rfl rfl rfl rfl ?_ ?_ | refine kS rfl rfl rfl ?_ ?_) <;> intro hc <;> (try simp only [KL, cond_true, cond_false, beq_iff_eq, bne_iff_ne, ne_eq, reduceCtorEq] at hc) <;> (try (have hT : True := hc; clear hT hc)) <;> (try (exfalso; omega))) | apply kT | apply kU | apply kV | apply kW | refine kX rfl ?_ | apply kY | apply kZ)
    all_goals first | (exfalso; omega) | exact retq rfl (congrArg AV.bool (by rw [Bool.eq_iff_iff]; (try simp only [cond_true, cond_false, decide_eq_true_eq, Bool.not_eq_true', decide_eq_false_iff_not, Bool.and_eq_true, Bool.or_eq_true, true_iff, false_iff, iff_true, iff_false, Bool.false_eq_true, Bool.not_true, Bool.not_false, reduceCtorEq]); (first | done | omega | (constructor <;> intros <;> omega))))
end Go.Proofs.Ytffciebjpiljgaa
namespace Go.Proofs.Ytffciebjpiljgaa
set_option linter.unusedSimpArgs false
set_option linter.unusedVariables false
set_option maxRecDepth 100000
set_option linter.unusedSimpArgs false
set_option linter.unusedVariables false
set_option maxRecDepth 100000
open Go.RowKit
theorem waggl {P : Program} {n : Md} {c : Code} {Q : Exit → Slots → Heap → Prop} {s : Slots} {h : Heap} {cs : List AV} {α : Type} {sz : Nat} (t j : Nat) (l : List α) (f : α → List AV) (hg : get s t = .agg cs) (hj : cs[j]? = some (.lst sz (l.map f))) (hk : (∀ x ∈ l, ∀ k m, AV.int k m ∈ f x → rangeP k m) → W P n c Q s h) : W P n c Q s h := ⟨by
  intro E σ ι a w hr ht
  have hv := ht.at_ t
  rw [hg] at hv
  obtain ⟨vs, _, h2⟩ := hv.agg_inv
  obtain ⟨v, _, hR⟩ := h2.get hj
  obtain ⟨A, cap, _, _, _, h4⟩ := hR.lst_inv
  refine (hk fun x hx k m hm => ?_).out E σ ι a w hr ht
  rcases h4 with h4 | ⟨b, off, g, _, h5, h6, h7⟩
  · have : l = [] := by simpa using h4
    subst this; cases hx
  · obtain ⟨i, hi⟩ := List.getElem?_of_mem (List.mem_map_of_mem (f := f) hx)
    obtain ⟨j2, hj2⟩ := List.getElem?_of_mem hm
    exact (VR.base (ι := ι) _ _ (h7 _ _ (flatten_get h5 hi hj2))).int_inv.2⟩
theorem words_wB {L : List Int} (h : ∀ x ∈ L, ∀ k m, AV.int k m ∈ eU x → rangeP k m) : wB L := fun i => by
  by_cases hi : i < L.length
  · have := h L[i] (List.getElem_mem hi) .u32 L[i] (by simp [eU])
    simp only [rangeP] at this
    simpa [hi] using this
  · simp [hi]
theorem regs_B {pc : Int} {rg : Nat → Int} {t : AV} {bs : List AV} (h8 : ∀ i, 8 ≤ i → rg i = 0) (h : ∀ k m, AV.int k m ∈ eFw pc rg t ++ bs → rangeP k m) : rgB rg := fun i => by
  by_cases hi : i < 8
  · have := h .u32 (rg i) (List.mem_of_getElem? (eFw_at (pc := pc) (t := t) (bs := bs) hi))
    simpa only [rangeP] using this
  · rw [h8 i (by omega)]; exact ⟨by decide, by decide⟩
end Go.Proofs.Ytffciebjpiljgaa
namespace Go.Proofs.Ytffciebjpiljgaa
set_option linter.unusedSimpArgs false
set_option linter.unusedVariables false
set_option maxRecDepth 100000
set_option linter.unusedSimpArgs false
set_option linter.unusedVariables false
set_option maxRecDepth 100000
open Go.RowKit
def clampI (n lo hi : Int) : Int := max lo (min n hi)
def insI (n : Int) : Int := max 0 (min n 1099511627776)
def addI (a b : Int) : Int := min 1099511627776 (insI a + insI b)
def mulI (a b : Int) : Int := min 1099511627776 (insI a * insI b)
def ceilI (a b : Int) : Int := if a < 1 ∨ b < 1 then 0 else (a - 1) / b + 1
def gcdI (a b : Int) : Int := if a < 1 ∨ b < 1 then 0 else (Int.gcd a b : Int)
def lcmI (a b : Int) : Int := if a < 1 ∨ b < 1 then 0 else mulI (a / gcdI a b) b

theorem insB (n : Int) : 0 ≤ insI n ∧ insI n ≤ 1099511627776 := by unfold insI; omega
theorem addB (a b : Int) : 0 ≤ addI a b ∧ addI a b ≤ 1099511627776 := by have := insB a; have := insB b; unfold addI; omega
theorem insId {n : Int} (h : 0 ≤ n) (h' : n ≤ 1099511627776) : insI n = n := by unfold insI; omega
/-- The test on the product's size, as the program makes it. -/
theorem mul_top {x y : Int} (hx : 0 < x) (hy : 0 < y) : 1099511627776 / y < x ↔ 1099511627776 < x * y := by
  rw [Int.ediv_lt_iff_lt_mul hy]
theorem mul_le {x y : Int} (hx : 0 < x) (hy : 0 < y) (h : ¬ 1099511627776 / y < x) : x * y ≤ 1099511627776 := by
  rw [mul_top hx hy] at h; omega

theorem addE (a b : Int) : insI (insI a + insI b) = addI a b := by have := insB a; have := insB b; unfold addI; rw [insI]; omega
theorem mul_0 {a b : Int} (h : insI a = 0 ∨ insI b = 0) : mulI a b = 0 := by
  have e : insI a * insI b = 0 := by rcases h with h | h <;> rw [h] <;> simp
  rw [mulI, e]; decide
theorem mul_t {a b : Int} (h1 : 0 < insI a) (h2 : 0 < insI b) (h : 1099511627776 / insI b < insI a) : mulI a b = 1099511627776 := by
  rw [mulI]; have := (mul_top h1 h2).1 h; omega
theorem mul_in {a b : Int} (h1 : 0 < insI a) (h2 : 0 < insI b) (h : ¬ 1099511627776 / insI b < insI a) : mulI a b = insI a * insI b ∧ 0 ≤ insI a * insI b ∧ insI a * insI b ≤ 1099511627776 := by
  have := mul_le h1 h2 h
  have := Int.mul_nonneg (Int.le_of_lt h1) (Int.le_of_lt h2)
  rw [mulI]; omega
theorem kdiv (y : Int) (h : 0 < y) : 0 ≤ 1099511627776 / y ∧ 1099511627776 / y ≤ 1099511627776 := ⟨Int.ediv_nonneg (by omega) (by omega), Int.ediv_le_self _ (by omega)⟩
theorem kClamp_fn (n low high : Int) : Fn Try.prog 116 [.int .i64 n, .int .i64 low, .int .i64 high] (.int .i64 (max low (min n high))) := by
  refine fnb Try.func116 (entered_of (by kernel_rfl)) rfl rfl rfl ?_
  repeat' (first | (show W _ _ _ _ _ _; first | apply kA | refine kB rfl ?_ | refine kC rfl rfl ?_ | refine kD rfl rfl ?_ | apply kE | apply kF | apply kG | apply kH | refine kI (by kernel_rfl) (by kernel_rfl) ?_) | (show O _ _ _ _ _ _ _; first | (show O _ _ _ _ (⟨_, .store _ _ _, _, _, _, _⟩ :: _) _ _; refine kJ rfl rfl rfl rfl rfl rfl rfl rfl rfl rfl rfl ?_) | apply kK) | apply kL | ((first | apply kM | apply kN); (iterate 3 (· exact rfl)); (· first | exact ya)) | refine kO rfl rfl rfl rfl rfl ?_ | refine kP rfl rfl rfl ?_ | ((first | refine kQ rfl rfl ?_ ?_ | refine kR rfl rfl rfl rfl rfl ?_ ?_ | refine kS rfl rfl rfl ?_ ?_) <;> intro hc <;> (try simp only [KL, cond_true, cond_false, beq_iff_eq, bne_iff_ne, ne_eq, reduceCtorEq] at hc) <;> (try (have hT : True := hc; clear hT hc)) <;> (try (exfalso; omega))) | apply kT | apply kU | apply kV | apply kW | refine kX rfl ?_ | apply kY | apply kZ)
  exact retq rfl rfl
theorem kInside_fn (n : Int) : Fn Try.prog 83 [.int .i64 n] (.int .i64 (insI n)) := by
  refine fnb Try.func83 (entered_of (by kernel_rfl)) rfl rfl rfl ?_
  repeat' (first | (show W _ _ _ _ _ _; first | apply kA | refine kB rfl ?_ | refine kC rfl rfl ?_ | refine kD rfl rfl ?_ | apply kE | apply kF | apply kG | apply kH | refine kI (by kernel_rfl) (by kernel_rfl) ?_) | (show O _ _ _ _ _ _ _; first | (show O _ _ _ _ (⟨_, .store _ _ _, _, _, _, _⟩ :: _) _ _; refine kJ rfl rfl rfl rfl rfl rfl rfl rfl rfl rfl rfl ?_) | apply kK) | apply kL | ((first | apply kM | apply kN); (iterate 3 (· exact rfl)); (· first | (show Y _ ⟨_, .call ⟨.value _, _, _⟩, _, _, _, _⟩ _ _ _; first | exact q_c (kClamp_fn _ _ _) rfl) | exact ya)) | refine kO rfl rfl rfl rfl rfl ?_ | refine kP rfl rfl rfl ?_ | ((first | refine kQ rfl rfl ?_ ?_ | refine kR rfl rfl rfl rfl rfl ?_ ?_ | refine kS rfl rfl rfl ?_ ?_) <;> intro hc <;> (try simp only [KL, cond_true, cond_false, beq_iff_eq, bne_iff_ne, ne_eq, reduceCtorEq] at hc) <;> (try (have hT : True := hc; clear hT hc)) <;> (try (exfalso; omega))) | apply kT | apply kU | apply kV | apply kW | refine kX rfl ?_ | apply kY | apply kZ)
  exact retq rfl rfl
theorem kAdd_fn (a b : Int) : Fn Try.prog 57 [.int .i64 a, .int .i64 b] (.int .i64 (addI a b)) := by
  have h1 := insB a
  have h2 := insB b
  refine fnb Try.func57 (entered_of (by kernel_rfl)) rfl rfl rfl ?_
  repeat' (first | (show W _ _ _ _ _ _; first | apply kA | refine kB rfl ?_ | refine kC rfl rfl ?_ | refine kD rfl rfl ?_ | apply kE | apply kF | apply kG | apply kH | refine kI (by kernel_rfl) (by kernel_rfl) ?_) | (show O _ _ _ _ _ _ _; first | (show O _ _ _ _ (⟨_, .store _ _ _, _, _, _, _⟩ :: _) _ _; refine kJ rfl rfl rfl rfl rfl rfl rfl rfl rfl rfl rfl ?_) | apply kK) | apply kL | ((first | apply kM | apply kN); (iterate 3 (· exact rfl)); (· first | (show Y _ ⟨_, .call ⟨.value _, _, _⟩, _, _, _, _⟩ _ _ _; first | exact q_c (kInside_fn _) rfl) | exact ya)) | refine kO rfl rfl rfl rfl rfl ?_ | refine kP rfl rfl rfl ?_ | ((first | refine kQ rfl rfl ?_ ?_ | refine kR rfl rfl rfl rfl rfl ?_ ?_ | refine kS rfl rfl rfl ?_ ?_) <;> intro hc <;> (try simp only [KL, cond_true, cond_false, beq_iff_eq, bne_iff_ne, ne_eq, reduceCtorEq] at hc) <;> (try (have hT : True := hc; clear hT hc)) <;> (try (exfalso; omega))) | apply kT | apply kU | apply kV | apply kW | refine kX rfl ?_ | apply kY | apply kZ)
  exact retq rfl (congrArg (AV.int .i64) (addE a b))
theorem kMul_fn (a b : Int) : Fn Try.prog 62 [.int .i64 a, .int .i64 b] (.int .i64 (mulI a b)) := by
  have h1 := insB a
  have h2 := insB b
  have c1 := kInside_fn a
  have c2 := kInside_fn b
  by_cases h0 : insI a = 0 ∨ insI b = 0
  · rw [mul_0 h0]
    generalize insI a = x at *
    generalize insI b = y at *
    refine fnb Try.func62 (entered_of (by kernel_rfl)) rfl rfl rfl ?_
    repeat' (first | (show W _ _ _ _ _ _; first | apply kA | refine kB rfl ?_ | refine kC rfl rfl ?_ | refine kD rfl rfl ?_ | apply kE | apply kF | apply kG | apply kH | refine kI (by kernel_rfl) (by kernel_rfl) ?_) | (show O _ _ _ _ _ _ _; first | (show O _ _ _ _ (⟨_, .store _ _ _, _, _, _, _⟩ :: _) _ _; refine kJ rfl rfl rfl rfl rfl rfl rfl rfl rfl rfl rfl ?_) | apply kK) | apply kL | ((first | apply kM | apply kN); (iterate 3 (· exact rfl)); (· first | (show Y _ ⟨_, .call ⟨.value _, _, _⟩, _, _, _, _⟩ _ _ _; first | exact q_c (c1) rfl | exact q_c (c2) rfl) | exact ya)) | refine kO rfl rfl rfl rfl rfl ?_ | refine kP rfl rfl rfl ?_ | ((first | refine kQ rfl rfl ?_ ?_ | refine kR rfl rfl rfl rfl rfl ?_ ?_ | refine kS rfl rfl rfl ?_ ?_) <;> intro hc <;> (try simp only [KL, cond_true, cond_false, beq_iff_eq, bne_iff_ne, ne_eq, reduceCtorEq] at hc) <;> (try (have hT : True := hc; clear hT hc)) <;> (try (exfalso; omega))) | apply kT | apply kU | apply kV | apply kW | refine kX rfl ?_ | apply kY | apply kZ)
    all_goals first | (exfalso; omega) | exact retq rfl rfl
  have hd := kdiv (insI b) (by omega)
  by_cases ht : 1099511627776 / insI b < insI a
  · rw [mul_t (by omega) (by omega) ht]
    generalize insI a = x at *
    generalize insI b = y at *
    refine fnb Try.func62 (entered_of (by kernel_rfl)) rfl rfl rfl ?_
    repeat' (first | (show W _ _ _ _ _ _; first | apply kA | refine kB rfl ?_ | refine kC rfl rfl ?_ | refine kD rfl rfl ?_ | apply kE | apply kF | apply kG | apply kH | refine kI (by kernel_rfl) (by kernel_rfl) ?_) | (show O _ _ _ _ _ _ _; first | (show O _ _ _ _ (⟨_, .store _ _ _, _, _, _, _⟩ :: _) _ _; refine kJ rfl rfl rfl rfl rfl rfl rfl rfl rfl rfl rfl ?_) | apply kK) | apply kL | ((first | apply kM | apply kN); (iterate 3 (· exact rfl)); (· first | (show Y _ ⟨_, .call ⟨.value _, _, _⟩, _, _, _, _⟩ _ _ _; first | exact q_c (c1) rfl | exact q_c (c2) rfl) | exact ya)) | refine kO rfl rfl rfl rfl rfl ?_ | refine kP rfl rfl rfl ?_ | ((first | refine kQ rfl rfl ?_ ?_ | refine kR rfl rfl rfl rfl rfl ?_ ?_ | refine kS rfl rfl rfl ?_ ?_) <;> intro hc <;> (try simp only [KL, cond_true, cond_false, beq_iff_eq, bne_iff_ne, ne_eq, reduceCtorEq] at hc) <;> (try (have hT : True := hc; clear hT hc)) <;> (try (exfalso; omega))) | apply kT | apply kU | apply kV | apply kW | refine kX rfl ?_ | apply kY | apply kZ)
    all_goals first | (exfalso; omega) | exact retq rfl rfl
  · obtain ⟨e, h3, h4⟩ := mul_in (a := a) (b := b) (by omega) (by omega) ht
    rw [e]
    generalize insI a = x at *
    generalize insI b = y at *
    refine fnb Try.func62 (entered_of (by kernel_rfl)) rfl rfl rfl ?_
    repeat' (first | (show W _ _ _ _ _ _; first | apply kA | refine kB rfl ?_ | refine kC rfl rfl ?_ | refine kD rfl rfl ?_ | apply kE | apply kF | apply kG | apply kH | refine kI (by kernel_rfl) (by kernel_rfl) ?_) | (show O _ _ _ _ _ _ _; first | (show O _ _ _ _ (⟨_, .store _ _ _, _, _, _, _⟩ :: _) _ _; refine kJ rfl rfl rfl rfl rfl rfl rfl rfl rfl rfl rfl ?_) | apply kK) | apply kL | ((first | apply kM | apply kN); (iterate 3 (· exact rfl)); (· first | (show Y _ ⟨_, .call ⟨.value _, _, _⟩, _, _, _, _⟩ _ _ _; first | exact q_c (c1) rfl | exact q_c (c2) rfl) | exact ya)) | refine kO rfl rfl rfl rfl rfl ?_ | refine kP rfl rfl rfl ?_ | ((first | refine kQ rfl rfl ?_ ?_ | refine kR rfl rfl rfl rfl rfl ?_ ?_ | refine kS rfl rfl rfl ?_ ?_) <;> intro hc <;> (try simp only [KL, cond_true, cond_false, beq_iff_eq, bne_iff_ne, ne_eq, reduceCtorEq] at hc) <;> (try (have hT : True := hc; clear hT hc)) <;> (try (exfalso; omega))) | apply kT | apply kU | apply kV | apply kW | refine kX rfl ?_ | apply kY | apply kZ)
    all_goals first | (exfalso; omega) | exact retq rfl rfl
end Go.Proofs.Ytffciebjpiljgaa
