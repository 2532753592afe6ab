/- The struct Case13: its cells, and how they are read; no condition. -/
import Derived.Test.YtffciebjpiljgaaTyInstr
namespace Go.Proofs.Ytffciebjpiljgaa
set_option linter.unusedSimpArgs false
set_option linter.unusedVariables false
set_option maxRecDepth 100000
open Go.RowKit Go.ChangeShapes Go.WideShapes

structure Case13 where
  pc : Int
  r0 : Int
  r1 : Int
  r2 : Int
  r3 : Int
  r4 : Int
  r5 : Int
  r6 : Int
  r7 : Int
  tn : List Int
  p : List Instr
  l : List Int
  at_ : Int
  len : Int
instance : Inhabited Case13 := ⟨⟨0, 0, 0, 0, 0, 0, 0, 0, 0, [], [], [], 0, 0⟩⟩
theorem Case13.ext_ {x y : Case13} (h : x.pc = y.pc ∧ x.r0 = y.r0 ∧ x.r1 = y.r1 ∧ x.r2 = y.r2 ∧ x.r3 = y.r3 ∧ x.r4 = y.r4 ∧ x.r5 = y.r5 ∧ x.r6 = y.r6 ∧ x.r7 = y.r7 ∧ x.tn = y.tn ∧ x.p = y.p ∧ x.l = y.l ∧ x.at_ = y.at_ ∧ x.len = y.len) : x = y := by cases x; cases y; simp_all
instance : DecidableEq Case13 := fun x y => decidable_of_iff (x.pc = y.pc ∧ x.r0 = y.r0 ∧ x.r1 = y.r1 ∧ x.r2 = y.r2 ∧ x.r3 = y.r3 ∧ x.r4 = y.r4 ∧ x.r5 = y.r5 ∧ x.r6 = y.r6 ∧ x.r7 = y.r7 ∧ x.tn = y.tn ∧ x.p = y.p ∧ x.l = y.l ∧ x.at_ = y.at_ ∧ x.len = y.len) ⟨Case13.ext_, fun h => by subst h; simp⟩
def Case13.ok (x : Case13) : Prop := (Lit.int .i64 x.pc).wf = true ∧ (Lit.int .u32 x.r0).wf = true ∧ (Lit.int .u32 x.r1).wf = true ∧ (Lit.int .u32 x.r2).wf = true ∧ (Lit.int .u32 x.r3).wf = true ∧ (Lit.int .u32 x.r4).wf = true ∧ (Lit.int .u32 x.r5).wf = true ∧ (Lit.int .u32 x.r6).wf = true ∧ (Lit.int .u32 x.r7).wf = true ∧ (Lit.int .i64 x.at_).wf = true ∧ (Lit.int .i64 x.len).wf = true
def Case13.cod : Cod Case13 := fun w cs x => ∃ (A_tn : Option Addr) (c_tn : Nat) (A_p : Option Addr) (c_p : Nat) (A_l : Option Addr) (c_l : Nat), cs = [.int .i64 x.pc, .int .u32 x.r0, .int .u32 x.r1, .int .u32 x.r2, .int .u32 x.r3, .int .u32 x.r4, .int .u32 x.r5, .int .u32 x.r6, .int .u32 x.r7, .slice A_tn x.tn.length c_tn, .slice A_p x.p.length c_p, .slice A_l x.l.length c_l, .int .i64 x.at_, .int .i64 x.len] ∧ x.ok ∧ x.tn.length ≤ c_tn ∧ c_tn ≤ maxLen ∧ Row (cInt .i64) 1 w A_tn x.tn ∧ x.p.length ≤ c_p ∧ c_p ≤ maxLen ∧ Row Instr.cod 5 w A_p x.p ∧ x.l.length ≤ c_l ∧ c_l ≤ maxLen ∧ Row (cInt .u32) 1 w A_l x.l
theorem Case13.mono : Mono Case13.cod := fun _ _ _ _ he ⟨A_tn, c_tn, A_p, c_p, A_l, c_l, h, hk, l_tn, m_tn, r_tn, l_p, m_p, r_p, l_l, m_l, r_l⟩ => ⟨A_tn, c_tn, A_p, c_p, A_l, c_l, h, hk, l_tn, m_tn, r_tn.ext (Mono.int _) he, l_p, m_p, r_p.ext Instr.mono he, l_l, m_l, r_l.ext (Mono.int _) he⟩
theorem Case13.size {w : World} {cs : List Value} {x : Case13} (h : Case13.cod w cs x) : cs.length = 14 := by obtain ⟨A_tn, c_tn, A_p, c_p, A_l, c_l, h, _⟩ := h; rw [h]; rfl
/-- The cells of an element. -/
theorem Case13.at {w : World} {b off : Nat} {xs : List Case13} (h : Row' Case13.cod 14 w b off xs) (i : Nat) (hi : i < xs.length) :
    ∃ (A_tn : Option Addr) (c_tn : Nat) (A_p : Option Addr) (c_p : Nat) (A_l : Option Addr) (c_l : Nat), w.cell? ⟨b, off + i * 14, none⟩ = some (.int .i64 xs[i].pc) ∧ w.cell? ⟨b, off + i * 14 + 1, none⟩ = some (.int .u32 xs[i].r0) ∧ w.cell? ⟨b, off + i * 14 + 2, none⟩ = some (.int .u32 xs[i].r1) ∧ w.cell? ⟨b, off + i * 14 + 3, none⟩ = some (.int .u32 xs[i].r2) ∧ w.cell? ⟨b, off + i * 14 + 4, none⟩ = some (.int .u32 xs[i].r3) ∧ w.cell? ⟨b, off + i * 14 + 5, none⟩ = some (.int .u32 xs[i].r4) ∧ w.cell? ⟨b, off + i * 14 + 6, none⟩ = some (.int .u32 xs[i].r5) ∧ w.cell? ⟨b, off + i * 14 + 7, none⟩ = some (.int .u32 xs[i].r6) ∧ w.cell? ⟨b, off + i * 14 + 8, none⟩ = some (.int .u32 xs[i].r7) ∧ w.cell? ⟨b, off + i * 14 + 9, none⟩ = some (.slice A_tn xs[i].tn.length c_tn) ∧ w.cell? ⟨b, off + i * 14 + 10, none⟩ = some (.slice A_p xs[i].p.length c_p) ∧ w.cell? ⟨b, off + i * 14 + 11, none⟩ = some (.slice A_l xs[i].l.length c_l) ∧ w.cell? ⟨b, off + i * 14 + 12, none⟩ = some (.int .i64 xs[i].at_) ∧ w.cell? ⟨b, off + i * 14 + 13, none⟩ = some (.int .i64 xs[i].len) ∧ xs[i].ok ∧ xs[i].tn.length ≤ c_tn ∧ c_tn ≤ maxLen ∧ Row (cInt .i64) 1 w A_tn xs[i].tn ∧ xs[i].p.length ≤ c_p ∧ c_p ≤ maxLen ∧ Row Instr.cod 5 w A_p xs[i].p ∧ xs[i].l.length ≤ c_l ∧ c_l ≤ maxLen ∧ Row (cInt .u32) 1 w A_l xs[i].l := by
  obtain ⟨cs, hx, _, hc⟩ := h i xs[i] (List.getElem?_eq_getElem hi)
  obtain ⟨A_tn, c_tn, A_p, c_p, A_l, c_l, rfl, hk, l_tn, m_tn, r_tn, l_p, m_p, r_p, l_l, m_l, r_l⟩ := hx
  exact ⟨A_tn, c_tn, A_p, c_p, A_l, c_l, hc 0 _ rfl, hc 1 _ rfl, hc 2 _ rfl, hc 3 _ rfl, hc 4 _ rfl, hc 5 _ rfl, hc 6 _ rfl, hc 7 _ rfl, hc 8 _ rfl, hc 9 _ rfl, hc 10 _ rfl, hc 11 _ rfl, hc 12 _ rfl, hc 13 _ rfl, hk, l_tn, m_tn, r_tn, l_p, m_p, r_p, l_l, m_l, r_l⟩
/-- A cell of a part. -/
theorem dt13 {cs : List Value} {o k j : Nat} {v : Value} (h : ((cs.drop o).take k)[j]? = some v) : cs[o + j]? = some v := by
  rw [List.getElem?_take] at h
  split at h
  · rwa [List.getElem?_drop] at h
  · cases h
/-- From the row's reading. -/
theorem Case13.opens : Opens Try.prog 57 Case13.cod := by
  intro H enc w base spare held fuel cs x h
  obtain ⟨xs, n, _, _, hlen, hxl, hf⟩ := DataW.trod_struct Try.underlying57 h
  have hxl' : xs.length = 4 := hxl
  have hl' : cs.length = 14 := hlen.trans (by kernel_rfl)
  have F0 := (hf 0 _ rfl).trans (List.getElem?_eq_getElem (show 0 < xs.length by omega))
  obtain ⟨ys, n0, _, _, _, hyl, hg⟩ := DataW.trod_struct Try.underlying52 F0
  have hyl' : ys.length = 3 := hyl
  have a0 := (hg 0 _ rfl).trans (List.getElem?_eq_getElem (show 0 < ys.length by omega))
  obtain ⟨v0, e0, _, w0⟩ := DataW.trod_int Try.underlying3 a0
  have g0 := dt13 (takeHead e0)
  have a1 := (hg 1 _ rfl).trans (List.getElem?_eq_getElem (show 1 < ys.length by omega))
  obtain ⟨zs, m, _, _, _, hzl, hq⟩ := DataW.trod_array Try.underlying50 a1
  have hce : Try.prog.cellsOf 47 = 1 := by kernel_rfl
  rw [hce] at hq
  have b0 := (hq 0 (by omega)).trans (List.getElem?_eq_getElem (show 0 < zs.length by omega))
  obtain ⟨v1, e1, _, w1⟩ := DataW.trod_int Try.underlying47 b0
  have g1 := dt13 (dt13 (takeHead e1))
  have b1 := (hq 1 (by omega)).trans (List.getElem?_eq_getElem (show 1 < zs.length by omega))
  obtain ⟨v2, e2, _, w2⟩ := DataW.trod_int Try.underlying47 b1
  have g2 := dt13 (dt13 (takeHead e2))
  have b2 := (hq 2 (by omega)).trans (List.getElem?_eq_getElem (show 2 < zs.length by omega))
  obtain ⟨v3, e3, _, w3⟩ := DataW.trod_int Try.underlying47 b2
  have g3 := dt13 (dt13 (takeHead e3))
  have b3 := (hq 3 (by omega)).trans (List.getElem?_eq_getElem (show 3 < zs.length by omega))
  obtain ⟨v4, e4, _, w4⟩ := DataW.trod_int Try.underlying47 b3
  have g4 := dt13 (dt13 (takeHead e4))
  have b4 := (hq 4 (by omega)).trans (List.getElem?_eq_getElem (show 4 < zs.length by omega))
  obtain ⟨v5, e5, _, w5⟩ := DataW.trod_int Try.underlying47 b4
  have g5 := dt13 (dt13 (takeHead e5))
  have b5 := (hq 5 (by omega)).trans (List.getElem?_eq_getElem (show 5 < zs.length by omega))
  obtain ⟨v6, e6, _, w6⟩ := DataW.trod_int Try.underlying47 b5
  have g6 := dt13 (dt13 (takeHead e6))
  have b6 := (hq 6 (by omega)).trans (List.getElem?_eq_getElem (show 6 < zs.length by omega))
  obtain ⟨v7, e7, _, w7⟩ := DataW.trod_int Try.underlying47 b6
  have g7 := dt13 (dt13 (takeHead e7))
  have b7 := (hq 7 (by omega)).trans (List.getElem?_eq_getElem (show 7 < zs.length by omega))
  obtain ⟨v8, e8, _, w8⟩ := DataW.trod_int Try.underlying47 b7
  have g8 := dt13 (dt13 (takeHead e8))
  have a2 := (hg 2 _ rfl).trans (List.getElem?_eq_getElem (show 2 < ys.length by omega))
  obtain ⟨v9, A9, c9, e9, l9, m9, r9⟩ := Opens.slice (R := (cInt .i64)) (k := 1) Try.underlying23 (show Try.prog.cellsOf 3 = 1 by kernel_rfl) (by decide) (Opens.int Try.underlying3) _ _ _ _ _ _ _ _ _ a2
  have g9 := dt13 (takeHead e9)
  have f10 := (hf 1 _ rfl).trans (List.getElem?_eq_getElem (show 1 < xs.length by omega))
  obtain ⟨v10, A10, c10, e10, l10, m10, r10⟩ := Opens.slice (R := Instr.cod) (k := 5) Try.underlying22 (show Try.prog.cellsOf 49 = 5 by kernel_rfl) (by decide) Instr.opens _ _ _ _ _ _ _ _ _ f10
  have g10 := takeHead e10
  have f11 := (hf 2 _ rfl).trans (List.getElem?_eq_getElem (show 2 < xs.length by omega))
  obtain ⟨v11, A11, c11, e11, l11, m11, r11⟩ := Opens.slice (R := (cInt .u32)) (k := 1) Try.underlying53 (show Try.prog.cellsOf 47 = 1 by kernel_rfl) (by decide) (Opens.int Try.underlying47) _ _ _ _ _ _ _ _ _ f11
  have g11 := takeHead e11
  have F3 := (hf 3 _ rfl).trans (List.getElem?_eq_getElem (show 3 < xs.length by omega))
  obtain ⟨us, n3, _, _, _, hul, hr⟩ := DataW.trod_struct Try.underlying55 F3
  have hul' : us.length = 2 := hul
  have d0 := (hr 0 _ rfl).trans (List.getElem?_eq_getElem (show 0 < us.length by omega))
  obtain ⟨v12, e12, _, w12⟩ := DataW.trod_int Try.underlying3 d0
  have g12 := dt13 (takeHead e12)
  have d1 := (hr 1 _ rfl).trans (List.getElem?_eq_getElem (show 1 < us.length by omega))
  obtain ⟨v13, e13, _, w13⟩ := DataW.trod_int Try.underlying3 d1
  have g13 := dt13 (takeHead e13)
  refine ⟨⟨v0, v1, v2, v3, v4, v5, v6, v7, v8, v9, v10, v11, v12, v13⟩, A9, c9, A10, c10, A11, c11, ?_, ⟨w0, w1, w2, w3, w4, w5, w6, w7, w8, w12, w13⟩, l9, m9, r9, l10, m10, r10, l11, m11, r11⟩
  refine list_of_cells [.int .i64 v0, .int .u32 v1, .int .u32 v2, .int .u32 v3, .int .u32 v4, .int .u32 v5, .int .u32 v6, .int .u32 v7, .int .u32 v8, .slice A9 v9.length c9, .slice A10 v10.length c10, .slice A11 v11.length c11, .int .i64 v12, .int .i64 v13] hl' fun i hi => ?_
  have hi' : i < 14 := hi
  match i, hi' with
  | 0, _ => exact g0
  | 1, _ => exact g1
  | 2, _ => exact g2
  | 3, _ => exact g3
  | 4, _ => exact g4
  | 5, _ => exact g5
  | 6, _ => exact g6
  | 7, _ => exact g7
  | 8, _ => exact g8
  | 9, _ => exact g9
  | 10, _ => exact g10
  | 11, _ => exact g11
  | 12, _ => exact g12
  | 13, _ => exact g13
end Go.Proofs.Ytffciebjpiljgaa
