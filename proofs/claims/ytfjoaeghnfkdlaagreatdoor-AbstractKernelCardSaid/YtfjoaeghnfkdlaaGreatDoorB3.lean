/- Operations over abstract values; each is sound. No condition. -/
import Derived.Test.YtfjoaeghnfkdlaaGreatDoorB2
set_option linter.unusedSimpArgs false
set_option linter.unusedVariables false
set_option maxHeartbeats 1000000
set_option maxRecDepth 100000
namespace Go.Proofs.YtfjoaeghnfkdlaaGreatDoor
open Go.RowKit

def nth : List AV -> Nat -> AV
 | [], _ => .undef
 | c :: _, 0 => c
 | _ :: r, n + 1 => nth r n
theorem Xo : ∀ (cs : List AV) (n : Nat), nth cs n = (cs[n]?).getD .undef
 | [], n => by simp [nth]
 | c :: _, 0 => by simp [nth]
 | _ :: r, n + 1 => by simp [nth, Xo r n]
def VJ {β : Type} (v : AV) (k : AV -> β) : β := match v with
 | .undef => k .undef
 | .int kk n => k (.int kk n)
 | .bool b => k (.bool b)
 | .str s => k (.str s)
 | .nils => k .nils
 | .lst sz xs => k (.lst sz xs)
 | .ref cs => k (.ref cs)
 | .agg cs => k (.agg cs)
 | .tup vs => k (.tup vs)
 | .own id => k (.own id)
 | .ptr id off => k (.ptr id off)
 | .eptr id sz i j => k (.eptr id sz i j)
 | .part id j => k (.part id j)
 | .pptr id j off => k (.pptr id j off)
 | .nilp => k .nilp
 | .fn f x y => k (.fn f x y)
 | .nilf => k .nilf
theorem vz {β : Type} (v : AV) (k : AV -> β) : VJ v k = k v := by cases v <;> rfl
def agQ : TypeDesc -> Bool
 | .struct _ | .array _ _ => true
 | _ => false
def kEq : IntKind -> IntKind -> Bool
 | .i8, .i8 | .i16, .i16 | .i32, .i32 | .i64, .i64 | .u8, .u8 | .u16, .u16 | .u32, .u32 | .u64, .u64 => true
 | _, _ => false
theorem Xr {k k' : IntKind} (h : kEq k k' = true) : k = k' := by cases k <;> cases k' <;> first | rfl | cases h
def j1o (b : Bool) (x y : AV) : AV := match x, y with
 | .bool p, .bool q => .bool (bif b then p else q)
 | x, y => bif b then x else y
theorem j36 (b : Bool) (x y : AV) : j1o b x y = if b = true then x else y := by
 unfold j1o; split <;> cases b <;> rfl
def xX (P : Program) (t : TypeId) (cs : List AV) : Option (Prop × AV) :=
 match P.underlying t, P.info? t with
 | some d, some i => bif agQ d then (bif Nat.beq cs.length i.size then some (True, .agg cs) else some (i.size <= cs.length, .agg (cs.take i.size))) else VJ (nth cs 0) fun v => some (0 < cs.length, v)
 | _, _ => none
def j2O (P : Program) (t : TypeId) (h : j8) : AV -> Option (Prop × AV)
 | .ref cs => xX P t cs
 | .ptr id off => match j9 h id with
  | some (.blk _ cs) => xX P t (cs.drop off)
  | _ => none
 | _ => none
def yI (op : BinOp) (k : IntKind) (x y : Int) : Int :=
 let a := BitVec.ofInt k.bits x
 let b := BitVec.ofInt k.bits y
 match op with
 | .and => k.wrap (a &&& b).toNat
 | .or => k.wrap (a ||| b).toNat
 | .xor => k.wrap (a ^^^ b).toNat
 | _ => k.wrap (a &&& ~~~b).toNat
def Xh (op : BinOp) : AV -> AV -> Option (Prop × AV)
 | .int k a, .int k' b => match op with
  | .shl => some (0 <= b, .int k (k.wrap (a * 2 ^ min b.toNat k.bits)))
  | .shr => some (0 <= b ∧ jS k (a.fdiv (2 ^ min b.toNat k.bits)), .int k (a.fdiv (2 ^ min b.toNat k.bits)))
  | _ => bif kEq k k' then (match op with
   | .add => some (jS k (a + b), .int k (a + b))
   | .sub => some (jS k (a - b), .int k (a - b))
   | .mul => some (jS k (a * b), .int k (a * b))
   | .quo => some (0 <= a ∧ 0 < b, .int k (a / b))
   | .rem => some (0 <= a ∧ 0 < b, .int k (a % b))
   | .eql => some (True, .bool (decide (a = b)))
   | .neq => some (True, .bool (!decide (a = b)))
   | .lss => some (True, .bool (decide (a < b)))
   | .leq => some (True, .bool (decide (a <= b)))
   | .gtr => some (True, .bool (decide (b < a)))
   | .geq => some (True, .bool (decide (b <= a)))
   | .and => some (True, .int k (yI .and k a b))
   | .or => some (True, .int k (yI .or k a b))
   | .xor => some (True, .int k (yI .xor k a b))
   | .andNot => some (True, .int k (yI .andNot k a b))
   | _ => none) else none
 | _, _ => none
def eqA (d : TypeDesc) : AV -> AV -> Option Bool
 | .bool a, .bool b => match d with | .bool => some (a == b) | _ => none
 | .nilp, .nilp => match d with | .pointer _ => some true | _ => none
 | .ref _, .nilp => match d with | .pointer _ => some false | _ => none
 | .ptr _ _, .nilp => match d with | .pointer _ => some false | _ => none
 | .eptr _ _ _ _, .nilp => match d with | .pointer _ => some false | _ => none
 | _, _ => none
def Qc (off : Nat) : AV -> Option (Prop × AV)
 | .ref cs => some (True, .ref (cs.drop off))
 | .ptr id o => some (True, .ptr id (o + off))
 | .eptr id sz i j => some (True, .eptr id sz i (j + off))
 | _ => none
def j22 : AV -> Bool
 | .ref _ | .ptr _ _ | .eptr _ _ _ _ => true
 | _ => false
def Q0 (P : Program) (s : j6) (h : j8) (o : Oper) : Option (Prop × AV) :=
 match o.op with
 | .move x | .assign x => VJ (evA s x) fun v => some (True, v)
 | .pick c a b => match evA s c with
  | .bool b' => VJ (j1o b' (evA s a) (evA s b)) fun v => some (True, v)
  | _ => none
 | .load t a => j2O P t h (evA s a)
 | .nilCheck x => VJ (evA s x) fun v => bif j22 v then some (True, v) else none
 | .binOp op t x y _ => match Xh op (evA s x) (evA s y) with
  | some r => some r
  | none => match op, P.underlying t with
   | .eql, some d => match eqA d (evA s x) (evA s y) with | some b => some (True, .bool b) | none => none
   | .neq, some d => match eqA d (evA s x) (evA s y) with | some b => some (True, .bool (!b)) | none => none
   | _, _ => none
 | .unOp op _ x => match op, evA s x with
  | .not, .bool b => some (True, .bool (!b))
  | .neg, .int k n => some (jS k (0 - n), .int k (0 - n))
  | _, _ => none
 | .convert src dst x => match P.underlying src, P.underlying dst, evA s x with
  | some _, some (.int k), .int _ n => some (jS k n, .int k n)
  | _, _, _ => none
 | .fieldAddr t x f => match P.underlying t with
  | some (.struct fs) => match fs[f]? with
   | some fd => match P.info? fd.type with
    | some i => bif Nat.blt 0 i.size then Qc fd.offset (evA s x) else none
    | none => none
   | none => none
  | _ => none
 | .field t x f => match P.underlying t, evA s x with
  | some (.struct fs), .agg cs => match fs[f]? with
   | some fd => match P.underlying fd.type, P.info? fd.type with
    | some d, some i => bif agQ d then some (fd.offset + i.size <= cs.length, .agg ((cs.drop fd.offset).take i.size)) else VJ (nth cs fd.offset) fun v => some (fd.offset < cs.length, v)
    | _, _ => none
   | none => none
  | _, _ => none
 | .extract x i => match evA s x with
  | .tup vs => VJ (nth vs i) fun v => some (i < vs.length, v)
  | _ => none
 | .makeFunc f first cap => some (True, .fn f (first.toList.map (evA s)) (cap.toList.map (evA s)))
 | .call { callee := .builtin b, args := as, argTypes := _ } => match b, as.toList with
  | .min, [x, y] => match evA s x, evA s y with
   | .int k a, .int k' c => bif kEq k k' then some (True, .int k (min a c)) else none
   | _, _ => none
  | .max, [x, y] => match evA s x, evA s y with
   | .int k a, .int k' c => bif kEq k k' then some (True, .int k (max a c)) else none
   | _, _ => none
  | _, _ => none
 | _ => none

section
variable {P : Program} {n : Md} {Q : Exit -> j6 -> j8 -> Prop} {s : j6} {h : j8} {ops : Array Oper} {rest : List Oper} {o : Oper} {K : j6 -> Prop}
theorem ja {v : AV} (H : ∀ (E : Env) (σ : Sig) (ι : Nat -> Value) (a : Act) (w : World), Rel E σ ι h w -> (∀ x ∈ o.op.operands.toList, VR σ ι (evA s x) (a.eval x)) ->
  ∃ u, (execOp a.eval o).run P w = .ok (.value u) w ∧ VR σ ι v u) : OkO P o s h v := by
 intro E σ ι a w hr hx K Q hK
 obtain ⟨u, h1, h2⟩ := H E σ ι a w hr hx
 unfold Oper.wp
 rw [h1]
 exact hK σ w u (Sig.le.refl σ) hr h2
theorem VR.agg_inv {σ : Sig} {ι : Nat -> Value} {cs : List AV} {v : Value} (hv : VR σ ι (.agg cs) v) : ∃ vs : List Value, v = .agg vs.toArray ∧ L2 (VR σ ι) cs vs := by
 cases hv with
 | base _ _ h0 => cases h0 with | agg _ vs h1 h2 => exact ⟨vs, rfl, h1, fun j x y a b => .base _ _ (h2 j x y a b)⟩
 | agg _ vs h1 h2 => exact ⟨vs, rfl, h1, h2⟩
theorem VR.tup_inv {σ : Sig} {ι : Nat -> Value} {cs : List AV} {v : Value} (hv : VR σ ι (.tup cs) v) : ∃ vs : List Value, v = .tuple vs.toArray ∧ L2 (VR σ ι) cs vs := by
 cases hv with
 | base _ _ h0 => cases h0 with | tup _ vs h1 h2 => exact ⟨vs, rfl, h1, fun j x y a b => .base _ _ (h2 j x y a b)⟩
 | tup _ vs h1 h2 => exact ⟨vs, rfl, h1, h2⟩
def Cells (σ : Sig) (ι : Nat -> Value) (w : World) (b off : Nat) (cs : List AV) : Prop := ∀ (j : Nat) (c : AV), cs[j]? = some c -> ∃ v, w.cell? ⟨b, off + j, none⟩ = some v ∧ VR σ ι c v
theorem Cells.drop {σ : Sig} {ι : Nat -> Value} {w : World} {b off : Nat} {cs : List AV} (hc : Cells σ ι w b off cs) (k : Nat) : Cells σ ι w b (off + k) (cs.drop k) := fun j c hj => by
 rw [Nat.add_assoc]; exact hc (k + j) c (by simpa using hj)
theorem VR.ref_inv {E : Env} {σ : Sig} {ι : Nat -> Value} {w : World} {cs : List AV} {v : Value} (hr : Rel E σ ι h w) (hv : VR σ ι (.ref cs) v) : ∃ b off, v = .pointer (some ⟨b, off, none⟩) ∧ Cells σ ι w b off cs := by
 cases hv with
 | base _ _ h0 => cases h0 with | ref _ b off g h4 h5 => exact ⟨b, off, rfl, fun j c hj => ⟨g j, hr.sub _ _ (h4 j c hj), .base _ _ (h5 j c hj)⟩⟩
theorem VR.ptr_inv {σ : Sig} {ι : Nat -> Value} {id off : Nat} {v : Value} (hv : VR σ ι (.ptr id off) v) : ∃ g, jC (ι id) = some g ∧ v = .pointer (some ⟨g, off, none⟩) := by
 cases hv with
 | base _ _ h0 => cases h0
 | ptr _ _ g hg => exact ⟨g, hg, rfl⟩
theorem Rel.cells {E : Env} {σ : Sig} {ι : Nat -> Value} {w : World} {id g : Nat} {ty : TypeId} {cs : List AV} (hr : Rel E σ ι h w) (hg : j9 h id = some (.blk ty cs)) (hf : jC (ι id) = some g) : Cells σ ι w g 0 cs := by
 obtain ⟨g', cur, h1, h2, h3⟩ := hr.ch id _ hg
 rw [h1] at hf
 simp only [jC, Option.some.injEq] at hf
 subst hf
 intro j c hj
 obtain ⟨v, hv, hR⟩ := h3.get hj
 refine ⟨v, ?_, hR⟩
 simp only [World.cell?, h2, Nat.zero_add, Option.isSome_none, Bool.false_eq_true, if_false]
 rw [<- Array.getElem?_toList]; exact hv
theorem wN {σ : Sig} {ι : Nat -> Value} {w : World} {b off : Nat} {cs : List AV} {t : TypeId} {side : Prop} {v : AV} (hc : Cells σ ι w b off cs) (hs : xX P t cs = some (side, v)) (hside : side) :
  ∃ u, (loadVar t ⟨b, off, none⟩).run P w = .ok u w ∧ VR σ ι v u := by
 unfold xX at hs
 split at hs
 ·rename_i d i hd hi
  cases ha : agQ d with
  | true =>
   rw [ha] at hs
   have hs' : i.size <= cs.length ∧ v = .agg (cs.take i.size) := by
    rw [cond_true] at hs
    cases hq : Nat.beq cs.length i.size with
    | true =>
     rw [hq] at hs
     simp only [cond_true, Option.some.injEq, Prod.mk.injEq] at hs
     have e := Nat.eq_of_beq_eq_true hq
     exact ⟨by omega, by rw [<- hs.2, <- e, List.take_length]⟩
    | false =>
     rw [hq] at hs
     simp only [cond_false, Option.some.injEq, Prod.mk.injEq] at hs
     exact ⟨by rw [hs.1]; exact hside, hs.2.symm⟩
   clear hs
   obtain ⟨hside, rfl⟩ := hs'
   have hex : ∀ j, j < i.size -> ∃ u, w.cell? ⟨b, off + j, none⟩ = some u ∧ ∀ c, cs[j]? = some c -> VR σ ι c u := fun j hj => by
    obtain ⟨u, h1, h2⟩ := hc j cs[j] (List.getElem?_eq_getElem (by omega))
    exact ⟨u, h1, fun c hc => by rw [List.getElem?_eq_getElem (by omega)] at hc; cases hc; exact h2⟩
   obtain ⟨f, hf⟩ := Go.Deep.choose_lt hex
   have hl := run_loadCells_list (P := P) w ⟨b, off, none⟩ ((List.range i.size).map f) (fun j u hj => by
    have hj' : j < i.size := by have := (List.getElem?_eq_some_iff.1 hj).1; simpa using this
    have : f j = u := by simpa [hj'] using hj
    subst this
    rw [Go.WideShapes.add_plain]; exact (hf j hj').1)
   simp only [List.length_map, List.length_range] at hl
   refine ⟨.agg ((List.range i.size).map f).toArray, ?_, .agg _ _ (by simp; omega) fun j c u h1 h2 => ?_⟩
   ·have hag : (isAgg t).run P w = .ok true w := by
     unfold isAgg
     simp only [Sem.run_bind, run_underlying hd, Result.andThen_ok]
     unfold agQ at ha
     split at ha
     ·simp
     ·simp
     ·cases ha
    simp only [loadVar, Sem.run_bind, hag, Result.andThen_ok, if_true, sizeOf, typeInfo]
    simp [hi, hl]
   ·rw [List.getElem?_take] at h1
    split at h1
    ·rename_i hj
     have : f j = u := by simpa [hj] using h2
     subst this
     exact (hf j hj).2 c h1
    ·cases h1
  | false =>
   rw [ha, cond_false, vz] at hs
   simp only [Option.some.injEq, Prod.mk.injEq] at hs
   obtain ⟨rfl, rfl⟩ := hs
   have hag : (isAgg t).run P w = .ok false w := by
    unfold isAgg
    simp only [Sem.run_bind, run_underlying hd, Result.andThen_ok]
    unfold agQ at ha
    split at ha
    ·cases ha
    ·cases ha
    ·rename_i h1 h2
     split
     ·rename_i fs; exact absurd rfl (h1 fs)
     ·rename_i n e; exact absurd rfl (h2 n e)
     ·rfl
   obtain ⟨u, h1, h2⟩ := hc 0 cs[0] (List.getElem?_eq_getElem hside)
   refine ⟨u, ?_, ?_⟩
   ·simp only [loadVar, Sem.run_bind, hag, Result.andThen_ok, Bool.false_eq_true, if_false]
    simp only [load, Sem.run]
    rw [Nat.add_zero] at h1
    rw [h1]
   ·rw [Xo, List.getElem?_eq_getElem hside]; exact h2
 ·cases hs
theorem j43 {t : TypeId} {a : Operand} {side : Prop} {v : AV} (ho : o.op = .load t a) (hs : j2O P t h (evA s a) = some (side, v)) (hside : side) : OkO P o s h v := by
 refine ja fun E σ ι act w hr hx => ?_
 have hv := hx a (by rw [ho]; simp [Op.operands])
 have key : ∃ b off cs, act.eval a = .pointer (some ⟨b, off, none⟩) ∧ Cells σ ι w b off cs ∧ xX P t cs = some (side, v) := by
  unfold j2O at hs
  split at hs
  ·rename_i cs e
   rw [e] at hv
   obtain ⟨b, off, h1, h2⟩ := hv.ref_inv hr
   exact ⟨b, off, cs, h1, h2, hs⟩
  ·rename_i id off e
   rw [e] at hv
   split at hs
   ·rename_i ty cs hg
    obtain ⟨g, h1, h2⟩ := hv.ptr_inv
    have := (hr.cells hg h1).drop off
    rw [Nat.zero_add] at this
    exact ⟨g, off, _, h2, this, hs⟩
   ·cases hs
  ·cases hs
 obtain ⟨b, off, cs, h1, h2, h3⟩ := key
 obtain ⟨u, h4, h5⟩ := wN (P := P) h2 h3 hside
 refine ⟨u, ?_, h5⟩
 unfold execOp
 simp only [ho, h1, Instr.loadAt, Instr.sureAddr, Sem.run_bind, Sem.run_pure, Result.andThen_ok, h4]
theorem XK {k : IntKind} {a b : Int} (ha : jS k a) (h0 : 0 <= a) (hb : 0 < b) : jS k (a / b) := by
 have h1 : 0 <= a / b := Int.ediv_nonneg h0 (by omega)
 have h2 : a / b <= a := Int.ediv_le_self _ h0
 cases k <;> simp only [jS] at * <;> omega
theorem j1c {k : IntKind} {a b : Int} (ha : jS k a) (h0 : 0 <= a) (hb : 0 < b) : jS k (a % b) := by
 have h1 : 0 <= a % b := Int.emod_nonneg _ (by omega)
 have h2 : a % b <= a := by
  have h3 := Int.mul_ediv_add_emod a b
  have h4 : 0 <= b * (a / b) := Int.mul_nonneg (by omega) (Int.ediv_nonneg h0 (by omega))
  omega
 cases k <;> simp only [jS] at * <;> omega
theorem j4U {op : BinOp} {t : TypeId} {x y : Operand} {xv yv : Value} {σ : Sig} {ι : Nat -> Value} {ax ay : AV} {side : Prop} {v : AV} {w : World} (hx : VR σ ι ax xv) (hy : VR σ ι ay yv) (hs : Xh op ax ay = some (side, v)) (hside : side) :
  ∃ u, (do eqGuard op t x y xv yv; binOp op t xv yv : Sem Value).run P w = .ok u w ∧ VR σ ι v u := by
 unfold Xh at hs
 split at hs
 ·rename_i k a k' b
  obtain ⟨rfl, ha⟩ := hx.int_inv
  obtain ⟨rfl, hb⟩ := hy.int_inv
  have hguard : (eqGuard op t x y (.int k a) (.int k' b)).run P w = .ok () w := by
   unfold eqGuard
   cases op <;> simp [Sem.run_pure]
  simp only [Sem.run_bind, hguard, Result.andThen_ok]
  split at hs
  ·simp only [Option.some.injEq, Prod.mk.injEq] at hs
   obtain ⟨rfl, rfl⟩ := hs
   refine ⟨_, ?_, .base _ _ (.int _ _ (w6 k _))⟩
   simp [binOp, Op.shift, show ¬ b < 0 by omega]
  ·simp only [Option.some.injEq, Prod.mk.injEq] at hs
   obtain ⟨rfl, rfl⟩ := hs
   refine ⟨_, ?_, .base _ _ (.int _ _ hside.2)⟩
   simp [binOp, Op.shift, show ¬ b < 0 by omega]
  ·rename_i n1 n2
   cases hk : kEq k k' with
   | false => rw [hk] at hs; cases hs
   | true =>
    rw [hk, cond_true] at hs
    obtain rfl := Xr hk
    split at hs <;> first
     | (cases hs; done)
     | skip
    all_goals
     simp only [Option.some.injEq, Prod.mk.injEq] at hs
     obtain ⟨rfl, rfl⟩ := hs
    ·exact ⟨_, by simp [binOp, Op.intArith, wc hside], .base _ _ (.int _ _ hside)⟩
    ·exact ⟨_, by simp [binOp, Op.intArith, wc hside], .base _ _ (.int _ _ hside)⟩
    ·exact ⟨_, by simp [binOp, Op.intArith, wc hside], .base _ _ (.int _ _ hside)⟩
    ·refine ⟨_, ?_, .base _ _ (.int _ _ (XK ha hside.1 hside.2))⟩
     simp [binOp, Op.intDiv, show ¬ b = 0 by omega, Int.tdiv_eq_ediv_of_nonneg hside.1, wc (XK ha hside.1 hside.2)]
    ·refine ⟨_, ?_, .base _ _ (.int _ _ (j1c ha hside.1 hside.2))⟩
     simp [binOp, Op.intDiv, show ¬ b = 0 by omega, Int.tmod_eq_emod_of_nonneg hside.1]
    ·exact ⟨_, by first | (simp [binOp, Op.intCmp]; done) | (simp [binOp, Op.intCmp]; rfl), .base _ _ (.bool _)⟩
    ·exact ⟨.bool (!decide (a = b)), by simp [binOp, Op.intCmp, bne]; by_cases hab : a = b <;> simp [hab], .base _ _ (.bool _)⟩
    ·exact ⟨_, by first | (simp [binOp, Op.intCmp]; done) | (simp [binOp, Op.intCmp]; rfl), .base _ _ (.bool _)⟩
    ·exact ⟨_, by first | (simp [binOp, Op.intCmp]; done) | (simp [binOp, Op.intCmp]; rfl), .base _ _ (.bool _)⟩
    ·exact ⟨_, by first | (simp [binOp, Op.intCmp]; done) | (simp [binOp, Op.intCmp]; rfl), .base _ _ (.bool _)⟩
    ·exact ⟨_, by first | (simp [binOp, Op.intCmp]; done) | (simp [binOp, Op.intCmp]; rfl), .base _ _ (.bool _)⟩
    ·exact ⟨_, by simp only [binOp, ne_eq, not_true_eq_false, if_false, Op.intBits]; rfl, .base _ _ (.int _ _ (w6 k _))⟩
    ·exact ⟨_, by simp only [binOp, ne_eq, not_true_eq_false, if_false, Op.intBits]; rfl, .base _ _ (.int _ _ (w6 k _))⟩
    ·exact ⟨_, by simp only [binOp, ne_eq, not_true_eq_false, if_false, Op.intBits]; rfl, .base _ _ (.int _ _ (w6 k _))⟩
    ·exact ⟨_, by simp only [binOp, ne_eq, not_true_eq_false, if_false, Op.intBits]; rfl, .base _ _ (.int _ _ (w6 k _))⟩
 ·cases hs
theorem j6P {op : BinOp} {t : TypeId} {x y : Operand} {xv yv : Value} {σ : Sig} {ι : Nat -> Value} {ax ay : AV} {b : Bool} {d : TypeDesc} {w : World} (hop : op = .eql ∨ op = .neq) (hd : P.underlying t = some d) (hx : VR σ ι ax xv) (hy : VR σ ι ay yv) (hs : eqA d ax ay = some b) :
  (do eqGuard op t x y xv yv; binOp op t xv yv : Sem Value).run P w = .ok (.bool (if op = .eql then b else !b)) w := by
 obtain ⟨m, hdp⟩ : ∃ m, Op.maxDepth = m + 1 := ⟨9999, rfl⟩
 have pt : ∀ {id off : Nat} {v : Value}, VR σ ι (.ptr id off) v -> ∃ a, v = .pointer (some a) := fun h => let ⟨g, _, h⟩ := h.ptr_inv; ⟨_, h⟩
 have rf : ∀ {cs : List AV} {v : Value}, VR σ ι (.ref cs) v -> ∃ a, v = .pointer (some a) := fun h => by
  cases h with | base _ _ h0 => cases h0; exact ⟨_, rfl⟩
 have ep : ∀ {id sz i j : Nat} {v : Value}, VR σ ι (.eptr id sz i j) v -> ∃ a, v = .pointer (some a) := fun h => by
  cases h with
  | base _ _ h0 => cases h0
  | eptr => exact ⟨_, rfl⟩
 have np : ∀ {v : Value}, VR σ ι .nilp v -> v = .pointer none := fun h => by
  cases h with | base _ _ h0 => cases h0; rfl
 unfold eqA at hs
 split at hs
 ·obtain rfl := hx.bool_inv
  obtain rfl := hy.bool_inv
  split at hs
  ·cases hs
   rcases hop with rfl | rfl <;> simp [eqGuard, binOp, Op.equal, hdp, Op.equalIn, run_underlying hd, Sem.run_bind, Sem.run_pure]
  ·cases hs
 ·obtain rfl := np hx
  obtain rfl := np hy
  split at hs
  ·cases hs
   rcases hop with rfl | rfl <;> simp [eqGuard, binOp, Op.equal, hdp, Op.equalIn, run_underlying hd, Sem.run_bind, Sem.run_pure]
  ·cases hs
 ·obtain ⟨a, rfl⟩ := rf hx
  obtain rfl := np hy
  split at hs
  ·cases hs
   rcases hop with rfl | rfl <;> simp [eqGuard, binOp, Op.equal, hdp, Op.equalIn, run_underlying hd, Sem.run_bind, Sem.run_pure]
  ·cases hs
 ·obtain ⟨a, rfl⟩ := pt hx
  obtain rfl := np hy
  split at hs
  ·cases hs
   rcases hop with rfl | rfl <;> simp [eqGuard, binOp, Op.equal, hdp, Op.equalIn, run_underlying hd, Sem.run_bind, Sem.run_pure]
  ·cases hs
 ·obtain ⟨a, rfl⟩ := ep hx
  obtain rfl := np hy
  split at hs
  ·cases hs
   rcases hop with rfl | rfl <;> simp [eqGuard, binOp, Op.equal, hdp, Op.equalIn, run_underlying hd, Sem.run_bind, Sem.run_pure]
  ·cases hs
 ·cases hs
theorem zA {side : Prop} {v : AV} (hs : Q0 P s h o = some (side, v)) (hside : side) : OkO P o s h v := by
 unfold Q0 at hs
 split at hs
 ·rename_i x e
  rw [vz] at hs; cases hs
  exact ja fun E σ ι a w hr hx => ⟨a.eval x, by simp [execOp, e], hx x (by rw [e]; simp [Op.operands])⟩
 ·rename_i x e
  rw [vz] at hs; cases hs
  exact ja fun E σ ι a w hr hx => ⟨a.eval x, by simp [execOp, e], hx x (by rw [e]; simp [Op.operands])⟩
 ·rename_i c x y e
  split at hs
  ·rename_i b hb
   rw [vz] at hs; cases hs
   refine ja fun E σ ι a w hr hx => ?_
   have hc := hx c (by rw [e]; simp [Op.operands])
   rw [hb] at hc
   refine ⟨if b = true then a.eval x else a.eval y, by cases b <;> simp [execOp, e, hc.bool_inv, asBool], ?_⟩
   rw [j36]
   cases b
   ·simpa using hx y (by rw [e]; simp [Op.operands])
   ·simpa using hx x (by rw [e]; simp [Op.operands])
  ·cases hs
 ·rename_i t x e
  exact j43 e hs hside
 ·rename_i x e
  rw [vz] at hs
  cases hn : j22 (evA s x) with
  | false => rw [hn] at hs; cases hs
  | true =>
   rw [hn] at hs; cases hs
   refine ja fun E σ ι a w hr hx => ?_
   have hv := hx x (by rw [e]; simp [Op.operands])
   refine ⟨a.eval x, ?_, hv⟩
   have : ∃ p, a.eval x = .pointer (some p) := by
    generalize a.eval x = q at hv
    generalize evA s x = z at hv hn
    cases hv with
    | base _ _ h0 => cases h0 <;> first | (cases hn; done) | exact ⟨_, rfl⟩
    | _ => first | (cases hn; done) | exact ⟨_, rfl⟩
   obtain ⟨p, hp⟩ := this
   simp [execOp, e, hp]
 ·rename_i op t x y yt e
  have hb : ∀ {side v}, Xh op (evA s x) (evA s y) = some (side, v) -> side -> OkO P o s h v := fun h1 h2 => by
   refine ja fun E σ ι a w hr hx => ?_
   obtain ⟨u, h3, h4⟩ := j4U (P := P) (t := t) (x := x) (y := y) (w := w) (hx x (by rw [e]; simp [Op.operands])) (hx y (by rw [e]; simp [Op.operands])) h1 h2
   exact ⟨u, by simp only [Sem.run_bind] at h3; simp only [execOp, e, Sem.run_bind, Sem.run_pure, h3, Result.andThen_ok], h4⟩
  have hq : ∀ {d b}, (op = .eql ∨ op = .neq) -> P.underlying t = some d -> eqA d (evA s x) (evA s y) = some b -> OkO P o s h (.bool (if op = .eql then b else !b)) := fun h0 h1 h2 => by
   refine ja fun E σ ι a w hr hx => ?_
   have h3 := j6P (P := P) (t := t) (x := x) (y := y) (w := w) h0 h1 (hx x (by rw [e]; simp [Op.operands])) (hx y (by rw [e]; simp [Op.operands])) h2
   exact ⟨_, by simp only [Sem.run_bind] at h3; simp only [execOp, e, Sem.run_bind, Sem.run_pure, h3, Result.andThen_ok], .base _ _ (.bool _)⟩
  split at hs
  ·rename_i r hr; cases hs; exact hb hr hside
  ·split at hs
   ·rename_i d hd
    split at hs
    ·rename_i b he; cases hs; exact hq (.inl rfl) (by assumption) he
    ·cases hs
   ·rename_i d hd
    split at hs
    ·rename_i b he; cases hs; exact hq (.inr rfl) (by assumption) he
    ·cases hs
   ·cases hs
 ·rename_i op t x e
  split at hs
  ·rename_i b hb; cases hs
   refine ja fun E σ ι a w hr hx => ?_
   have hv := hx x (by rw [e]; simp [Op.operands])
   rw [hb] at hv
   exact ⟨.bool (!b), by simp [execOp, e, hv.bool_inv, Op.unary], .base _ _ (.bool _)⟩
  ·rename_i k m hb; cases hs
   refine ja fun E σ ι a w hr hx => ?_
   have hv := hx x (by rw [e]; simp [Op.operands])
   rw [hb] at hv
   refine ⟨.int k (0 - m), ?_, .base _ _ (.int _ _ hside)⟩
   have := wc hside
   simp only [execOp, e, hv.int_inv.1, Op.unary, Op.intArith, Sem.run_bind, Sem.run_pure, Result.andThen_ok, this]
  ·cases hs
 ·rename_i src dst x e
  split at hs
  ·rename_i d0 k k' m hd0 hd hb; cases hs
   refine ja fun E σ ι a w hr hx => ?_
   have hv := hx x (by rw [e]; simp [Op.operands])
   rw [hb] at hv
   refine ⟨.int k m, ?_, .base _ _ (.int _ _ hside)⟩
   have hw := wc hside
   simp only [execOp, e, hv.int_inv.1, convert, Sem.run_bind, run_underlying hd0, run_underlying hd, Result.andThen_ok]
   simp [Conv.intToInt, hw]
  ·cases hs
 ·rename_i t x f e
  split at hs
  ·rename_i fs hu
   split at hs
   ·rename_i fd hf
    split at hs
    ·rename_i i hi
     cases hsz : Nat.blt 0 i.size with
     | false => rw [hsz] at hs; cases hs
     | true =>
      rw [hsz, cond_true] at hs
      have hsz' : i.size ≠ 0 := Nat.ne_of_gt (by simpa [Nat.blt_eq] using hsz)
      refine ja fun E σ ι a w hr hx => ?_
      have hv := hx x (by rw [e]; simp [Op.operands])
      have run : ∀ b off, a.eval x = .pointer (some ⟨b, off, none⟩) -> (execOp a.eval o).run P w = .ok (.value (.pointer (some ⟨b, off + fd.offset, none⟩))) w := fun b off hp => by
       simp [execOp, e, Instr.fieldAt, run_underlying hu, hf, hp, Instr.sureAddr, fieldPlace, sizeOf, typeInfo, hi, hsz', Go.WideShapes.add_plain]
      unfold Qc at hs
      split at hs
      ·rename_i cs hz; cases hs
       rw [hz] at hv
       cases hv with
       | base _ _ h0 =>
        generalize hq : a.eval x = q at h0
        cases h0 with
        | ref _ b off g h4 h5 =>
         refine ⟨_, run b off hq, .base _ _ (.ref _ b _ (fun j => g (fd.offset + j)) (fun j c hc => ?_) fun j c hc => h5 _ c (by simpa using hc))⟩
         rw [Nat.add_assoc]; exact h4 _ c (by simpa using hc)
      ·rename_i id off hz; cases hs
       rw [hz] at hv
       obtain ⟨g, h1, h2⟩ := hv.ptr_inv
       exact ⟨_, run g off h2, .ptr _ _ g h1⟩
      ·rename_i id sz' i' j' hz; cases hs
       rw [hz] at hv
       generalize hq : a.eval x = q at hv
       cases hv with
       | base _ _ h0 => cases h0
       | eptr _ _ _ _ g hg =>
        exact ⟨_, run g _ hq, by rw [Nat.add_assoc]; exact .eptr _ _ _ _ g hg⟩
      ·cases hs
    ·cases hs
   ·cases hs
  ·cases hs
 ·rename_i t x f e
  split at hs
  ·rename_i fs cs hu hz
   split at hs
   ·rename_i fd hf
    split at hs
    ·rename_i d i hd hi
     refine ja fun E σ ι a w hr hx => ?_
     have hv := hx x (by rw [e]; simp [Op.operands])
     rw [hz] at hv
     obtain ⟨vs, h1, h2⟩ := hv.agg_inv
     have run : ∀ q, (part fd.type vs.toArray fd.offset).run P w = .ok q w -> (execOp a.eval o).run P w = .ok (.value q) w := fun q hq => by
      simp [execOp, e, Instr.field, run_underlying hu, hf, h1, asAgg, hq]
     cases ha : agQ d with
     | true =>
      rw [ha] at hs; cases hs
      have hag : (isAgg fd.type).run P w = .ok true w := by
       unfold isAgg
       simp only [Sem.run_bind, run_underlying hd, Result.andThen_ok]
       unfold agQ at ha
       split at ha
       ·simp
       ·simp
       ·cases ha
      refine ⟨_, run (.agg ((vs.drop fd.offset).take i.size).toArray) ?_, .agg _ _ ((h2.drop _).take _).1 ((h2.drop _).take _).2⟩
      simp only [part, Sem.run_bind, hag, Result.andThen_ok, if_true, sizeOf, typeInfo]
      simp [hi]
     | false =>
      rw [ha, cond_false, vz] at hs; cases hs
      have hag : (isAgg fd.type).run P w = .ok false w := by
       unfold isAgg
       simp only [Sem.run_bind, run_underlying hd, Result.andThen_ok]
       unfold agQ at ha
       split at ha
       ·cases ha
       ·cases ha
       ·rename_i h1 h2
        split
        ·rename_i fs; exact absurd rfl (h1 fs)
        ·rename_i n e; exact absurd rfl (h2 n e)
        ·rfl
      obtain ⟨u, h3, h4⟩ := h2.get (List.getElem?_eq_getElem hside)
      refine ⟨u, run u ?_, ?_⟩
      ·simp only [part, Sem.run_bind, hag, Result.andThen_ok, Bool.false_eq_true, if_false]
       simp [h3]
      ·rw [Xo, List.getElem?_eq_getElem hside]; exact h4
    ·cases hs
   ·cases hs
  ·cases hs
 ·rename_i x i e
  split at hs
  ·rename_i vs hz
   rw [vz] at hs; cases hs
   refine ja fun E σ ι a w hr hx => ?_
   have hv := hx x (by rw [e]; simp [Op.operands])
   rw [hz] at hv
   obtain ⟨us, h1, h2⟩ := hv.tup_inv
   obtain ⟨u, h3, h4⟩ := h2.get (List.getElem?_eq_getElem hside)
   refine ⟨u, by simp [execOp, e, h1, Instr.extract, h3], ?_⟩
   rw [Xo, List.getElem?_eq_getElem hside]; exact h4
  ·cases hs
 ·rename_i f first cap e
  cases hs
  have ea : ∀ (a : Act) (z : Array Operand), (z.toList.map a.eval).toArray = z.map a.eval := fun a z => by rw [<- Array.toList_map, Array.toArray_toList]
  refine ja fun E σ ι a w hr hx => ⟨.func f (first.toList.map a.eval).toArray (cap.toList.map a.eval).toArray, by simp [execOp, e, Instr.makeFunc, ea], .fn _ _ _ _ _ (by simp) (fun j c u h1 h2 => ?_) (by simp) fun j c u h1 h2 => ?_⟩
  ·rw [List.getElem?_map] at h1 h2
   cases hz : first.toList[j]? with
   | none => rw [hz] at h1; cases h1
   | some z =>
    rw [hz] at h1 h2; cases h1; cases h2
    exact hx z (by rw [e]; simp [Op.operands]; exact .inl (by simpa using List.mem_of_getElem? hz))
  ·rw [List.getElem?_map] at h1 h2
   cases hz : cap.toList[j]? with
   | none => rw [hz] at h1; cases h1
   | some z =>
    rw [hz] at h1 h2; cases h1; cases h2
    exact hx z (by rw [e]; simp [Op.operands]; exact .inr (by simpa using List.mem_of_getElem? hz))
 ·rename_i b as tys e
  have hrun : ∀ {k : IntKind} {x y : Operand} {p q : Int}, as.toList = [x, y] -> evA s x = .int k p -> evA s y = .int k q -> (b = .min ∨ b = .max) -> OkO P o s h (.int k (if b = .min then min p q else max p q)) := fun {k x y p q} h1 h2 h3 h4 => by
   refine ja fun E σ ι a w hr hx => ?_
   have ea : as = #[x, y] := by rw [<- Array.toArray_toList (xs := as), h1]
   have hv := hx x (by rw [e]; simp [Op.operands, Call.operands, ea])
   have hw := hx y (by rw [e]; simp [Op.operands, Call.operands, ea])
   rw [h2] at hv
   rw [h3] at hw
   obtain ⟨e1, r1⟩ := hv.int_inv
   obtain ⟨e2, r2⟩ := hw.int_inv
   refine ⟨_, ?_, .base _ _ (.int _ _ ?_)⟩
   ·rcases h4 with rfl | rfl
    ·have : min p q = if q < p then q else p := by rw [Int.min_def]; split <;> split <;> omega
     simp [execOp, e, resolve, invoke, builtin, ea, e1, e2, Builtin.min_, Builtin.min2, this]
    ·have : max p q = if p < q then q else p := by rw [Int.max_def]; split <;> split <;> omega
     simp [execOp, e, resolve, invoke, builtin, ea, e1, e2, Builtin.max_, Builtin.max2, this]
   ·split
    ·rw [Int.min_def]; split <;> assumption
    ·rw [Int.max_def]; split <;> assumption
  split at hs
  ·rename_i x y hl
   split at hs
   ·rename_i k p k' q h1 h2
    cases hk : kEq k k' with
    | false => rw [hk] at hs; cases hs
    | true =>
     rw [hk] at hs; cases hs
     obtain rfl := Xr hk
     exact hrun hl h1 h2 (.inl rfl)
   ·cases hs
  ·rename_i x y hl
   split at hs
   ·rename_i k p k' q h1 h2
    cases hk : kEq k k' with
    | false => rw [hk] at hs; cases hs
    | true =>
     rw [hk] at hs; cases hs
     obtain rfl := Xr hk
     exact hrun hl h1 h2 (.inr rfl)
   ·cases hs
  ·cases hs
 ·cases hs
end
end Go.Proofs.YtfjoaeghnfkdlaaGreatDoor
