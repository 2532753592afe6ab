/- Regions: one after the other, and in whatever order. No condition. -/
import Derived.Test.YtfjoaeghnfkdlaaGreatDoorB1
set_option linter.unusedSimpArgs false
set_option linter.unusedVariables false
set_option maxHeartbeats 1000000
set_option maxRecDepth 100000
namespace Go.Proofs.YtfjoaeghnfkdlaaGreatDoor
open Go.RowKit

def OkO (P : Program) (o : Oper) (s : j6) (h : j8) (v : AV) : Prop :=
 ∀ (E : Env) (σ : Sig) (ι : Nat -> Value) (a : Act) (w : World), Rel E σ ι h w -> (∀ x ∈ o.op.operands.toList, VR σ ι (evA s x) (a.eval x)) ->
  ∀ (K : Act -> World -> Prop) (Q : Exit -> Act -> World -> Prop), (∀ σ' w' u, Sig.le σ σ' -> Rel E σ' ι h w' -> VR σ' ι v u -> K (a.put o.dst u) w') -> o.wp P a w K Q
def qC (o : Oper) : Bool := o.op.operands.toList.all cOk
section
variable {P : Program} {n : Md} {Q : Exit -> j6 -> j8 -> Prop} {s : j6} {h : j8} {ops : Array Oper} {rest : List Oper} {o : Oper}
def wpL (n : Md) (P : Program) (ops : Array Oper) (Q : Exit -> Act -> World -> Prop) (rest : List Oper) (a : Act) (w : World) : Prop := yN rest = true -> wpListIn (qd n.ro) 0 P ops Q rest a w
def xq (P : Program) (n : Md) (ops : Array Oper) (Q : Exit -> j6 -> j8 -> Prop) (rest : List Oper) (s : j6) (h : j8) : Prop :=
 ∀ (E : Env) (σ : Sig) (ι : Nat -> Value) (a : Act) (w : World), Rel E σ ι h w -> TR n σ ι s a ->
  wpL n P ops (fun e a' w' => ∃ s' h' σ' ι', Q e s' h' ∧ Rel E σ' ι' h' w' ∧ TR n σ' ι' s' a') rest a w
def A1 (P : Program) (n : Md) (ops : Array Oper) (Q : Exit -> j6 -> j8 -> Prop) (o : Oper) (rest : List Oper) (s : j6) (h : j8) : Prop :=
 ∀ (E : Env) (σ : Sig) (ι : Nat -> Value) (a : Act) (w : World), Rel E σ ι h w -> TR n σ ι s a ->
  o.wp P a w (wpL n P ops (fun e a' w' => ∃ s' h' σ' ι', Q e s' h' ∧ Rel E σ' ι' h' w' ∧ TR n σ' ι' s' a') rest) (fun e a' w' => ∃ s' h' σ' ι', Q e s' h' ∧ Rel E σ' ι' h' w' ∧ TR n σ' ι' s' a')
theorem ZP {id : Nat} {l : List Oper} (hnd : yN l = true) (hk : xq P n l.toArray Q l s h) : AWp P n (.region id l.toArray false) Q s h :=
 fun E σ ι a w hr ht => wpIn_region_lit (hk E σ ι a w hr ht hnd)
theorem j1m (hq : Q .normal s h) : xq P n ops Q [] s h := fun E σ ι a w hr ht _ => ⟨s, h, σ, ι, hq, hr, ht⟩
theorem j2N {Post : Exit -> Act -> World -> Prop} {a : Act} {w : World} (hw : Region.wanted o (yielded ops a.tmps) = true) (hk : o.wp P a w (wpL n P ops Post rest) Post) : wpL n P ops Post (o :: rest) a w := fun hnd => by
 have hnd := (Bool.and_eq_true _ _).mp (by simpa only [yN, List.all_cons] using hnd)
 unfold wpListIn
 rw [if_pos hw]
 exact Je hnd.1 (Oper.wp_mono (fun a w hK => hK hnd.2) hk)
theorem j0X {Post : Exit -> Act -> World -> Prop} {a : Act} {w : World} (hw : Region.wanted o (yielded ops a.tmps) = false) (hk : wpL n P ops Post rest (a.put o.dst undef) w) : wpL n P ops Post (o :: rest) a w := fun hnd => by
 have hnd := (Bool.and_eq_true _ _).mp (by simpa only [yN, List.all_cons] using hnd)
 unfold wpListIn
 rw [if_neg (by simp [hw])]
 exact ⟨fun _ _ => trivial, hk hnd.2⟩
theorem j59 {Post : Exit -> Act -> World -> Prop} {a : Act} {w : World} (hg : o.guard = none) (hk : o.wp P a w (wpL n P ops Post rest) Post) : wpL n P ops Post (o :: rest) a w := j2N (by simp [Region.wanted, hg]) hk
theorem v8 (hg : o.guard = none) (hk : A1 P n ops Q o rest s h) : xq P n ops Q (o :: rest) s h := fun E σ ι a w hr ht => j59 hg (hk E σ ι a w hr ht)
def jz (ops : Array Oper) (j : Nat) : Option Nat := (ops.toList[j]?).bind (·.dst)
theorem vU {a : Act} {σ : Sig} {ι : Nat -> Value} {j : Nat} {want : Bool} (hg : o.guard = some (j, want)) {d : Nat} (hd : jz ops j = some d) (hs : d < a.tmps.size) {b : Bool} (hv : VR σ ι (.bool b) (a.tmps.getD d undef)) :
  Region.wanted o (yielded ops a.tmps) = (b == want) := by
 unfold Region.wanted
 rw [hg]
 have h1 : (ops[j]?).bind (·.dst) = some d := by rw [<- Array.getElem?_toList]; exact hd
 have h2 : a.tmps[d]? = some (.bool b) := by
  rw [<- hv.bool_inv, Array.getElem?_eq_getElem hs]; simp [Array.getD, hs]
 simp only [yielded, h1, Option.bind_some, h2]
 cases b <;> cases want <;> rfl
theorem VR.tup0 {σ : Sig} {ι : Nat -> Value} : VR σ ι (.tup []) undef := .base _ _ (.tup [] [] rfl (fun j c v h => by simp at h))
theorem VR.tup0_inv {σ : Sig} {ι : Nat -> Value} {v : Value} (h : VR σ ι (.tup []) v) : v = undef := by
 have : ∀ vs : List Value, ([] : List AV).length = vs.length -> (Value.tuple vs.toArray) = undef := fun vs hv => by
  have := List.eq_nil_of_length_eq_zero hv.symm; subst this; rfl
 cases h with
 | base _ _ h0 => cases h0 with | tup _ vs h1 _ => exact this vs h1
 | tup _ vs h1 _ => exact this vs h1
theorem wB {a : Act} {j : Nat} {want : Bool} (hg : o.guard = some (j, want)) {d : Nat} (hd : jz ops j = some d) (hs : d < a.tmps.size) (hv : a.tmps.getD d undef = undef) : Region.wanted o (yielded ops a.tmps) = false := by
 unfold Region.wanted
 rw [hg]
 have h1 : (ops[j]?).bind (·.dst) = some d := by rw [<- Array.getElem?_toList]; exact hd
 have h2 : a.tmps[d]? = some undef := by
  rw [<- hv, Array.getElem?_eq_getElem hs]; simp [Array.getD, hs]
 simp only [yielded, h1, Option.bind_some, h2]
 rfl
theorem j0n {j : Nat} {want : Bool} (hg : o.guard = some (j, want)) {d : Nat} (hd : jz ops j = some d) (hn : Nat.blt d n.n = true) (hb : get s d = .tup []) (ho : qj n o.dst = true)
  (h2 : xq P n ops Q rest (jX s o.dst (.tup [])) h) : xq P n ops Q (o :: rest) s h := fun E σ ι a w hr ht => by
 have hv := ht.at_ d
 rw [hb] at hv
 exact j0X (wB hg hd (by rw [ht.size]; simpa using hn) hv.tup0_inv) (h2 E σ ι _ w hr (ht.putS ho VR.tup0))
theorem j55 {v : AV} (hc : qC o = true) (hd : qj n o.dst = true) (ho : OkO P o s h v) (hk : xq P n ops Q rest (jX s o.dst v) h) : A1 P n ops Q o rest s h := fun E σ ι a w hr ht =>
 ho E σ ι a w hr (fun x hx => jZ (List.all_eq_true.1 hc x hx) fun t _ => ht.at_ t) _ _ fun σ' w' u hs hr' hv => hk E σ' ι _ w' hr' ((ht.mono hs).putS hd hv)
theorem j45 {s' : j6} {h' : j8} (hs : LeS s s') (hh : LeH h h') (hk : xq P n ops Q rest s' h') : xq P n ops Q rest s h :=
 fun E σ ι a w hr ht => hk E σ ι a w (hr.le hh) (ht.le hs)
/-! ## In whatever order -/
def ADr (P : Program) (n : Md) (ops : Array Oper) (h : j8) (K : j6 -> Prop) : List Oper -> j6 -> Prop
 | [], s => ∃ s', (∀ t, get s t = get s' t) ∧ K s'
 | o :: rest, s => match o.guard with
  | none => ∃ v, OkO P o s h v ∧ ADr P n ops h K rest (jX s o.dst v)
  | some (j, want) => (∃ d b, jz ops j = some d ∧ get s d = .bool b ∧ (b = want -> ∃ v, OkO P o s h v ∧ ADr P n ops h K rest (jX s o.dst v)) ∧ (b = !want -> ADr P n ops h K rest (jX s o.dst (.tup [])))) ∨ (∃ d, jz ops j = some d ∧ get s d = .tup [] ∧ ADr P n ops h K rest (jX s o.dst (.tup [])))
def D1 (P : Program) (n : Md) (ops : Array Oper) (h : j8) (K : j6 -> Prop) (o : Oper) (rest : List Oper) (s : j6) : Prop := ∃ v, OkO P o s h v ∧ ADr P n ops h K rest (jX s o.dst v)
variable {K : j6 -> Prop}
theorem j5E (hq : K s) : ADr P n ops h K [] s := ⟨s, fun _ => rfl, hq⟩
theorem y7 {s s' : j6} (e : ∀ t, get s t = get s' t) (x : Operand) : evA s x = evA s' x := by
 cases x with
 | tmp t => exact e t
 | const v => rfl
 | _ => rfl
theorem OkO.congr {s s' : j6} {v : AV} (e : ∀ t, get s t = get s' t) (hk : OkO P o s h v) : OkO P o s' h v := fun E σ ι a w hr hx =>
 hk E σ ι a w hr fun x hm => by rw [y7 e]; exact hx x hm
theorem qb {s s' : j6} (e : ∀ t, get s t = get s' t) (d : Option Nat) (v : AV) : ∀ t, get (jX s d v) t = get (jX s' d v) t := fun t => by
 cases d with
 | none => exact e t
 | some d => simp only [jX, qO, e t]
theorem xI : ∀ (rest : List Oper) {s s' : j6}, (∀ t, get s t = get s' t) -> ADr P n ops h K rest s -> ADr P n ops h K rest s'
 | [], s, s', e, ⟨s2, e2, hk⟩ => ⟨s2, fun t => (e t).symm.trans (e2 t), hk⟩
 | o :: rest, s, s', e, hk => by
  unfold ADr at hk ⊢
  cases hg : o.guard with
  | none =>
   rw [hg] at hk
   obtain ⟨v, h1, h2⟩ := hk
   exact ⟨v, h1.congr e, xI rest (qb e _ _) h2⟩
  | some g =>
   rw [hg] at hk
   rcases hk with ⟨d, b, h0, h1, h2, h3⟩ | ⟨d, h0, h1, h2⟩
   ·exact .inl ⟨d, b, h0, by rw [<- e]; exact h1, fun hb => let ⟨v, h4, h5⟩ := h2 hb; ⟨v, h4.congr e, xI rest (qb e _ _) h5⟩, fun hb => xI rest (qb e _ _) (h3 hb)⟩
   ·exact .inr ⟨d, h0, by rw [<- e]; exact h1, xI rest (qb e _ _) h2⟩
theorem j57 (hg : o.guard = none) (hk : D1 P n ops h K o rest s) : ADr P n ops h K (o :: rest) s := by
 unfold ADr; rw [hg]; exact hk
theorem j4P {j : Nat} {want : Bool} (hg : o.guard = some (j, want)) {d : Nat} (hd : jz ops j = some d) {b : Bool} (hb : get s d = .bool b)
  (h1 : b = want -> D1 P n ops h K o rest ((d, .bool want) :: s)) (h2 : b = !want -> ADr P n ops h K rest (jX ((d, .bool (!want)) :: s) o.dst (.tup []))) : ADr P n ops h K (o :: rest) s := by
 have e : ∀ b', b = b' -> ∀ t, get ((d, .bool b') :: s) t = get s t := fun b' eb t => by
  rw [qO]; split
  ·rename_i e'; subst e'; rw [hb, eb]
  ·rfl
 unfold ADr; rw [hg]
 exact .inl ⟨d, b, hd, hb, fun hw => let ⟨v, h4, h5⟩ := h1 hw; ⟨v, h4.congr (e _ hw), xI rest (qb (e _ hw) _ _) h5⟩, fun hw => xI rest (qb (e _ hw) _ _) (h2 hw)⟩
theorem j2s {j : Nat} {want : Bool} (hg : o.guard = some (j, want)) {d : Nat} (hd : jz ops j = some d) (hb : get s d = .tup []) (h2 : ADr P n ops h K rest (jX s o.dst (.tup []))) : ADr P n ops h K (o :: rest) s := by
 unfold ADr; rw [hg]
 exact .inr ⟨d, hd, hb, h2⟩
theorem j4r {v : AV} (ho : OkO P o s h v) (hk : ADr P n ops h K rest (jX s o.dst v)) : D1 P n ops h K o rest s := ⟨v, ho, hk⟩

def qZ (ops : Array Oper) (o : Oper) : List Nat :=
 (o.op.operands.toList.filterMap fun | .tmp t => some t | _ => none) ++ (match o.guard with | some (j, _) => (jz ops j).toList | none => [])
def wy (n : Md) (ops : List Oper) : Bool :=
 let b := Region.before ops.toArray
 (List.range ops.length).all fun j => match ops[j]? with
   | none => true
   | some o => xO o && qC o && qj n o.dst && (o.after.toList.all fun e => !Region.binds .any e || Nat.blt e.on j) && (match o.guard with | some (g, _) => (b.getD j 0).testBit g | none => true) &&
    (List.range ops.length).all fun i => i == j || (match jz ops.toArray i with
      | none => true
      | some d => !((qZ ops.toArray o).contains d || o.dst == some d) || (b.getD (max i j) 0).testBit (min i j))

def jG (s : j6) (ops : List Oper) (vs : Nat -> AV) (L : Nat -> Bool) : Nat -> j6
 | 0 => s
 | k + 1 => if L k then jX (jG s ops vs L k) ((ops[k]?).bind (·.dst)) (vs k) else jG s ops vs L k
theorem jx (s : j6) (d : Option Nat) (v : AV) (t : Nat) : get (jX s d v) t = if d = some t then v else get s t := by
 cases d with
 | none => simp [jX]
 | some d => simp only [jX, qO, Option.some.injEq]
theorem qW {ops : List Oper} {vs : Nat -> AV} {L M : Nat -> Bool} {t : Nat} : ∀ k, (∀ j, j < k -> (ops[j]?).bind (·.dst) = some t -> L j = M j) -> get (jG s ops vs L k) t = get (jG s ops vs M k) t
 | 0, _ => rfl
 | k + 1, hk => by
  have ih := qW (L := L) (M := M) (vs := vs) k fun j hj => hk j (by omega)
  simp only [jG]
  by_cases hd : (ops[k]?).bind (·.dst) = some t
  ·have := hk k (by omega) hd
   rw [<- this]
   cases L k
   ·simpa using ih
   ·simp only [if_true, jx, if_pos hd]
  ·cases L k <;> cases M k <;> simp only [if_true, Bool.false_eq_true, if_false, jx, if_neg hd] <;> exact ih
theorem qJ {ops : List Oper} {vs : Nat -> AV} {L : Nat -> Bool} {t : Nat} {i : Nat} : ∀ k, i <= k -> (∀ j, i <= j -> j < k -> (ops[j]?).bind (·.dst) = some t -> L j = false) -> get (jG s ops vs L k) t = get (jG s ops vs L i) t
 | 0, hi, _ => by obtain rfl : i = 0 := by omega
                  rfl
 | k + 1, hi, hk => by
  by_cases he : i = k + 1
  ·subst he; rfl
  have ih := qJ (L := L) (vs := vs) k (by omega) fun j h1 h2 => hk j h1 (by omega)
  simp only [jG]
  by_cases hd : (ops[k]?).bind (·.dst) = some t
  ·have := hk k (by omega) (by omega) hd
   simpa [this] using ih
  ·cases L k <;> simp only [if_true, Bool.false_eq_true, if_false, jx, if_neg hd] <;> exact ih
def zg (P : Program) (ops : List Oper) (h : j8) (s : j6) (vs : Nat -> AV) (i : Nat) (o : Oper) : Prop :=
 match o.guard with
 | none => OkO P o (jG s ops vs (fun _ => true) i) h (vs i)
 | some (j, want) => (∃ d b, jz ops.toArray j = some d ∧ get (jG s ops vs (fun _ => true) i) d = .bool b ∧ (b = want -> OkO P o (jG s ops vs (fun _ => true) i) h (vs i)) ∧ (b = !want -> vs i = .tup [])) ∨
   (∃ d, jz ops.toArray j = some d ∧ get (jG s ops vs (fun _ => true) i) d = .tup [] ∧ vs i = .tup [])
theorem vf {ops : List Oper} {vs vs' : Nat -> AV} {L : Nat -> Bool} : ∀ k, (∀ j, j < k -> vs j = vs' j) -> jG s ops vs L k = jG s ops vs' L k
 | 0, _ => rfl
 | k + 1, hk => by simp only [jG]; rw [vf k fun j hj => hk j (by omega), hk k (by omega)]
theorem YU (l : List Oper) : ∀ (rest : List Oper) (m : Nat) (vs : Nat -> AV), l.drop m = rest -> m <= l.length -> ADr P n l.toArray h K rest (jG s l vs (fun _ => true) m) ->
  (∀ i o, i < m -> l[i]? = some o -> zg P l h s vs i o) -> ∃ vs' : Nat -> AV, (∃ s', (∀ t, get (jG s l vs' (fun _ => true) l.length) t = get s' t) ∧ K s') ∧ ∀ i o, l[i]? = some o -> zg P l h s vs' i o
 | [], m, vs, hr, hm, hd, hk => by
  have hm' : m = l.length := by
   have := List.drop_eq_nil_iff.1 hr; omega
  subst hm'
  exact ⟨vs, hd, fun i o ho => hk i o (List.getElem?_eq_some_iff.1 ho).1 ho⟩
 | o :: rest, m, vs, hr, hm, hd, hk => by
  have hlt : m < l.length := by
   have : (l.drop m).length = (o :: rest).length := by rw [hr]
   simp at this; omega
  have ho : l[m]? = some o := by
   have : (l.drop m)[0]? = some o := by rw [hr]; rfl
   simpa using this
  have hr' : l.drop (m + 1) = rest := by rw [<- List.drop_drop, hr]; rfl
  have step : ∀ v, ADr P n l.toArray h K rest (jX (jG s l vs (fun _ => true) m) o.dst v) -> (∀ vs' : Nat -> AV, vs' m = v -> jG s l vs' (fun _ => true) m = jG s l vs (fun _ => true) m -> zg P l h s vs' m o) ->
    ∃ vs' : Nat -> AV, (∃ s', (∀ t, get (jG s l vs' (fun _ => true) l.length) t = get s' t) ∧ K s') ∧ ∀ i o, l[i]? = some o -> zg P l h s vs' i o := by
   intro v hv hkn
   have e : ∀ k, k <= m -> jG s l (fun i => if i = m then v else vs i) (fun _ => true) k = jG s l vs (fun _ => true) k := fun k hk => vf k fun j hj => by
    show (if j = m then v else vs j) = vs j; rw [if_neg (by omega)]
   refine YU l rest (m + 1) (fun i => if i = m then v else vs i) hr' hlt ?_ ?_
   ·simp only [jG, if_true, ho, Option.bind_some]
    rw [e m (Nat.le_refl _)]; exact hv
   ·intro i o' hi ho'
    by_cases him : i = m
    ·subst him
     rw [ho] at ho'; cases ho'
     exact hkn _ (by simp) (e i (Nat.le_refl _))
    ·have := hk i o' (by omega) ho'
     unfold zg at this ⊢
     simp only [e i (by omega), if_neg him]
     exact this
  unfold ADr at hd
  cases hg : o.guard with
  | none =>
   rw [hg] at hd
   obtain ⟨v, h1, h2⟩ := hd
   exact step v h2 fun vs' e1 e2 => by unfold zg; rw [hg]; show OkO _ _ _ _ _; rw [e1, e2]; exact h1
  | some g =>
   obtain ⟨j, want⟩ := g
   rw [hg] at hd
   rcases hd with ⟨d, b, h0, h1, h2, h3⟩ | ⟨d, h0, h1, h2⟩
   ·by_cases hb : b = want
    ·obtain ⟨v, h4, h5⟩ := h2 hb
     exact step v h5 fun vs' e1 e2 => by
      unfold zg; rw [hg]
      exact .inl ⟨d, b, h0, by rw [e2]; exact h1, fun _ => by rw [e1, e2]; exact h4, fun hb' => by subst hb; cases b <;> cases hb'⟩
    ·exact step (.tup []) (h3 (by cases b <;> cases want <;> simp_all)) fun vs' e1 e2 => by
      unfold zg; rw [hg]
      exact .inl ⟨d, b, h0, by rw [e2]; exact h1, fun hb' => absurd hb' hb, fun _ => e1⟩
   ·exact step (.tup []) h2 fun vs' e1 e2 => by
     unfold zg; rw [hg]
     exact .inr ⟨d, h0, by rw [e2]; exact h1, e1⟩

theorem Jp (acc : Array Nat) (es : List Edge) (x : Nat) : ∀ (s0 : Nat), (es.foldl (fun s e => if Region.binds .any e then s ||| 2 ^ e.on ||| acc.getD e.on 0 else s) s0).testBit x = true ->
  s0.testBit x = true ∨ ∃ e ∈ es, Region.binds .any e = true ∧ (x = e.on ∨ (acc.getD e.on 0).testBit x = true) := by
 induction es with
 | nil => intro s0 hx; exact .inl hx
 | cons e es ih =>
  intro s0 hx
  rw [List.foldl_cons] at hx
  rcases ih _ hx with h1 | ⟨e', h1, h2⟩
  ·by_cases hb : Region.binds .any e = true
   ·rw [if_pos hb, Nat.testBit_or, Nat.testBit_or, Nat.testBit_two_pow] at h1
    rcases (Bool.or_eq_true _ _).mp h1 with h1 | h1
    ·rcases (Bool.or_eq_true _ _).mp h1 with h1 | h1
     ·exact .inl h1
     ·exact .inr ⟨e, List.mem_cons_self, hb, .inl (by have := of_decide_eq_true h1; omega)⟩
    ·exact .inr ⟨e, List.mem_cons_self, hb, .inr h1⟩
   ·rw [if_neg hb] at h1; exact .inl h1
  ·exact .inr ⟨e', List.mem_cons_of_mem _ h1, h2⟩
theorem qG {L : Nat -> Bool} (hdown : ∀ j o, ops[j]? = some o -> L j = true -> ∀ e ∈ o.after.toList, Region.binds .any e = true -> L e.on = true) :
  ∀ j i, L j = true -> ((Region.before ops).getD j 0).testBit i = true -> L i = true := by
 have key : ∀ (l pre : List Oper) (acc : Array Nat), acc.size = pre.length -> ops.toList = pre ++ l -> (∀ j i, L j = true -> (acc.getD j 0).testBit i = true -> L i = true) ->
   ∀ j i, L j = true -> ((l.foldl (init := acc) fun acc o => acc.push (o.after.foldl (fun s e => if Region.binds .any e then s ||| 2 ^ e.on ||| acc.getD e.on 0 else s) 0)).getD j 0).testBit i = true -> L i = true := by
  intro l
  induction l with
  | nil => intro pre acc _ _ hacc; exact hacc
  | cons o l ih =>
   intro pre acc hsz hops hacc
   refine ih (pre ++ [o]) _ (by simp [hsz]) (by simp [hops]) ?_
   intro j i hj hb
   by_cases hlt : j < acc.size
   ·refine hacc j i hj ?_
    simpa [Array.getD_eq_getD_getElem?, Array.getElem?_push, Nat.ne_of_lt hlt] using hb
   ·by_cases he : j = acc.size
    ·subst he
     have ho : ops[acc.size]? = some o := by rw [<- Array.getElem?_toList, hops, hsz]; simp
     have hb' : ((o.after.toList.foldl (fun s e => if Region.binds .any e then s ||| 2 ^ e.on ||| acc.getD e.on 0 else s) 0)).testBit i = true := by
      simpa [Array.getD_eq_getD_getElem?, <- Array.foldl_toList] using hb
     rcases Jp acc _ i 0 hb' with h0 | ⟨e, h1, h2, h3⟩
     ·simp at h0
     ·have hL := hdown _ o ho hj e h1 h2
      rcases h3 with rfl | h3
      ·exact hL
      ·exact hacc _ _ hL h3
    ·have : (acc.push (o.after.foldl (fun s e => if Region.binds .any e then s ||| 2 ^ e.on ||| acc.getD e.on 0 else s) 0))[j]? = none := by
      apply Array.getElem?_eq_none; simp; omega
     rw [Array.getD_eq_getD_getElem?, this] at hb
     simp at hb
 intro j i hj hb
 unfold Region.before at hb
 rw [<- Array.foldl_toList] at hb
 exact key ops.toList [] #[] rfl rfl (fun j i _ hb => by simp [Array.getD_eq_getD_getElem?] at hb) j i hj hb
theorem qi {n : Md} {l : List Oper} (hok : wy n l = true) {j : Nat} {o : Oper} (ho : l[j]? = some o) :
  xO o = true ∧ qC o = true ∧ qj n o.dst = true ∧ (∀ e ∈ o.after.toList, Region.binds .any e = true -> e.on < j) ∧ (∀ g want, o.guard = some (g, want) -> ((Region.before l.toArray).getD j 0).testBit g = true) ∧
  ∀ i d, i < l.length -> i ≠ j -> jz l.toArray i = some d -> (d ∈ qZ l.toArray o ∨ o.dst = some d) -> ((Region.before l.toArray).getD (max i j) 0).testBit (min i j) = true := by
 have hj : j < l.length := (List.getElem?_eq_some_iff.1 ho).1
 unfold wy at hok
 have h1 := List.all_eq_true.1 hok j (List.mem_range.2 hj)
 simp only [ho, Bool.and_eq_true] at h1
 obtain ⟨⟨⟨⟨⟨h1, h2⟩, h3⟩, h4⟩, h5⟩, h6⟩ := h1
 refine ⟨h1, h2, h3, fun e he hb => by have := List.all_eq_true.1 h4 e he; rw [hb] at this; simpa using this, fun g want hg => by rw [hg] at h5; exact h5, fun i d hi hne hd hor => ?_⟩
 have h7 := List.all_eq_true.1 h6 i (List.mem_range.2 hi)
 simp only [hd, Bool.or_eq_true, beq_iff_eq, Bool.not_eq_true'] at h7
 rcases h7 with h7 | h7 | h7
 ·exact absurd h7 hne
 ·exfalso
  rcases hor with h8 | h8 <;> simp [h8] at h7
 ·exact h7
theorem j2a {id : Nat} {l : List Oper} (hm : P.follows .mixedOrders = true) (hok : wy n l = true) (hk : ADr P n l.toArray h (fun s' => Q .normal s' h) l s) : AWp P n (.region id l.toArray true) Q s h := by
 intro E σ0 ι a w hr ht
 obtain ⟨vs, ⟨sF, hF, hQ⟩, hkn⟩ := YU (s := s) (h := h) l l 0 (fun _ => .undef) rfl (Nat.zero_le _) hk (fun i o hi => absurd hi (by omega))
 refine wpIn_region_any hm ?_
 have hr' : Rel E σ0 ι h { w with drawn := w.drawn + 1 } := ⟨hr.os, hr.tape, hr.output, hr.size, hr.old, hr.sigOld, hr.sub, hr.ch, hr.foot, hr.dj, hr.pin, hr.low, hr.xo⟩
 have key : ∀ (fuel : Nat) (listed : Array Bool) (σ : Sig) (a : Act) (w : World), listed.size = l.length ->
   (∀ j o, l[j]? = some o -> listed.getD j false = true -> ∀ e ∈ o.after.toList, Region.binds .any e = true -> listed.getD e.on false = true) ->
   (List.range l.length).countP (fun j => !listed.getD j false) <= fuel ->
   Rel E σ ι h w -> TR n σ ι (jG s l vs (fun j => listed.getD j false) l.length) a ->
   wpAnyIn (qd n.ro) 0 P .any l.toArray (fun e a' w' => ∃ s' h' σ' ι', Q e s' h' ∧ Rel E σ' ι' h' w' ∧ TR n σ' ι' s' a') fuel listed a w := by
  have done : ∀ (listed : Array Bool) (σ : Sig) (a : Act) (w : World), listed.size = l.length ->
    Region.ready .any l.toArray listed = [] -> Rel E σ ι h w -> TR n σ ι (jG s l vs (fun j => listed.getD j false) l.length) a -> ∃ s' h' σ' ι', Q .normal s' h' ∧ Rel E σ' ι' h' w ∧ TR n σ' ι' s' a := by
   intro listed σ a w hsz hready hr ht
   have hall : ∀ m j, j < m -> j < l.length -> listed.getD j false = true := by
    intro m
    induction m with
    | zero => intro j hj; omega
    | succ m ih =>
     intro j hj hlen
     by_cases hlt : j < m
     ·exact ih j hlt hlen
     obtain rfl : j = m := by omega
     cases hl : listed.getD j false with
     | true => rfl
     | false =>
      exfalso
      have : j ∈ Region.ready .any l.toArray listed := by
       unfold Region.ready
       refine List.mem_filter.2 ⟨by simpa using hlen, ?_⟩
       have ho : l[j]? = some l[j] := List.getElem?_eq_getElem hlen
       have hj' : listed.getD j true = false := by
        have hb : j < listed.size := by omega
        simpa [Array.getD, hb] using hl
       simp only [hj', Bool.not_false, Bool.true_and, List.getElem?_toArray, ho, Option.map_some, Option.getD_some]
       rw [<- Array.all_toList]
       refine List.all_eq_true.2 fun e he => ?_
       cases hb : Region.binds .any e with
       | false => simp
       | true =>
        have h3 := (qi hok ho).2.2.2.1 e he hb
        rw [ih e.on h3 (by omega)]; simp
      rw [hready] at this; cases this
   refine ⟨_, h, σ, ι, hQ, hr, ?_⟩
   refine ⟨ht.size, ht.defers, fun t => ?_⟩
   have := ht.at_ t
   rwa [qW (M := fun _ => true) l.length fun j hj _ => hall _ j hj hj, hF] at this
  intro fuel
  induction fuel with
  | zero =>
   intro listed σ a w hsz _ hc hr ht
   have hready : Region.ready .any l.toArray listed = [] := by
    rw [List.eq_nil_iff_forall_not_mem]
    intro j hj
    obtain ⟨h1, h2⟩ := List.mem_filter.1 hj
    have h1' : j < l.length := by simpa using h1
    have hb : j < listed.size := by omega
    have h3 : listed.getD j false = false := by
     have := (Bool.and_eq_true _ _ ▸ h2).1
     simpa [Array.getD, hb] using this
    have : 0 < (List.range l.length).countP (fun j => !listed.getD j false) := List.countP_pos_iff.2 ⟨j, List.mem_range.2 h1', by simp [h3]⟩
    omega
   exact ⟨hready, done listed σ a w hsz hready hr ht⟩
  | succ fuel ih =>
   intro listed σ a w hsz hdown hc hr ht
   refine ⟨fun hready => done listed σ a w hsz hready hr ht, fun i hi => ?_⟩
   obtain ⟨h1, h2⟩ := List.mem_filter.1 hi
   have hil : i < l.length := by simpa using h1
   have hb : i < listed.size := by omega
   have ho : l[i]? = some l[i] := List.getElem?_eq_getElem hil
   have h2' := Bool.and_eq_true _ _ ▸ h2
   have hif : listed.getD i false = false := by
    have := h2'.1
    simpa [Array.getD, hb] using this
   have hafter : ∀ e ∈ l[i].after.toList, Region.binds .any e = true -> listed.getD e.on false = true := by
    have h3 := h2'.2
    simp only [List.getElem?_toArray, ho, Option.map_some, Option.getD_some] at h3
    rw [<- Array.all_toList] at h3
    intro e he hbe
    have := List.all_eq_true.1 h3 e he
    simpa [hbe] using this
   have hopsA : ∀ j o, l.toArray[j]? = some o ↔ l[j]? = some o := fun j o => by rw [List.getElem?_toArray]
   obtain ⟨c0, c1, c2, c3, c4, c5⟩ := qi hok ho
   -- ahead of this one
   have hL' : ∀ x, (listed.setIfInBounds i true).getD x false = (listed.getD x false || x == i) := fun x => by
    by_cases hx : x = i
    ·subst hx; simp [Array.getD, hb]
    ·have : ¬ i = x := fun e => hx e.symm
     simp [Array.getD_eq_getD_getElem?, Array.getElem?_setIfInBounds, this, hx]
   have hdown' : ∀ j o, l[j]? = some o -> (listed.setIfInBounds i true).getD j false = true -> ∀ e ∈ o.after.toList, Region.binds .any e = true -> (listed.setIfInBounds i true).getD e.on false = true := by
    intro j o hjo hj e he hbe
    rw [hL'] at hj ⊢
    rcases (Bool.or_eq_true _ _).mp hj with hj | hj
    ·rw [hdown j o hjo hj e he hbe]; rfl
    ·have : j = i := by simpa using hj
     subst this
     rw [ho] at hjo; cases hjo
     rw [hafter e he hbe]; rfl
   have hbef' := qG (ops := l.toArray) (L := fun j => (listed.setIfInBounds i true).getD j false) (fun j o hjo => hdown' j o ((hopsA j o).1 hjo))
   have hbef := qG (ops := l.toArray) (L := fun j => listed.getD j false) (fun j o hjo => hdown j o ((hopsA j o).1 hjo))
   have hlow : ∀ x, x ≠ i -> ((Region.before l.toArray).getD i 0).testBit x = true -> listed.getD x false = true := by
    intro x hx hbit
    have := hbef' i x (by simp [hL']) hbit
    simp only [hL'] at this
    rcases (Bool.or_eq_true _ _).mp this with h | h
    ·exact h
    ·exact absurd (by simpa using h) hx
   -- a slot that it names: those that write it ahead of it, in the text, have come up; the others have not
   have hside : ∀ t, (t ∈ qZ l.toArray l[i] ∨ l[i].dst = some t) -> ∀ j, j < l.length -> (l[j]?).bind (·.dst) = some t -> j ≠ i -> listed.getD j false = decide (j < i) := by
    intro t htm j hj hjd hne
    have hd : jz l.toArray j = some t := by simpa [jz] using hjd
    have hbit := c5 j t hj hne hd htm
    by_cases hlt : j < i
    ·rw [Nat.max_eq_right (by omega), Nat.min_eq_left (by omega)] at hbit
     rw [hlow j hne hbit]; simp [hlt]
    ·have hgt : i < j := by omega
     rw [Nat.max_eq_left (by omega), Nat.min_eq_right (by omega)] at hbit
     simp only [hlt, decide_false]
     cases hc : listed.getD j false with
     | false => rfl
     | true => have := hbef j i hc hbit; simp only [hif] at this; cases this
   have j9 : ∀ t, (t ∈ qZ l.toArray l[i] ∨ l[i].dst = some t) -> get (jG s l vs (fun j => listed.getD j false) l.length) t = get (jG s l vs (fun _ => true) i) t := by
    intro t htm
    rw [qJ (i := i) l.length (by omega) fun j h3 h4 hjd => ?_]
    ·exact qW i fun j h3 hjd => by rw [hside t htm j (by omega) hjd (by omega)]; simp [h3]
    ·by_cases hji : j = i
     ·subst hji; exact hif
     ·rw [hside t htm j h4 hjd hji]; simp; omega
   have hcount : (List.range l.length).countP (fun j => !(listed.setIfInBounds i true).getD j false) <= fuel := by
    have hlt : (List.range l.length).countP (fun j => !(listed.setIfInBounds i true).getD j false) < (List.range l.length).countP (fun j => !listed.getD j false) := by
     have hsplit : List.range l.length = List.range i ++ i :: (List.range' (i + 1) (l.length - (i + 1))) := by
      obtain ⟨m, hm⟩ : ∃ m, l.length = i + (m + 1) := ⟨l.length - (i + 1), by omega⟩
      rw [hm, show i + (m + 1) - (i + 1) = m by omega, List.range_eq_range', List.range_eq_range', <- List.range'_append_1, List.range'_succ]
      simp
     rw [hsplit, List.countP_append, List.countP_append, List.countP_cons, List.countP_cons]
     have e1 : (List.range i).countP (fun j => !(listed.setIfInBounds i true).getD j false) = (List.range i).countP (fun j => !listed.getD j false) := List.countP_congr fun x hx => by
      rw [hL']; have := List.mem_range.1 hx; simp [show x ≠ i by omega]
     have e2 : (List.range' (i + 1) (l.length - (i + 1))).countP (fun j => !(listed.setIfInBounds i true).getD j false) = (List.range' (i + 1) (l.length - (i + 1))).countP (fun j => !listed.getD j false) := List.countP_congr fun x hx => by
      rw [hL']; have := (List.mem_range'_1.1 hx).1; simp [show x ≠ i by omega]
     rw [e1, e2, hL']
     simp [hif]
    omega
   have fin : ∀ σ' w' u, Sig.le σ σ' -> Rel E σ' ι h w' -> VR σ' ι (vs i) u ->
     wpAnyIn (qd n.ro) 0 P .any l.toArray (fun e a' w' => ∃ s' h' σ' ι', Q e s' h' ∧ Rel E σ' ι' h' w' ∧ TR n σ' ι' s' a') fuel (listed.setIfInBounds i true) (a.put l[i].dst u) w' := by
    intro σ' w' u hle hr'' hv
    refine ih _ σ' _ w' (by simpa using hsz) hdown' hcount hr'' ?_
    have hp := (ht.mono hle).putS c2 hv
    refine ⟨hp.size, hp.defers, fun t => ?_⟩
    have h3 := hp.at_ t
    rw [jx] at h3
    by_cases hdt : l[i].dst = some t
    ·rw [if_pos hdt] at h3
     have : get (jG s l vs (fun j => (listed.setIfInBounds i true).getD j false) l.length) t = vs i := by
      rw [qJ (i := i + 1) l.length (by omega) fun j h4 h5 hjd => ?_]
      ·simp only [jG, hL', hif, BEq.rfl, Bool.or_true, if_true, jx, ho, Option.bind_some, if_pos hdt]
      ·rw [hL', hside t (.inr hdt) j h5 hjd (by omega)]; simp; omega
     rw [this]; exact h3
    ·rw [if_neg hdt] at h3
     have : get (jG s l vs (fun j => (listed.setIfInBounds i true).getD j false) l.length) t = get (jG s l vs (fun j => listed.getD j false) l.length) t :=
      qW _ fun j h4 hjd => by
       rw [hL']
       have : j ≠ i := fun e => by subst e; rw [ho] at hjd; exact hdt (by simpa using hjd)
       simp [this]
     rw [this]; exact h3
   unfold wpOpIn
   simp only [List.getElem?_toArray, ho]
   have hopnd : ∀ x ∈ l[i].op.operands.toList, VR σ ι (evA (jG s l vs (fun _ => true) i) x) (a.eval x) := by
    intro x hx
    refine jZ (List.all_eq_true.1 c1 x hx) fun t htx => ?_
    have htm : t ∈ qZ l.toArray l[i] := List.mem_append_left _ (List.mem_filterMap.2 ⟨x, hx, by rw [htx]⟩)
    have := ht.at_ t
    rwa [j9 t (.inl htm)] at this
   have hkn' := hkn i _ ho
   unfold zg at hkn'
   have run : OkO P l[i] (jG s l vs (fun _ => true) i) h (vs i) -> l[i].wpIn (qd n.ro) 0 P a w (wpAnyIn (qd n.ro) 0 P .any l.toArray (fun e a' w' => ∃ s' h' σ' ι', Q e s' h' ∧ Rel E σ' ι' h' w' ∧ TR n σ' ι' s' a') fuel (listed.setIfInBounds i true)) (fun e a' w' => ∃ s' h' σ' ι', Q e s' h' ∧ Rel E σ' ι' h' w' ∧ TR n σ' ι' s' a') :=
    fun hO => Je c0 (hO E σ ι a w hr hopnd _ _ fin)
   cases hg : l[i].guard with
   | none =>
    rw [hg] at hkn'
    rw [if_pos (by simp [Region.wanted, hg])]
    exact run hkn'
   | some g =>
    obtain ⟨j, want⟩ := g
    rw [hg] at hkn'
    have hdn : ∀ d, jz l.toArray j = some d -> d < n.n := fun d hd => by
     have hj : ∃ oj, l[j]? = some oj ∧ oj.dst = some d := by
      unfold jz at hd
      cases hjo : l[j]? with
      | none => simp [hjo] at hd
      | some oj => exact ⟨oj, rfl, by simpa [hjo] using hd⟩
     obtain ⟨oj, hjo, hjd⟩ := hj
     have := (qi hok hjo).2.2.1
     rw [hjd] at this
     simpa [qj] using this
    have hdt : ∀ d, jz l.toArray j = some d -> d ∈ qZ l.toArray l[i] := fun d hd => List.mem_append_right _ (by rw [hg]; simp [hd])
    rcases hkn' with ⟨d, b, hd, hb', h3, h4⟩ | ⟨d, hd, hb', h4⟩
    ·have hv := ht.at_ d
     rw [j9 d (.inl (hdt d hd)), hb'] at hv
     rw [vU hg hd (by rw [ht.size]; exact hdn d hd) hv]
     by_cases hw : b = want
     ·rw [if_pos (by simpa using hw)]
      exact run (h3 hw)
     ·rw [if_neg (by simpa using hw)]
      exact ⟨fun _ _ => trivial, fin σ w undef (Sig.le.refl σ) hr (by rw [h4 (by cases b <;> cases want <;> simp_all)]; exact VR.tup0)⟩
    ·have hv := ht.at_ d
     rw [j9 d (.inl (hdt d hd)), hb'] at hv
     rw [wB hg hd (by rw [ht.size]; exact hdn d hd) hv.tup0_inv, if_neg (by simp)]
     exact ⟨fun _ _ => trivial, fin σ w undef (Sig.le.refl σ) hr (by rw [h4]; exact VR.tup0)⟩
 have hrep : ∀ j, (Array.replicate l.toArray.size false).getD j false = false := fun j => by
  simp only [Array.getD_eq_getD_getElem?, Array.getElem?_replicate]; split <;> rfl
 refine key l.toArray.size _ σ0 a _ (by simp) ?_ ?_ hr' ?_
 ·intro j o hj hl
  rw [hrep] at hl; cases hl
 ·refine Nat.le_trans List.countP_le_length ?_
  simp
 ·refine ⟨ht.size, ht.defers, fun t => ?_⟩
  have := ht.at_ t
  rw [qJ (i := 0) l.length (Nat.zero_le _) fun j _ _ _ => hrep j]
  exact this
end
end Go.Proofs.YtfjoaeghnfkdlaaGreatDoor
