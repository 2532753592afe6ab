/- The laws of operations in the forms that a walk takes. Printed by gentac.py. No condition. -/
import Derived.Test.YtfjoaeghnfkdlaaGreatDoorB5
set_option linter.unusedSimpArgs false
set_option linter.unusedVariables false
set_option maxHeartbeats 1000000
set_option maxRecDepth 100000
namespace Go.Proofs.YtfjoaeghnfkdlaaGreatDoor
open Go.RowKit
section
variable {P : Program} {n : Md} {Q : Exit -> j6 -> j8 -> Prop} {s : j6} {h : j8} {ops : Array Oper} {rest : List Oper} {o : Oper} {K : j6 -> Prop}
structure W (P : Program) (n : Md) (c : Code) (Q : Exit -> j6 -> j8 -> Prop) (s : j6) (h : j8) : Prop where
 out : AWp P n c Q s h
structure Y (P : Program) (o : Oper) (s : j6) (h : j8) (v : AV) : Prop where
 out : OkO P o s h v
structure O (P : Program) (n : Md) (ops : Array Oper) (Q : Exit -> j6 -> j8 -> Prop) (rest : List Oper) (s : j6) (h : j8) : Prop where
 out : xq P n ops Q rest s h
structure D (P : Program) (n : Md) (ops : Array Oper) (h : j8) (K : j6 -> Prop) (rest : List Oper) (s : j6) : Prop where
 out : ADr P n ops h K rest s
theorem q_s {side : Prop} {v : AV} (hs : Q0 P s h o = some (side, v)) (hside : side) : Y P o s h v := ⟨zA hs hside⟩
theorem q_l {α : Type} {sz : Nat} {l : List α} {f : α -> List AV} {t e : TypeId} {x : Operand} (ho : o.op = .call { callee := .builtin .len, args := #[x], argTypes := #[t] }) (hx : evA s x = .lst sz (l.map f)) (ht : qD P t = some e) : Y P o s h (.int .i64 l.length) := ⟨j6N ho ht hx⟩
theorem q_n {t e : TypeId} {x : Operand} (ho : o.op = .call { callee := .builtin .len, args := #[x], argTypes := #[t] }) (hx : evA s x = .nils) (ht : qD P t = some e) : Y P o s h (.int .i64 0) := ⟨Yq ho ht hx⟩
theorem j67 {α : Type} {sz id : Nat} {l : List α} {f : α -> List AV} {t e e' : TypeId} {x : Operand} (ho : o.op = .call { callee := .builtin .len, args := #[x], argTypes := #[t] }) (hx : evA s x = .own id) (hg : j9 h id = some (.row e' sz (l.map f))) (ht : qD P t = some e) : Y P o s h (.int .i64 l.length) := ⟨ZI ho ht hx hg⟩
theorem q_i {α : Type} [Inhabited α] {sz : Nat} {l : List α} {f : α -> List AV} {t e : TypeId} {x y : Operand} {ik : IntKind} {i : Nat} (ho : o.op = .indexAddr t x y) (hx : evA s x = .lst sz (l.map f)) (hy : evA s y = .int ik i) (ht : qD P t = some e) (hz : q9 P e sz = true) (hi : i < l.length) : Y P o s h (.ref (f (l.getD i default))) := ⟨VT ho ht hz hx hy hi⟩
theorem j5k {α : Type} [Inhabited α] {sz : Nat} {l : List α} {f : α -> List AV} {t e : TypeId} {x y : Operand} {ik : IntKind} {i : Int} (ho : o.op = .indexAddr t x y) (hx : evA s x = .lst sz (l.map f)) (hy : evA s y = .int ik i) (ht : qD P t = some e) (hz : q9 P e sz = true) (h0 : 0 <= i) (hi : i < l.length) : Y P o s h (.ref (f (l.getD i.toNat default))) := ⟨j1N ho ht hz hx hy h0 hi⟩
theorem j6C {α : Type} {sz id : Nat} {l : List α} {f : α -> List AV} {t e e' : TypeId} {x y : Operand} {ik : IntKind} {i : Nat} (ho : o.op = .indexAddr t x y) (hx : evA s x = .own id) (hg : j9 h id = some (.row e' sz (l.map f))) (hy : evA s y = .int ik i) (ht : qD P t = some e) (hz : q9 P e sz = true) (hi : i < l.length) : Y P o s h (.eptr id sz i 0) := ⟨yO ho ht hz hx hg hy hi⟩
theorem j2v {α : Type} {sz id : Nat} {l : List α} {f : α -> List AV} {t e e' : TypeId} {x y : Operand} {ik : IntKind} {i : Int} (ho : o.op = .indexAddr t x y) (hx : evA s x = .own id) (hg : j9 h id = some (.row e' sz (l.map f))) (hy : evA s y = .int ik i) (ht : qD P t = some e) (hz : q9 P e sz = true) (h0 : 0 <= i) (hi : i < l.length) : Y P o s h (.eptr id sz i.toNat 0) := ⟨Vb ho ht hz hx hg hy h0 hi⟩
theorem q_p {α : Type} [Inhabited α] {sz id i j : Nat} {l : List α} {f : α -> List AV} {t e' : TypeId} {x : Operand} {side : Prop} {v : AV} (ho : o.op = .load t x) (hx : evA s x = .eptr id sz i j) (hg : j9 h id = some (.row e' sz (l.map f))) (hc : xX P t ((f (l.getD i default)).drop j) = some (side, v)) (hi : i < l.length) (hside : side) : Y P o s h v := ⟨Y6 ho hx hg hi hc hside⟩
theorem QG {α : Type} {l : List α} {f : α -> List AV} {t e : TypeId} {x : Operand} {lo hi : Option Operand} {sz a b : Nat} (ho : o.op = .slice t x lo hi none) (hx : evA s x = .lst sz (l.map f)) (ht : qD P t = some e) (hz : q9 P e sz = true) (hlo : zn s lo 0 a) (hhi : zn s hi l.length b) (hab : a <= b) (hb : b <= l.length) : Y P o s h (.lst sz (((l.take b).drop a).map f)) := ⟨j2A ho ht hz hx hlo hhi hab hb⟩
theorem q_b {t : TypeId} {x : Operand} {v : AV} (ho : o.op = .box t x) (hv : evA s x = v) (hq : J2 v = true) (hp : wk (qk v) = true) : Y P o s h (.ref (qk v)) := ⟨j5m ho hv hq hp⟩
theorem q_g {t e : TypeId} {len : Nat} {parts : Array (Nat × Operand)} {xs : List (List AV)} {z0 : List AV} (ho : o.op = .buildSlice t len parts) (ht : qD P t = some e) (h0 : wQ P e = some z0) (hz : q9 P e z0.length = true) (hp : zx s parts.toList 0 = some xs) (hsz : Nat.blt 0 z0.length = true) (hb : Nat.ble (len * z0.length) 16777216 = true) (hl : Nat.beq parts.toList.length len = true) (hs : j1E z0.length xs = true) : Y P o s h (.lst z0.length xs) := ⟨VX ho ht hz h0 (by simpa [Nat.blt_eq] using hsz) (Nat.ble_eq ▸ hb) hp (Nat.eq_of_beq_eq_true hl) hs⟩
theorem q_c {f : FuncId} {args : List AV} {r : AV} (hf : Fn P f args r) (hc : Q8 s o = some (f, args)) : Y P o s h r := ⟨j4a hf hc⟩
theorem q_w {v : AV} (hs : j3D s o = some v) : Y P o s h v := ⟨j4t hs⟩
theorem q_u {t : TypeId} {parts : Array (Nat × Operand)} {cs : List AV} (ho : o.op = .build t parts) (hb : Zj P s t parts.toList = some cs) : Y P o s h (.agg cs) := ⟨j3K ho hb⟩
theorem j72 {v : AV} (hgd : o.guard = none) (hco : qC o = true) (hdo : qj n o.dst = true) (hv : Y P o s h v) (hk : O P n ops Q rest (jX s o.dst v) h) : O P n ops Q (o :: rest) s h := ⟨v8 hgd (j55 hco hdo hv.out hk.out)⟩
theorem j73 {v : AV} (hgd : o.guard = none) (h1 : true = true) (h2 : true = true) (hv : Y P o s h v) (hk : D P n ops h K rest (jX s o.dst v)) : D P n ops h K (o :: rest) s := ⟨j57 hgd (j4r hv.out hk.out)⟩
def unG (o : Oper) : Oper := { o with guard := none }
theorem j0e {j : Nat} {want : Bool} (hg : o.guard = some (j, want)) {d : Nat} (hd : jz ops j = some d) (hn : Nat.blt d n.n = true) {b : Bool} (hb : get s d = .bool b) (ho : qj n o.dst = true)
  (h1 : b = want -> xq P n ops Q (unG o :: rest) ((d, .bool want) :: s) h) (h2 : b = !want -> xq P n ops Q rest (jX ((d, .bool (!want)) :: s) o.dst (.tup [])) h) : xq P n ops Q (o :: rest) s h := fun E σ ι a w hr ht => by
 have hv := ht.at_ d
 rw [hb] at hv
 have hput : ∀ b', b = b' -> TR n σ ι ((d, .bool b') :: s) a := fun b' e => ⟨ht.size, ht.defers, fun t => by
  rw [qO]
  split
  ·rename_i e'; subst e'; subst e; exact hv
  ·exact ht.at_ t⟩
 have hwant := vU hg hd (by rw [ht.size]; simpa using hn) hv
 by_cases hw : b = want
 ·have h3 := h1 hw E σ ι a w hr (hput _ hw)
  intro hnd
  have h4 := h3 (show yN (unG o :: rest) = true from hnd)
  unfold wpListIn at h4 ⊢
  rw [if_pos (by simp [Region.wanted, unG])] at h4
  rw [if_pos (hwant.trans (by simpa using hw))]
  exact h4
 ·have hw2 : b = !want := by cases b <;> cases want <;> simp_all
  exact j0X (hwant.trans (by simpa using hw)) (h2 hw2 E σ ι _ w hr ((hput _ hw2).putS ho VR.tup0))
theorem j2b {j : Nat} {want : Bool} (hg : o.guard = some (j, want)) {d : Nat} (hd : jz ops j = some d) {b : Bool} (hb : get s d = .bool b)
  (h1 : b = want -> ADr P n ops h K (unG o :: rest) ((d, .bool want) :: s)) (h2 : b = !want -> ADr P n ops h K rest (jX ((d, .bool (!want)) :: s) o.dst (.tup []))) : ADr P n ops h K (o :: rest) s :=
 j4P hg hd hb (fun e => by have h3 := h1 e; unfold ADr at h3; exact h3) h2
theorem jR {t : TypeId} {id : Nat} (ho : o.op = .alloc t) {cs : List AV} (hz : wQ P t = some cs) (hf : jd id s h = true) (hi : vD id cs = false) (hgd : o.guard = none) (hco : qC o = true) (hdo : qj n o.dst = true) (hk : O P n ops Q rest (jX s o.dst (.ptr id 0)) ((id, .blk t cs) :: h)) : O P n ops Q (o :: rest) s h := ⟨v8 hgd (j33 ho id hz hdo hf hi hk.out)⟩
theorem wx {t : TypeId} {x : Operand} {id : Nat} (ho : o.op = .box t x) {v : AV} (hv : evA s x = v) (hq : J2 v = true) (hf : jd id s h = true) (hi : vD id (qk v) = false) (hgd : o.guard = none) (hco : qC o = true) (hdo : qj n o.dst = true) (hk : O P n ops Q rest (jX s o.dst (.ptr id 0)) ((id, .blk t (qk v)) :: h)) : O P n ops Q (o :: rest) s h := ⟨v8 hgd (j5Y ho id hv hq hco hdo hf hi hk.out)⟩
theorem j6p {t : TypeId} {x y : Operand} {id off : Nat} {ty : TypeId} {cs : List AV} {v : AV} (ho : o.op = .store t x y) (hx : evA s x = .ptr id off) (hg : j9 h id = some (.blk ty cs)) (hv : evA s y = v) (hq : J2 v = true) (hz : q9 P t (qk v).length = true) (hl : Nat.ble (off + (qk v).length) cs.length = true) (hd : o.dst = none) (hgd : o.guard = none) (hco : qC o = true) (hdo : qj n o.dst = true) (hk : O P n ops Q rest s ((id, .blk ty (spl cs off (qk v))) :: h)) : O P n ops Q (o :: rest) s h := ⟨v8 hgd (j3Q ho hx hg hv hq hz (Nat.ble_eq ▸ hl) hco hd hk.out)⟩
theorem v7 {α : Type} {id sz : Nat} {l : List α} {f : α -> List AV} {t e : TypeId} {x y : Operand} {z0 : List AV} {yl : List (List AV)} {ys : List α} {by_ : Nat} (ho : o.op = .call { callee := .builtin .append, args := #[x, y], argTypes := #[t, t] }) (hx : evA s x = .own id) (hg : j9 h id = some (.row e sz (l.map f))) (ht : qD P t = some e) (hz : q9 P e sz = true) (h0 : wQ P e = some z0) (hz0 : Nat.beq z0.length sz = true) (hby : w0 P e by_ = true) (hy : evA s y = .lst sz yl) (hyl : yl = ys.map f) (hq : ∀ y ∈ ys, (f y).all Ql = true) (hlen : (l.length + ys.length) * by_ <= 140737488355328) (hlen2 : l.length + ys.length <= 9223372036854775807) (h5 : Nat.ble 5 id = true) (hlo : wl id h = true) (hgd : o.guard = none) (hco : qC o = true) (hdo : qj n o.dst = true) (hk : O P n ops Q rest (jX (qv id s) o.dst (.own id)) ((id, .row e sz ((l ++ ys).map f)) :: h)) : O P n ops Q (o :: rest) s h := ⟨v8 hgd (j1e ho ht hz h0 (Nat.eq_of_beq_eq_true hz0) hby hx hg hy hyl hq hlen hlen2 hco hdo h5 hlo hk.out)⟩
theorem j2e {α : Type} {t e : TypeId} {x y : Operand} {sz m : Nat} {k k' : IntKind} {z0 : List AV} {id : Nat} {f : α -> List AV} {d : α} {by_ : Nat} (ho : o.op = .makeSlice t x y) (ht : qD P t = some e) (h0 : wQ P e = some z0) (hz : q9 P e sz = true) (hz0 : z0 = f d) (hzl : Nat.beq z0.length sz = true) (hsz : Nat.blt 0 sz = true) (hby : w0 P e by_ = true) (hx : evA s x = .int k m) (hy : evA s y = .int k' m) (hb : m * by_ <= 140737488355328) (hm : m <= 9223372036854775807) (hf : jd id s h = true) (hgd : o.guard = none) (hco : qC o = true) (hdo : qj n o.dst = true) (hk : O P n ops Q rest (jX s o.dst (.own id)) ((id, .row e sz ((List.replicate m d).map f)) :: h)) : O P n ops Q (o :: rest) s h := ⟨v8 hgd (j4w ho id ht hz h0 hz0 (Nat.eq_of_beq_eq_true hzl) (by simpa [Nat.blt_eq] using hsz) hby hx hy hb hm hco hdo hf hk.out)⟩
theorem KL : (∀ (p : Prop) [Decidable p], (decide p = true) = p) ∧ (∀ (p : Prop) [Decidable p], (decide p = false) = ¬ p) ∧ (∀ b : Bool, ((!b) = true) = (b = false)) ∧ (∀ b : Bool, ((!b) = false) = (b = true)) ∧ (∀ b : Bool, (¬ b = true) = (b = false)) ∧ (∀ b : Bool, (¬ b = false) = (b = true)) ∧
  (∀ b : Bool, (!!b) = b) ∧ ((!true) = false) ∧ ((!false) = true) ∧ (∀ a b : Bool, ((a && b) = true) = (a = true ∧ b = true)) ∧ (∀ a b : Bool, ((a || b) = false) = (a = false ∧ b = false)) ∧ (∀ a b : Int, (¬ a < b) = (b <= a)) ∧ (∀ a b : Int, (¬ a <= b) = (b < a)) ∧ (∀ p : Prop, (¬ ¬ p) = p) ∧ ((¬ False) = True) ∧ ((¬ True) = False) := by
 refine ⟨?_, ?_, ?_, ?_, ?_, ?_, ?_, rfl, rfl, ?_, ?_, ?_, ?_, ?_, ?_, ?_⟩
 ·intro p _; simp
 ·intro p _; simp
 ·intro b; cases b <;> simp
 ·intro b; cases b <;> simp
 ·intro b; cases b <;> simp
 ·intro b; cases b <;> simp
 ·intro b; cases b <;> rfl
 ·intro a b; cases a <;> cases b <;> simp
 ·intro a b; cases a <;> cases b <;> simp
 ·intro a b; simp
 ·intro a b; simp
 ·intro p; simp [Classical.not_not]
 ·simp
 ·simp
structure BThen (next : j6 -> j8 -> Prop) (Q : Exit -> j6 -> j8 -> Prop) (e : Exit) (s : j6) (h : j8) : Prop where
 out : j2Z next Q e s h
structure BIn (id : Nat) (Q : Exit -> j6 -> j8 -> Prop) (e : Exit) (s : j6) (h : j8) : Prop where
 out : AIn id Q e s h
theorem j5U {next : j6 -> j8 -> Prop} (hq : next s h) : BThen next Q .normal s h := ⟨hq⟩
theorem nIn {id : Nat} (hq : Q .normal s h) : BIn id Q .normal s h := ⟨hq⟩
theorem j6S {next : j6 -> j8 -> Prop} (hq : Q .ret s h) : BThen next Q .ret s h := ⟨hq⟩
theorem rIn {id : Nat} (hq : Q .ret s h) : BIn id Q .ret s h := ⟨hq⟩
theorem j6U {next : j6 -> j8 -> Prop} {i : Nat} (hq : Q (.exit i) s h) : BThen next Q (.exit i) s h := ⟨hq⟩
theorem eIn {id : Nat} (hq : Q .normal s h) : BIn id Q (.exit id) s h := ⟨by unfold AIn; simpa using hq⟩
theorem j6m {id i : Nat} (hne : Nat.beq i id = false) (hq : Q (.exit i) s h) : BIn id Q (.exit i) s h := ⟨by show (bif Nat.beq i id then Q .normal s h else Q (.exit i) s h); rw [hne]; exact hq⟩
theorem j6s {x y : Code} (hx : W P n x (BThen (fun s h => W P n y Q s h) Q) s h) : W P n (.seq x y) Q s h := ⟨j5F (hx.out.mono fun e s h q => by have q := q.out; cases e <;> first | exact q.out | exact q)⟩
theorem j4N {id : Nat} {l : List Oper} (hnd : yN l = true) (hk : O P n l.toArray Q l s h) : W P n (.region id l.toArray false) Q s h := ⟨ZP hnd hk.out⟩
theorem j5K {id : Nat} {l : List Oper} (hm : P.follows .mixedOrders = true) (hok : wy n l = true) (hk : D P n l.toArray h (fun s' => Q .normal s' h) l s) : W P n (.region id l.toArray true) Q s h := ⟨j2a hm hok hk.out⟩
theorem j6y (hq : Q .normal s h) : O P n ops Q [] s h := ⟨j1m hq⟩
theorem j6z (hq : K s) : D P n ops h K [] s := ⟨j5E hq⟩
theorem j5M (hq : Q .normal s h) : W P n .skip Q s h := ⟨j2l hq⟩
theorem j23 (hq : Q .ret s h) : W P n .ret Q s h := ⟨j4J hq⟩
theorem j2L {id : Nat} (hq : Q (.exit id) s h) : W P n (.exit id) Q s h := ⟨j2k hq⟩
theorem j6M {id : Nat} {c : Code} (hc : W P n c (BIn id Q) s h) : W P n (.block id c) Q s h := ⟨j0k (hc.out.mono fun e s h q => q.out)⟩
theorem j1k {c : Operand} {x y : Code} {b : Bool} (hk : cOk c = true) (hc : evA s c = .bool b) (hx : b = true -> W P n x Q s h) (hy : b = false -> W P n y Q s h) : W P n (.cond c x y) Q s h := ⟨j3q hk hc (fun e => (hx e).out) fun e => (hy e).out⟩
theorem j5r {c : Operand} {x y : Code} (hk : cOk c = true) (hc : evA s c = .bool true) (hx : W P n x Q s h) : W P n (.cond c x y) Q s h := j1k hk hc (fun _ => hx) fun e => by cases e
theorem j6F {c : Operand} {x y : Code} (hk : cOk c = true) (hc : evA s c = .bool false) (hy : W P n y Q s h) : W P n (.cond c x y) Q s h := j1k hk hc (fun e => by cases e) fun _ => hy
theorem wle {c : Code} {s' : j6} {h' : j8} (hs : LeS s s') (hh : LeH h h') (hc : W P n c Q s' h') : W P n c Q s h := ⟨j5j hs hh hc.out⟩
theorem va {c : Code} {s' : j6} {h' : j8} (ht : Turns n s h s' h') (hc : W P n c Q s' h') : W P n c Q s h := ⟨j3Z ht hc.out⟩
theorem Qe {c : Code} (t : Nat) {k : IntKind} {m : Int} (hg : get s t = .int k m) (hk : jS k m -> W P n c Q s h) : W P n c Q s h := ⟨j0r t hg fun e => (hk e).out⟩
theorem ole {s' : j6} {h' : j8} (hs : LeS s s') (hh : LeH h h') (hk : O P n ops Q rest s' h') : O P n ops Q rest s h := ⟨j45 hs hh hk.out⟩
theorem jh {s' : j6} {h' : j8} (ht : Turns n s h s' h') (hk : O P n ops Q rest s' h') : O P n ops Q rest s h := ⟨j1L ht hk.out⟩
theorem j6x {j : Nat} {want : Bool} (hg : o.guard = some (j, want)) {d : Nat} (hd : jz ops j = some d) (hn : Nat.blt d n.n = true) {b : Bool} (hb : get s d = .bool b) (ho : qj n o.dst = true)
  (h1 : b = want -> O P n ops Q (unG o :: rest) ((d, .bool want) :: s) h) (h2 : b = !want -> O P n ops Q rest (jX ((d, .bool (!want)) :: s) o.dst (.tup [])) h) : O P n ops Q (o :: rest) s h := ⟨j0e hg hd hn hb ho (fun e => (h1 e).out) fun e => (h2 e).out⟩
theorem j6v {j : Nat} {want : Bool} (hg : o.guard = some (j, want)) {d : Nat} (hd : jz ops j = some d) {b : Bool} (hb : get s d = .bool b)
  (h1 : b = want -> D P n ops h K (unG o :: rest) ((d, .bool want) :: s)) (h2 : b = !want -> D P n ops h K rest (jX ((d, .bool (!want)) :: s) o.dst (.tup []))) : D P n ops h K (o :: rest) s := ⟨j2b hg hd hb (fun e => (h1 e).out) fun e => (h2 e).out⟩
theorem j6V {j : Nat} {want : Bool} (hg : o.guard = some (j, want)) {d : Nat} (hd : jz ops j = some d) (hn : Nat.blt d n.n = true) (hb : get s d = .tup []) (ho : qj n o.dst = true) (h2 : O P n ops Q rest (jX s o.dst (.tup [])) h) : O P n ops Q (o :: rest) s h := ⟨j0n hg hd hn hb ho h2.out⟩
theorem j6a {j : Nat} {want : Bool} (hg : o.guard = some (j, want)) {d : Nat} (hd : jz ops j = some d) (hb : get s d = .tup []) (h2 : D P n ops h K rest (jX s o.dst (.tup []))) : D P n ops h K (o :: rest) s := ⟨j2s hg hd hb h2.out⟩
theorem jk {α : Type} {c : Code} (st : α -> j6 × j8) (inv : α -> Prop) (μ : α -> Nat) (x0 : α) (h0 : inv x0) (hs : LeS s (st x0).1) (hh : LeH h (st x0).2)
  (round : ∀ x, inv x -> W P n c (BThen (fun s' h' => ∃ x', inv x' ∧ μ x' < μ x ∧ LeS s' (st x').1 ∧ LeH h' (st x').2) Q) (st x).1 (st x).2) : W P n (.loop c) Q s h := ⟨j3A st inv μ x0 h0 hs hh fun x hx => (round x hx).out.mono fun e s h q => q.out⟩
theorem Turns.refl (s : j6) (h : j8) : Turns n s h s h := fun E σ ι a w hr ht => ⟨σ, ι, hr, ht⟩
theorem Turns.le {s' : j6} {h' : j8} (hs : LeS s s') (hh : LeH h h') : Turns n s h s' h' := fun E σ ι a w hr ht => ⟨σ, ι, hr.le hh, ht.le hs⟩
theorem Turns.trans {s' s'' : j6} {h' h'' : j8} (h1 : Turns n s h s' h') (h2 : Turns n s' h' s'' h'') : Turns n s h s'' h'' := fun E σ ι a w hr ht =>
 let ⟨σ1, ι1, hr1, ht1⟩ := h1 E σ ι a w hr ht; h2 E σ1 ι1 a w hr1 ht1
theorem jK {rs : List ResultVar} {Qf : AV -> j8 -> Prop} {v : AV} (hr : zZ P s h rs = some v) (hq : Qf v h) : JC P rs Qf .ret s h := ⟨v, s, h, fun _ => Turns.refl s h, hr, hq⟩
theorem vb {rs : List ResultVar} {Qf : AV -> j8 -> Prop} {v : AV} (hr : zZ P s h rs = some v) (hq : Qf v h) : JC P rs Qf .normal s h := ⟨v, s, h, fun _ => Turns.refl s h, hr, hq⟩
theorem JU {rs : List ResultVar} {Qf : AV -> j8 -> Prop} {v : AV} {h' : j8} (hr : zZ P s h' rs = some v) (hh : LeH h h') (hq : Qf v h') : JC P rs Qf .ret s h := ⟨v, s, h', fun _ => Turns.le (LeS.refl s) hh, hr, hq⟩
theorem ww {rs : List ResultVar} {Qf : AV -> j8 -> Prop} {s' : j6} {h' : j8} (ht : ∀ n, Turns n s h s' h') (hk : JC P rs Qf .ret s' h') : JC P rs Qf .ret s h :=
 let ⟨v, s2, h2, h3, h4, h5⟩ := hk; ⟨v, s2, h2, fun n => (ht n).trans (h3 n), h4, h5⟩
theorem fnb {f : FuncId} {fn : Func} {c : Code} {args : List AV} {r : AV} (hf : P.funcs[f]? = some fn) (he : qw P f) (hb : fn.body = some c) (hl : Nat.ble args.length fn.ntmps = true) (hp : w9 r = true)
  (hwp : W P { n := fn.ntmps } c (JC P fn.results.toList (fun v _ => v = r)) (vc args 0) []) : Fn P f args r := Za hf he hb hl hp hwp.out
theorem ya {v : AV} (x : Y P o s h v := by first | (show Y _ ⟨_, .indexAddr _ _ _, _, _, _, _⟩ _ _ _; first | exact q_i rfl rfl rfl rfl rfl (by omega) | exact j5k rfl rfl rfl rfl rfl (by omega) (by omega) | exact j6C rfl rfl rfl rfl rfl rfl (by omega) | exact j2v rfl rfl rfl rfl rfl rfl (by omega) (by omega)) | (show Y _ ⟨_, .slice _ _ _ _ none, _, _, _, _⟩ _ _ _; first | exact QG rfl rfl rfl rfl rfl (Exists.intro _ rfl) (by omega) (by omega) | exact QG rfl rfl rfl rfl rfl rfl (by omega) (by omega) | exact QG rfl rfl rfl rfl (Exists.intro _ rfl) (Exists.intro _ rfl) (by omega) (by omega) | exact QG rfl rfl rfl rfl (Exists.intro _ rfl) rfl (by omega) (by omega)) | (show Y _ ⟨_, .call ⟨.builtin .len, _, _⟩, _, _, _, _⟩ _ _ _; first | exact q_l rfl rfl rfl | exact j67 rfl rfl rfl rfl | exact q_n rfl rfl rfl) | (refine q_s rfl ?_ <;> (first | trivial | exact Nat.le_of_ble_eq_true rfl | (simp only [jS]; omega) | omega)) | (refine q_p rfl rfl rfl rfl ?_ ?_ <;> (first | trivial | exact Nat.le_of_ble_eq_true rfl | (simp only [jS]; omega) | omega)) | exact q_u rfl rfl | exact q_b rfl rfl rfl rfl | exact q_g rfl rfl rfl rfl rfl rfl rfl rfl rfl) : Y P o s h v := x
theorem yab {v : AV} (x : Y P o s h v := by first | (show Y _ ⟨_, .indexAddr _ _ _, _, _, _, _⟩ _ _ _; first | exact q_i rfl rfl rfl rfl rfl (by omega) | exact j5k rfl rfl rfl rfl rfl (by omega) (by omega) | exact j6C rfl rfl rfl rfl rfl rfl (by omega) | exact j2v rfl rfl rfl rfl rfl rfl (by omega) (by omega)) | (show Y _ ⟨_, .slice _ _ _ _ none, _, _, _, _⟩ _ _ _; first | exact QG rfl rfl rfl rfl rfl (Exists.intro _ rfl) (by omega) (by omega) | exact QG rfl rfl rfl rfl rfl rfl (by omega) (by omega) | exact QG rfl rfl rfl rfl (Exists.intro _ rfl) (Exists.intro _ rfl) (by omega) (by omega) | exact QG rfl rfl rfl rfl (Exists.intro _ rfl) rfl (by omega) (by omega)) | (show Y _ ⟨_, .call ⟨.builtin .len, _, _⟩, _, _, _, _⟩ _ _ _; first | exact q_l rfl rfl rfl | exact j67 rfl rfl rfl rfl | exact q_n rfl rfl rfl) | (refine q_s rfl ?_ <;> (first | trivial | exact Nat.le_of_ble_eq_true rfl | (simp only [jS]; omega) | omega)) | (refine q_p rfl rfl rfl rfl ?_ ?_ <;> (first | trivial | exact Nat.le_of_ble_eq_true rfl | (simp only [jS]; omega) | omega)) | exact q_u rfl rfl | exact q_g rfl rfl rfl rfl rfl rfl rfl rfl rfl) : Y P o s h v := x
theorem yag {v : AV} (x : Y P o s h v := by first | (show Y _ ⟨_, .indexAddr _ _ _, _, _, _, _⟩ _ _ _; first | exact q_i rfl rfl rfl rfl rfl (by omega) | exact j5k rfl rfl rfl rfl rfl (by omega) (by omega) | exact j6C rfl rfl rfl rfl rfl rfl (by omega) | exact j2v rfl rfl rfl rfl rfl rfl (by omega) (by omega)) | (show Y _ ⟨_, .slice _ _ _ _ none, _, _, _, _⟩ _ _ _; first | exact QG rfl rfl rfl rfl rfl (Exists.intro _ rfl) (by omega) (by omega) | exact QG rfl rfl rfl rfl rfl rfl (by omega) (by omega) | exact QG rfl rfl rfl rfl (Exists.intro _ rfl) (Exists.intro _ rfl) (by omega) (by omega) | exact QG rfl rfl rfl rfl (Exists.intro _ rfl) rfl (by omega) (by omega)) | (show Y _ ⟨_, .call ⟨.builtin .len, _, _⟩, _, _, _, _⟩ _ _ _; first | exact q_l rfl rfl rfl | exact j67 rfl rfl rfl rfl | exact q_n rfl rfl rfl) | (refine q_s rfl ?_ <;> (first | trivial | exact Nat.le_of_ble_eq_true rfl | (simp only [jS]; omega) | omega)) | (refine q_p rfl rfl rfl rfl ?_ ?_ <;> (first | trivial | exact Nat.le_of_ble_eq_true rfl | (simp only [jS]; omega) | omega)) | exact q_u rfl rfl | exact q_b rfl rfl rfl rfl) : Y P o s h v := x
theorem yp {v : AV} (x : Y P o s h v := by refine q_p rfl rfl rfl rfl ?_ ?_ <;> (first | trivial | exact Nat.le_of_ble_eq_true rfl | (simp only [jS]; omega) | omega)) : Y P o s h v := x
theorem les {s s' : j6} (x : LeS s s' := by repeat' (first | exact LeS.nil _ | refine LeS.cons ?_ ?_ | exact LeV.of_eq rfl | exact LeV.nils _ | exact LeV.of_eq (congrArg (AV.int _) (by first | omega | (dsimp only; omega) | (simp only [List.length_append, List.length_cons, List.length_nil, List.length_take, List.length_drop, List.length_replicate, List.length_set] <;> omega))) | exact LeV.undef _)) : LeS s s' := x
theorem leh {h h' : j8} (x : LeH h h' := by repeat' (first | exact LeH.nil _ | refine LeH.cons ?_ ?_ | rfl)) : LeH h h' := x
end
section
/-! The same under short names. -/
abbrev kA := @j6s
abbrev kB := @j4N
abbrev kC := @j5r
abbrev kD := @j6F
abbrev kE := @j6M
abbrev kF := @j5M
abbrev kG := @j2L
abbrev kH := @j23
abbrev kI := @j5K
abbrev kJ := @j6p
abbrev kK := @j6y
abbrev kL := @j6z
abbrev kM := @j72
abbrev kN := @j73
abbrev kO := @j6V
abbrev kP := @j6a
abbrev kQ := @j1k
abbrev kR := @j6x
abbrev kS := @j6v
abbrev kT := @j5U
abbrev kU := @nIn
abbrev kV := @j6U
abbrev kW := @eIn
abbrev kX := @j6m
abbrev kY := @j6S
abbrev kZ := @rIn
theorem sA {X G : Prop} (hk : X) (x : X -> G := by first | exact kA | exact kB rfl | exact kK | exact kE | exact kT | exact kC rfl rfl | exact kD rfl rfl | exact kF | exact kG | exact kH | exact kI (by kernel_rfl) (by kernel_rfl) | (show _ -> O _ _ _ _ (⟨_, .store _ _ _, _, _, _, _⟩ :: _) _ _; exact kJ rfl rfl rfl rfl rfl rfl rfl rfl rfl rfl rfl) | exact kL | exact kU | exact kV | exact kW | exact kX rfl | exact kY | exact kZ) : G := x hk
theorem sB {X G : Prop} (hk : X) (x : X -> G := by first | exact kA | exact kB rfl | exact kK | exact kE | exact kT | exact kC rfl rfl | exact kD rfl rfl | exact kF | exact kG | exact kH | (show _ -> O _ _ _ _ (⟨_, .store _ _ _, _, _, _, _⟩ :: _) _ _; exact kJ rfl rfl rfl rfl rfl rfl rfl rfl rfl rfl rfl) | exact kL | exact kU | exact kV | exact kW | exact kX rfl | exact kY | exact kZ) : G := x hk
theorem sG {X G : Prop} (hk : X) (x : X -> G := by first | exact kO rfl rfl rfl rfl rfl | exact kP rfl rfl rfl) : G := x hk
theorem sL : (∀ (α : Type) (a b : α), (bif true then a else b) = a) ∧ (∀ (α : Type) (a b : α), (bif false then a else b) = b) ∧ (∀ (α : Type) [BEq α] [LawfulBEq α] (a b : α), ((a == b) = true) = (a = b)) ∧ (∀ (α : Type) [BEq α] [LawfulBEq α] (a b : α), ((a != b) = true) = (a ≠ b)) ∧ (∀ (α : Type) (a b : α), (a ≠ b) = ¬ (a = b)) :=
 ⟨fun _ _ _ => rfl, fun _ _ _ => rfl, fun _ _ _ a b => propext beq_iff_eq, fun _ _ _ a b => propext bne_iff_ne, fun _ _ _ => rfl⟩
theorem sY {X G : Prop} (hk : X) (x : X -> G := by first | (show _ -> Go.Proofs.YtfjoaeghnfkdlaaGreatDoor.O _ _ _ _ _ _ _; exact kM rfl rfl rfl ya) | (show _ -> Go.Proofs.YtfjoaeghnfkdlaaGreatDoor.D _ _ _ _ _ _ _; exact kN rfl rfl rfl ya)) : G := x hk
theorem sC {P : Program} {f : FuncId} {args : List AV} {r : AV} {X G : Prop} (hf : Fn P f args r) (hk : X) (x : Fn P f args r -> X -> G := by intro hf hk; first | (show Go.Proofs.YtfjoaeghnfkdlaaGreatDoor.O _ _ _ _ _ _ _; exact kM rfl rfl rfl (q_c hf rfl) hk) | (show Go.Proofs.YtfjoaeghnfkdlaaGreatDoor.D _ _ _ _ _ _ _; exact kN rfl rfl rfl (q_c hf rfl) hk)) : G := x hf hk
theorem sT {X G : Prop} (hk : X) (x : X -> G := by first | exact fun hk => sA hk | exact fun hk => sY hk | exact fun hk => sG hk) : G := x hk
theorem sU {X G : Prop} (hk : X) (x : X -> G := by first | exact fun hk => sB hk | exact fun hk => sY hk | exact fun hk => sG hk) : G := x hk
theorem sQ {Z X G : Prop} (hy : Z) (hk : X) (x : Z -> X -> G := by
 intro z x
 first | refine kQ rfl rfl ?_ ?_ | refine kR rfl rfl rfl rfl rfl ?_ ?_ | refine kS rfl rfl rfl ?_ ?_
 ·clear x; intro hc
  first
  | exact (fun (_ : True) => by clear z; first | (simp only [KL, sL, reduceCtorEq] at hc; done) | ((try simp only [KL, sL, reduceCtorEq] at hc); exfalso; omega)) z
  | ((try simp only [KL, sL, reduceCtorEq] at hc); first | (have hT : True := hc; clear hT hc; exact z) | (revert hc; exact z) | exact z)
 ·clear z; intro hc
  first
  | exact (fun (_ : True) => by clear x; first | (simp only [KL, sL, reduceCtorEq] at hc; done) | ((try simp only [KL, sL, reduceCtorEq] at hc); exfalso; omega)) x
  | ((try simp only [KL, sL, reduceCtorEq] at hc); first | (have hT : True := hc; clear hT hc; exact x) | (revert hc; exact x) | exact x)) : G := x hy hk
end
end Go.Proofs.YtfjoaeghnfkdlaaGreatDoor
