/- The laws of operations in the forms that a walk takes. Printed by gentac.py. No condition. -/
import Derived.Test.YtfjoaeghnfkdlaaAvBuild
namespace Go.Proofs.Ytfjoaeghnfkdlaa
set_option linter.unusedSimpArgs false
set_option linter.unusedVariables false
set_option maxRecDepth 100000
set_option linter.unusedVariables false
set_option linter.unusedSimpArgs false
open Go.RowKit
section
variable {P : Program} {n : Md} {Q : Exit → Slots → Heap → Prop} {s : Slots} {h : Heap} {ops : Array Oper} {rest : List Oper} {o : Oper} {K : Slots → Prop}
/-- The goals of a walk, each behind a name that nothing opens. -/
structure W (P : Program) (n : Md) (c : Code) (Q : Exit → Slots → Heap → Prop) (s : Slots) (h : Heap) : Prop where
  out : AWp P n c Q s h
structure Y (P : Program) (o : Oper) (s : Slots) (h : Heap) (v : AV) : Prop where
  out : OkO P o s h v
structure O (P : Program) (n : Md) (ops : Array Oper) (Q : Exit → Slots → Heap → Prop) (rest : List Oper) (s : Slots) (h : Heap) : Prop where
  out : AOps P n ops Q rest s h
structure D (P : Program) (n : Md) (ops : Array Oper) (h : Heap) (K : Slots → Prop) (rest : List Oper) (s : Slots) : Prop where
  out : ADr P n ops h K rest s
theorem q_s {side : Prop} {v : AV} (hs : stepO P s h o = some (side, v)) (hside : side) : Y P o s h v := ⟨stepO_sound hs hside⟩
theorem q_l {α : Type} {sz : Nat} {l : List α} {f : α → List AV} {t e : TypeId} {x : Operand} (ho : o.op = .call { callee := .builtin .len, args := #[x], argTypes := #[t] }) (hx : evA s x = .lst sz (l.map f)) (ht : sliceE P t = some e) : Y P o s h (.int .i64 l.length) := ⟨ok_len ho ht hx⟩
theorem q_n {t e : TypeId} {x : Operand} (ho : o.op = .call { callee := .builtin .len, args := #[x], argTypes := #[t] }) (hx : evA s x = .nils) (ht : sliceE P t = some e) : Y P o s h (.int .i64 0) := ⟨ok_len_nils ho ht hx⟩
theorem q_lo {α : Type} {sz id : Nat} {l : List α} {f : α → List AV} {t e e' : TypeId} {x : Operand} (ho : o.op = .call { callee := .builtin .len, args := #[x], argTypes := #[t] }) (hx : evA s x = .own id) (hg : hget h id = some (.row e' sz (l.map f))) (ht : sliceE P t = some e) : Y P o s h (.int .i64 l.length) := ⟨ok_len_own ho ht hx hg⟩
theorem q_i {α : Type} [Inhabited α] {sz : Nat} {l : List α} {f : α → List AV} {t e : TypeId} {x y : Operand} {ik : IntKind} {i : Nat} (ho : o.op = .indexAddr t x y) (hx : evA s x = .lst sz (l.map f)) (hy : evA s y = .int ik i) (ht : sliceE P t = some e) (hz : sizeQ P e sz = true) (hi : i < l.length) : Y P o s h (.ref (f (l.getD i default))) := ⟨ok_index ho ht hz hx hy hi⟩
theorem q_iz {α : Type} [Inhabited α] {sz : Nat} {l : List α} {f : α → List AV} {t e : TypeId} {x y : Operand} {ik : IntKind} {i : Int} (ho : o.op = .indexAddr t x y) (hx : evA s x = .lst sz (l.map f)) (hy : evA s y = .int ik i) (ht : sliceE P t = some e) (hz : sizeQ P e sz = true) (h0 : 0 ≤ i) (hi : i < l.length) : Y P o s h (.ref (f (l.getD i.toNat default))) := ⟨ok_indexZ ho ht hz hx hy h0 hi⟩
theorem q_io {α : Type} {sz id : Nat} {l : List α} {f : α → List AV} {t e e' : TypeId} {x y : Operand} {ik : IntKind} {i : Nat} (ho : o.op = .indexAddr t x y) (hx : evA s x = .own id) (hg : hget h id = some (.row e' sz (l.map f))) (hy : evA s y = .int ik i) (ht : sliceE P t = some e) (hz : sizeQ P e sz = true) (hi : i < l.length) : Y P o s h (.eptr id sz i 0) := ⟨ok_index_own ho ht hz hx hg hy hi⟩
theorem q_ioz {α : Type} {sz id : Nat} {l : List α} {f : α → List AV} {t e e' : TypeId} {x y : Operand} {ik : IntKind} {i : Int} (ho : o.op = .indexAddr t x y) (hx : evA s x = .own id) (hg : hget h id = some (.row e' sz (l.map f))) (hy : evA s y = .int ik i) (ht : sliceE P t = some e) (hz : sizeQ P e sz = true) (h0 : 0 ≤ i) (hi : i < l.length) : Y P o s h (.eptr id sz i.toNat 0) := ⟨ok_index_ownZ ho ht hz hx hg hy h0 hi⟩
theorem q_p {α : Type} [Inhabited α] {sz id i j : Nat} {l : List α} {f : α → List AV} {t e' : TypeId} {x : Operand} {side : Prop} {v : AV} (ho : o.op = .load t x) (hx : evA s x = .eptr id sz i j) (hg : hget h id = some (.row e' sz (l.map f))) (hc : cellsA P t ((f (l.getD i default)).drop j) = some (side, v)) (hi : i < l.length) (hside : side) : Y P o s h v := ⟨ok_load_own ho hx hg hi hc hside⟩
theorem q_sl {α : Type} {l : List α} {f : α → List AV} {t e : TypeId} {x : Operand} {lo hi : Option Operand} {sz a b : Nat} (ho : o.op = .slice t x lo hi none) (hx : evA s x = .lst sz (l.map f)) (ht : sliceE P t = some e) (hz : sizeQ P e sz = true) (hlo : boundQ s lo 0 a) (hhi : boundQ s hi l.length b) (hab : a ≤ b) (hb : b ≤ l.length) : Y P o s h (.lst sz (((l.take b).drop a).map f)) := ⟨ok_slice ho ht hz hx hlo hhi hab hb⟩
theorem q_b {t : TypeId} {x : Operand} {v : AV} (ho : o.op = .box t x) (hv : evA s x = v) (hq : celQ v = true) (hp : pureL (celA v) = true) : Y P o s h (.ref (celA v)) := ⟨ok_box ho hv hq hp⟩
theorem q_g {t e : TypeId} {len : Nat} {parts : Array (Nat × Operand)} {xs : List (List AV)} {z0 : List AV} (ho : o.op = .buildSlice t len parts) (ht : sliceE P t = some e) (h0 : zeroA P e = some z0) (hz : sizeQ P e z0.length = true) (hp : partsA s parts.toList 0 = some xs) (hsz : Nat.blt 0 z0.length = true) (hb : Nat.ble (len * z0.length) 16777216 = true) (hl : Nat.beq parts.toList.length len = true) (hs : szOk z0.length xs = true) : Y P o s h (.lst z0.length xs) := ⟨ok_buildSlice ho ht hz h0 (by simpa [Nat.blt_eq] using hsz) (Nat.ble_eq ▸ hb) hp (Nat.eq_of_beq_eq_true hl) hs⟩
theorem q_c {f : FuncId} {args : List AV} {r : AV} (hf : Fn P f args r) (hc : callA s o = some (f, args)) : Y P o s h r := ⟨ok_call hf hc⟩
theorem q_w {v : AV} (hs : stepW s o = some v) : Y P o s h v := ⟨ok_wrap hs⟩
theorem q_u {t : TypeId} {parts : Array (Nat × Operand)} {cs : List AV} (ho : o.op = .build t parts) (hb : buildA P s t parts.toList = some cs) : Y P o s h (.agg cs) := ⟨ok_build ho hb⟩
theorem ao_k {v : AV} (hgd : o.guard = none) (hco : constsOk o = true) (hdo : dstOk n o.dst = true) (hv : Y P o s h v) (hk : O P n ops Q rest (putS s o.dst v) h) : O P n ops Q (o :: rest) s h := ⟨aops_one hgd (a1_calm hco hdo hv.out hk.out)⟩
theorem ad_k {v : AV} (hgd : o.guard = none) (h1 : true = true) (h2 : true = true) (hv : Y P o s h v) (hk : D P n ops h K rest (putS s o.dst v)) : D P n ops h K (o :: rest) s := ⟨adr_one hgd (d1_calm hv.out hk.out)⟩
/-- The same without its guard. -/
def unG (o : Oper) : Oper := { o with guard := none }
theorem aops_grdU {j : Nat} {want : Bool} (hg : o.guard = some (j, want)) {d : Nat} (hd : dstAt ops j = some d) (hn : Nat.blt d n.n = true) {b : Bool} (hb : get s d = .bool b) (ho : dstOk n o.dst = true)
    (h1 : b = want → AOps P n ops Q (unG o :: rest) ((d, .bool want) :: s) h) (h2 : b = !want → AOps P n ops Q rest (putS ((d, .bool (!want)) :: s) o.dst (.tup [])) h) : AOps P n ops Q (o :: rest) s h := fun E σ ι a w hr ht => by
  have hv := ht.at_ d
  rw [hb] at hv
  have hput : ∀ b', b = b' → TR n σ ι ((d, .bool b') :: s) a := fun b' e => ⟨ht.size, ht.defers, fun t => by
    rw [get_cons]
    split
    · rename_i e'; subst e'; subst e; exact hv
    · exact ht.at_ t⟩
  have hwant := wanted_of hg hd (by rw [ht.size]; simpa using hn) hv
  by_cases hw : b = want
  · have h3 := h1 hw E σ ι a w hr (hput _ hw)
    intro hnd
    have h4 := h3 (show noDefer (unG o :: rest) = true from hnd)
    unfold wpListIn at h4 ⊢
    rw [if_pos (by simp [Region.wanted, unG])] at h4
    rw [if_pos (hwant.trans (by simpa using hw))]
    exact h4
  · have hw2 : b = !want := by cases b <;> cases want <;> simp_all
    exact wpL_not (hwant.trans (by simpa using hw)) (h2 hw2 E σ ι _ w hr ((hput _ hw2).putS ho VR.tup0))
theorem adr_grdU {j : Nat} {want : Bool} (hg : o.guard = some (j, want)) {d : Nat} (hd : dstAt ops j = some d) {b : Bool} (hb : get s d = .bool b)
    (h1 : b = want → ADr P n ops h K (unG o :: rest) ((d, .bool want) :: s)) (h2 : b = !want → ADr P n ops h K rest (putS ((d, .bool (!want)) :: s) o.dst (.tup []))) : ADr P n ops h K (o :: rest) s :=
  adr_grd hg hd hb (fun e => by have h3 := h1 e; unfold ADr at h3; exact h3) h2
theorem ao_alloc {t : TypeId} {id : Nat} (ho : o.op = .alloc t) {cs : List AV} (hz : zeroA P t = some cs) (hf : freshAll id s h = true) (hi : hasIdL id cs = false) (hgd : o.guard = none) (hco : constsOk o = true) (hdo : dstOk n o.dst = true) (hk : O P n ops Q rest (putS s o.dst (.ptr id 0)) ((id, .blk t cs) :: h)) : O P n ops Q (o :: rest) s h := ⟨aops_one hgd (a1_alloc ho id hz hdo hf hi hk.out)⟩
theorem ao_box {t : TypeId} {x : Operand} {id : Nat} (ho : o.op = .box t x) {v : AV} (hv : evA s x = v) (hq : celQ v = true) (hf : freshAll id s h = true) (hi : hasIdL id (celA v) = false) (hgd : o.guard = none) (hco : constsOk o = true) (hdo : dstOk n o.dst = true) (hk : O P n ops Q rest (putS s o.dst (.ptr id 0)) ((id, .blk t (celA v)) :: h)) : O P n ops Q (o :: rest) s h := ⟨aops_one hgd (a1_box ho id hv hq hco hdo hf hi hk.out)⟩
theorem ao_st {t : TypeId} {x y : Operand} {id off : Nat} {ty : TypeId} {cs : List AV} {v : AV} (ho : o.op = .store t x y) (hx : evA s x = .ptr id off) (hg : hget h id = some (.blk ty cs)) (hv : evA s y = v) (hq : celQ v = true) (hz : sizeQ P t (celA v).length = true) (hl : Nat.ble (off + (celA v).length) cs.length = true) (hd : o.dst = none) (hgd : o.guard = none) (hco : constsOk o = true) (hdo : dstOk n o.dst = true) (hk : O P n ops Q rest s ((id, .blk ty (spl cs off (celA v))) :: h)) : O P n ops Q (o :: rest) s h := ⟨aops_one hgd (a1_store ho hx hg hv hq hz (Nat.ble_eq ▸ hl) hco hd hk.out)⟩
theorem ao_ap {α : Type} {id sz : Nat} {l : List α} {f : α → List AV} {t e : TypeId} {x y : Operand} {z0 : List AV} {yl : List (List AV)} {ys : List α} {by_ : Nat} (ho : o.op = .call { callee := .builtin .append, args := #[x, y], argTypes := #[t, t] }) (hx : evA s x = .own id) (hg : hget h id = some (.row e sz (l.map f))) (ht : sliceE P t = some e) (hz : sizeQ P e sz = true) (h0 : zeroA P e = some z0) (hz0 : Nat.beq z0.length sz = true) (hby : bytesQ P e by_ = true) (hy : evA s y = .lst sz yl) (hyl : yl = ys.map f) (hq : ∀ y ∈ ys, (f y).all oneQ = true) (hlen : (l.length + ys.length) * by_ ≤ 140737488355328) (hlen2 : l.length + ys.length ≤ 9223372036854775807) (h5 : Nat.ble 5 id = true) (hlo : loneH id h = true) (hgd : o.guard = none) (hco : constsOk o = true) (hdo : dstOk n o.dst = true) (hk : O P n ops Q rest (putS (killS id s) o.dst (.own id)) ((id, .row e sz ((l ++ ys).map f)) :: h)) : O P n ops Q (o :: rest) s h := ⟨aops_one hgd (a1_append ho ht hz h0 (Nat.eq_of_beq_eq_true hz0) hby hx hg hy hyl hq hlen hlen2 hco hdo h5 hlo hk.out)⟩
theorem ao_mk {α : Type} {t e : TypeId} {x y : Operand} {sz m : Nat} {k k' : IntKind} {z0 : List AV} {id : Nat} {f : α → List AV} {d : α} {by_ : Nat} (ho : o.op = .makeSlice t x y) (ht : sliceE P t = some e) (h0 : zeroA P e = some z0) (hz : sizeQ P e sz = true) (hz0 : z0 = f d) (hzl : Nat.beq z0.length sz = true) (hsz : Nat.blt 0 sz = true) (hby : bytesQ P e by_ = true) (hx : evA s x = .int k m) (hy : evA s y = .int k' m) (hb : m * by_ ≤ 140737488355328) (hm : m ≤ 9223372036854775807) (hf : freshAll id s h = true) (hgd : o.guard = none) (hco : constsOk o = true) (hdo : dstOk n o.dst = true) (hk : O P n ops Q rest (putS s o.dst (.own id)) ((id, .row e sz ((List.replicate m d).map f)) :: h)) : O P n ops Q (o :: rest) s h := ⟨aops_one hgd (a1_make ho id ht hz h0 hz0 (Nat.eq_of_beq_eq_true hzl) (by simpa [Nat.blt_eq] using hsz) hby hx hy hb hm hco hdo hf hk.out)⟩
/-- Tests, as they are known. -/
theorem KL : (∀ (p : Prop) [Decidable p], (decide p = true) = p) ∧ (∀ (p : Prop) [Decidable p], (decide p = false) = ¬ p) ∧ (∀ b : Bool, ((!b) = true) = (b = false)) ∧ (∀ b : Bool, ((!b) = false) = (b = true)) ∧ (∀ b : Bool, (¬ b = true) = (b = false)) ∧ (∀ b : Bool, (¬ b = false) = (b = true)) ∧
    (∀ b : Bool, (!!b) = b) ∧ ((!true) = false) ∧ ((!false) = true) ∧ (∀ a b : Bool, ((a && b) = true) = (a = true ∧ b = true)) ∧ (∀ a b : Bool, ((a || b) = false) = (a = false ∧ b = false)) ∧ (∀ a b : Int, (¬ a < b) = (b ≤ a)) ∧ (∀ a b : Int, (¬ a ≤ b) = (b < a)) ∧ (∀ p : Prop, (¬ ¬ p) = p) ∧ ((¬ False) = True) ∧ ((¬ True) = False) := by
  refine ⟨?_, ?_, ?_, ?_, ?_, ?_, ?_, rfl, rfl, ?_, ?_, ?_, ?_, ?_, ?_, ?_⟩
  · intro p _; simp
  · intro p _; simp
  · intro b; cases b <;> simp
  · intro b; cases b <;> simp
  · intro b; cases b <;> simp
  · intro b; cases b <;> simp
  · intro b; cases b <;> rfl
  · intro a b; cases a <;> cases b <;> simp
  · intro a b; cases a <;> cases b <;> simp
  · intro a b; simp
  · intro a b; simp
  · intro p; simp [Classical.not_not]
  · simp
  · simp
/-- The same, behind names that nothing opens. -/
structure BThen (next : Slots → Heap → Prop) (Q : Exit → Slots → Heap → Prop) (e : Exit) (s : Slots) (h : Heap) : Prop where
  out : AThen next Q e s h
structure BIn (id : Nat) (Q : Exit → Slots → Heap → Prop) (e : Exit) (s : Slots) (h : Heap) : Prop where
  out : AIn id Q e s h
theorem nThen {next : Slots → Heap → Prop} (hq : next s h) : BThen next Q .normal s h := ⟨hq⟩
theorem nIn {id : Nat} (hq : Q .normal s h) : BIn id Q .normal s h := ⟨hq⟩
theorem rThen {next : Slots → Heap → Prop} (hq : Q .ret s h) : BThen next Q .ret s h := ⟨hq⟩
theorem rIn {id : Nat} (hq : Q .ret s h) : BIn id Q .ret s h := ⟨hq⟩
theorem eThen {next : Slots → Heap → Prop} {i : Nat} (hq : Q (.exit i) s h) : BThen next Q (.exit i) s h := ⟨hq⟩
theorem eIn {id : Nat} (hq : Q .normal s h) : BIn id Q (.exit id) s h := ⟨by unfold AIn; simpa using hq⟩
theorem eInNe {id i : Nat} (hne : Nat.beq i id = false) (hq : Q (.exit i) s h) : BIn id Q (.exit i) s h := ⟨by show (bif Nat.beq i id then Q .normal s h else Q (.exit i) s h); rw [hne]; exact hq⟩
theorem wseq {x y : Code} (hx : W P n x (BThen (fun s h => W P n y Q s h) Q) s h) : W P n (.seq x y) Q s h := ⟨awp_seq (hx.out.mono fun e s h q => by have q := q.out; cases e <;> first | exact q.out | exact q)⟩
theorem wregion {id : Nat} {l : List Oper} (hnd : noDefer l = true) (hk : O P n l.toArray Q l s h) : W P n (.region id l.toArray false) Q s h := ⟨awp_region hnd hk.out⟩
theorem wdraw {id : Nat} {l : List Oper} (hm : P.follows .mixedOrders = true) (hok : drawOk n l = true) (hk : D P n l.toArray h (fun s' => Q .normal s' h) l s) : W P n (.region id l.toArray true) Q s h := ⟨awp_draw hm hok hk.out⟩
theorem onil (hq : Q .normal s h) : O P n ops Q [] s h := ⟨aops_nil hq⟩
theorem dnil (hq : K s) : D P n ops h K [] s := ⟨adr_nil hq⟩
theorem wskip (hq : Q .normal s h) : W P n .skip Q s h := ⟨awp_skip hq⟩
theorem wret (hq : Q .ret s h) : W P n .ret Q s h := ⟨awp_ret hq⟩
theorem wexit {id : Nat} (hq : Q (.exit id) s h) : W P n (.exit id) Q s h := ⟨awp_exit hq⟩
theorem wblock {id : Nat} {c : Code} (hc : W P n c (BIn id Q) s h) : W P n (.block id c) Q s h := ⟨awp_block (hc.out.mono fun e s h q => q.out)⟩
theorem wcond {c : Operand} {x y : Code} {b : Bool} (hk : cOk c = true) (hc : evA s c = .bool b) (hx : b = true → W P n x Q s h) (hy : b = false → W P n y Q s h) : W P n (.cond c x y) Q s h := ⟨awp_cond hk hc (fun e => (hx e).out) fun e => (hy e).out⟩
theorem wcondT {c : Operand} {x y : Code} (hk : cOk c = true) (hc : evA s c = .bool true) (hx : W P n x Q s h) : W P n (.cond c x y) Q s h := wcond hk hc (fun _ => hx) fun e => by cases e
theorem wcondF {c : Operand} {x y : Code} (hk : cOk c = true) (hc : evA s c = .bool false) (hy : W P n y Q s h) : W P n (.cond c x y) Q s h := wcond hk hc (fun e => by cases e) fun _ => hy
theorem wle {c : Code} {s' : Slots} {h' : Heap} (hs : LeS s s') (hh : LeH h h') (hc : W P n c Q s' h') : W P n c Q s h := ⟨awp_le hs hh hc.out⟩
theorem wturn {c : Code} {s' : Slots} {h' : Heap} (ht : Turns n s h s' h') (hc : W P n c Q s' h') : W P n c Q s h := ⟨awp_turn ht hc.out⟩
theorem wrange {c : Code} (t : Nat) {k : IntKind} {m : Int} (hg : get s t = .int k m) (hk : rangeP k m → W P n c Q s h) : W P n c Q s h := ⟨awp_range t hg fun e => (hk e).out⟩
theorem wmono {c : Code} {Q' : Exit → Slots → Heap → Prop} (hc : W P n c Q s h) (hq : ∀ e s h, Q e s h → Q' e s h) : W P n c Q' s h := ⟨hc.out.mono hq⟩
theorem ole {s' : Slots} {h' : Heap} (hs : LeS s s') (hh : LeH h h') (hk : O P n ops Q rest s' h') : O P n ops Q rest s h := ⟨aops_le hs hh hk.out⟩
theorem oturn {s' : Slots} {h' : Heap} (ht : Turns n s h s' h') (hk : O P n ops Q rest s' h') : O P n ops Q rest s h := ⟨aops_turn ht hk.out⟩
theorem orange_ (t : Nat) {k : IntKind} {m : Int} (hg : get s t = .int k m) (hk : rangeP k m → O P n ops Q rest s h) : O P n ops Q rest s h := ⟨aops_range t hg fun e => (hk e).out⟩
theorem ogrd {j : Nat} {want : Bool} (hg : o.guard = some (j, want)) {d : Nat} (hd : dstAt ops j = some d) (hn : Nat.blt d n.n = true) {b : Bool} (hb : get s d = .bool b) (ho : dstOk n o.dst = true)
    (h1 : b = want → O P n ops Q (unG o :: rest) ((d, .bool want) :: s) h) (h2 : b = !want → O P n ops Q rest (putS ((d, .bool (!want)) :: s) o.dst (.tup [])) h) : O P n ops Q (o :: rest) s h := ⟨aops_grdU hg hd hn hb ho (fun e => (h1 e).out) fun e => (h2 e).out⟩
theorem dgrd {j : Nat} {want : Bool} (hg : o.guard = some (j, want)) {d : Nat} (hd : dstAt ops j = some d) {b : Bool} (hb : get s d = .bool b)
    (h1 : b = want → D P n ops h K (unG o :: rest) ((d, .bool want) :: s)) (h2 : b = !want → D P n ops h K rest (putS ((d, .bool (!want)) :: s) o.dst (.tup []))) : D P n ops h K (o :: rest) s := ⟨adr_grdU hg hd hb (fun e => (h1 e).out) fun e => (h2 e).out⟩
theorem ogrdN {j : Nat} {want : Bool} (hg : o.guard = some (j, want)) {d : Nat} (hd : dstAt ops j = some d) (hn : Nat.blt d n.n = true) (hb : get s d = .tup []) (ho : dstOk n o.dst = true) (h2 : O P n ops Q rest (putS s o.dst (.tup [])) h) : O P n ops Q (o :: rest) s h := ⟨aops_grdN hg hd hn hb ho h2.out⟩
theorem dgrdN {j : Nat} {want : Bool} (hg : o.guard = some (j, want)) {d : Nat} (hd : dstAt ops j = some d) (hb : get s d = .tup []) (h2 : D P n ops h K rest (putS s o.dst (.tup []))) : D P n ops h K (o :: rest) s := ⟨adr_grdN hg hd hb h2.out⟩
/-- What comes up again and again is said once, and what follows is shown once. -/
theorem wmid {α : Type} {x y : Code} (st : α → Slots × Heap) (hx : W P n x (BThen (fun s' h' => ∃ a, LeS s' (st a).1 ∧ LeH h' (st a).2) Q) s h) (hy : ∀ a, W P n y Q (st a).1 (st a).2) : W P n (.seq x y) Q s h :=
  wseq ⟨hx.out.mono fun e s h q => ⟨by have q := q.out; cases e <;> first | (obtain ⟨a, h1, h2⟩ := q; exact wle h1 h2 (hy a)) | exact q⟩⟩
theorem wloop {α : Type} {c : Code} (st : α → Slots × Heap) (inv : α → Prop) (μ : α → Nat) (x0 : α) (h0 : inv x0) (hs : LeS s (st x0).1) (hh : LeH h (st x0).2)
    (round : ∀ x, inv x → W P n c (BThen (fun s' h' => ∃ x', inv x' ∧ μ x' < μ x ∧ LeS s' (st x').1 ∧ LeH h' (st x').2) Q) (st x).1 (st x).2) : W P n (.loop c) Q s h := ⟨awp_loop st inv μ x0 h0 hs hh fun x hx => (round x hx).out.mono fun e s h q => q.out⟩
theorem Turns.refl (s : Slots) (h : Heap) : Turns n s h s h := fun E σ ι a w hr ht => ⟨σ, ι, hr, ht⟩
theorem Turns.le {s' : Slots} {h' : Heap} (hs : LeS s s') (hh : LeH h h') : Turns n s h s' h' := fun E σ ι a w hr ht => ⟨σ, ι, hr.le hh, ht.le hs⟩
theorem Turns.trans {s' s'' : Slots} {h' h'' : Heap} (h1 : Turns n s h s' h') (h2 : Turns n s' h' s'' h'') : Turns n s h s'' h'' := fun E σ ι a w hr ht =>
  let ⟨σ1, ι1, hr1, ht1⟩ := h1 E σ ι a w hr ht; h2 E σ1 ι1 a w hr1 ht1
theorem retq {rs : List ResultVar} {Qf : AV → Heap → Prop} {v : AV} (hr : resA P s h rs = some v) (hq : Qf v h) : RetQ P rs Qf .ret s h := ⟨v, s, h, fun _ => Turns.refl s h, hr, hq⟩
theorem retn {rs : List ResultVar} {Qf : AV → Heap → Prop} {v : AV} (hr : resA P s h rs = some v) (hq : Qf v h) : RetQ P rs Qf .normal s h := ⟨v, s, h, fun _ => Turns.refl s h, hr, hq⟩
theorem reth {rs : List ResultVar} {Qf : AV → Heap → Prop} {v : AV} {h' : Heap} (hr : resA P s h' rs = some v) (hh : LeH h h') (hq : Qf v h') : RetQ P rs Qf .ret s h := ⟨v, s, h', fun _ => Turns.le (LeS.refl s) hh, hr, hq⟩
theorem retT {rs : List ResultVar} {Qf : AV → Heap → Prop} {s' : Slots} {h' : Heap} (ht : ∀ n, Turns n s h s' h') (hk : RetQ P rs Qf .ret s' h') : RetQ P rs Qf .ret s h :=
  let ⟨v, s2, h2, h3, h4, h5⟩ := hk; ⟨v, s2, h2, fun n => (ht n).trans (h3 n), h4, h5⟩
theorem fnb {f : FuncId} {fn : Func} {c : Code} {args : List AV} {r : AV} (hf : P.funcs[f]? = some fn) (he : Entered P f) (hb : fn.body = some c) (hl : Nat.ble args.length fn.ntmps = true) (hp : pureA r = true)
    (hwp : W P { n := fn.ntmps } c (RetQ P fn.results.toList (fun v _ => v = r)) (slots0 args 0) []) : Fn P f args r := fn_of_body hf he hb hl hp hwp.out
/-- What closes the small goals of a walk by itself: the tactics stand here once. -/
theorem ya {v : AV} (x : Y P o s h v := by first | (show Y _ ⟨_, .indexAddr _ _ _, _, _, _, _⟩ _ _ _; first | exact q_i rfl rfl rfl rfl rfl (by omega) | exact q_iz rfl rfl rfl rfl rfl (by omega) (by omega) | exact q_io rfl rfl rfl rfl rfl rfl (by omega) | exact q_ioz rfl rfl rfl rfl rfl rfl (by omega) (by omega)) | (show Y _ ⟨_, .slice _ _ _ _ none, _, _, _, _⟩ _ _ _; first | exact q_sl rfl rfl rfl rfl rfl (Exists.intro _ rfl) (by omega) (by omega) | exact q_sl rfl rfl rfl rfl rfl rfl (by omega) (by omega) | exact q_sl rfl rfl rfl rfl (Exists.intro _ rfl) (Exists.intro _ rfl) (by omega) (by omega) | exact q_sl rfl rfl rfl rfl (Exists.intro _ rfl) rfl (by omega) (by omega)) | (show Y _ ⟨_, .call ⟨.builtin .len, _, _⟩, _, _, _, _⟩ _ _ _; first | exact q_l rfl rfl rfl | exact q_lo rfl rfl rfl rfl | exact q_n rfl rfl rfl) | (refine q_s rfl ?_ <;> (first | trivial | exact Nat.le_of_ble_eq_true rfl | (simp only [rangeP]; omega) | omega)) | (refine q_p rfl rfl rfl rfl ?_ ?_ <;> (first | trivial | exact Nat.le_of_ble_eq_true rfl | (simp only [rangeP]; omega) | omega)) | exact q_u rfl rfl | exact q_b rfl rfl rfl rfl | exact q_g rfl rfl rfl rfl rfl rfl rfl rfl rfl) : Y P o s h v := x
theorem yab {v : AV} (x : Y P o s h v := by first | (show Y _ ⟨_, .indexAddr _ _ _, _, _, _, _⟩ _ _ _; first | exact q_i rfl rfl rfl rfl rfl (by omega) | exact q_iz rfl rfl rfl rfl rfl (by omega) (by omega) | exact q_io rfl rfl rfl rfl rfl rfl (by omega) | exact q_ioz rfl rfl rfl rfl rfl rfl (by omega) (by omega)) | (show Y _ ⟨_, .slice _ _ _ _ none, _, _, _, _⟩ _ _ _; first | exact q_sl rfl rfl rfl rfl rfl (Exists.intro _ rfl) (by omega) (by omega) | exact q_sl rfl rfl rfl rfl rfl rfl (by omega) (by omega) | exact q_sl rfl rfl rfl rfl (Exists.intro _ rfl) (Exists.intro _ rfl) (by omega) (by omega) | exact q_sl rfl rfl rfl rfl (Exists.intro _ rfl) rfl (by omega) (by omega)) | (show Y _ ⟨_, .call ⟨.builtin .len, _, _⟩, _, _, _, _⟩ _ _ _; first | exact q_l rfl rfl rfl | exact q_lo rfl rfl rfl rfl | exact q_n rfl rfl rfl) | (refine q_s rfl ?_ <;> (first | trivial | exact Nat.le_of_ble_eq_true rfl | (simp only [rangeP]; omega) | omega)) | (refine q_p rfl rfl rfl rfl ?_ ?_ <;> (first | trivial | exact Nat.le_of_ble_eq_true rfl | (simp only [rangeP]; omega) | omega)) | exact q_u rfl rfl | exact q_g rfl rfl rfl rfl rfl rfl rfl rfl rfl) : Y P o s h v := x
theorem yag {v : AV} (x : Y P o s h v := by first | (show Y _ ⟨_, .indexAddr _ _ _, _, _, _, _⟩ _ _ _; first | exact q_i rfl rfl rfl rfl rfl (by omega) | exact q_iz rfl rfl rfl rfl rfl (by omega) (by omega) | exact q_io rfl rfl rfl rfl rfl rfl (by omega) | exact q_ioz rfl rfl rfl rfl rfl rfl (by omega) (by omega)) | (show Y _ ⟨_, .slice _ _ _ _ none, _, _, _, _⟩ _ _ _; first | exact q_sl rfl rfl rfl rfl rfl (Exists.intro _ rfl) (by omega) (by omega) | exact q_sl rfl rfl rfl rfl rfl rfl (by omega) (by omega) | exact q_sl rfl rfl rfl rfl (Exists.intro _ rfl) (Exists.intro _ rfl) (by omega) (by omega) | exact q_sl rfl rfl rfl rfl (Exists.intro _ rfl) rfl (by omega) (by omega)) | (show Y _ ⟨_, .call ⟨.builtin .len, _, _⟩, _, _, _, _⟩ _ _ _; first | exact q_l rfl rfl rfl | exact q_lo rfl rfl rfl rfl | exact q_n rfl rfl rfl) | (refine q_s rfl ?_ <;> (first | trivial | exact Nat.le_of_ble_eq_true rfl | (simp only [rangeP]; omega) | omega)) | (refine q_p rfl rfl rfl rfl ?_ ?_ <;> (first | trivial | exact Nat.le_of_ble_eq_true rfl | (simp only [rangeP]; omega) | omega)) | exact q_u rfl rfl | exact q_b rfl rfl rfl rfl) : Y P o s h v := x
theorem yabg {v : AV} (x : Y P o s h v := by first | (show Y _ ⟨_, .indexAddr _ _ _, _, _, _, _⟩ _ _ _; first | exact q_i rfl rfl rfl rfl rfl (by omega) | exact q_iz rfl rfl rfl rfl rfl (by omega) (by omega) | exact q_io rfl rfl rfl rfl rfl rfl (by omega) | exact q_ioz rfl rfl rfl rfl rfl rfl (by omega) (by omega)) | (show Y _ ⟨_, .slice _ _ _ _ none, _, _, _, _⟩ _ _ _; first | exact q_sl rfl rfl rfl rfl rfl (Exists.intro _ rfl) (by omega) (by omega) | exact q_sl rfl rfl rfl rfl rfl rfl (by omega) (by omega) | exact q_sl rfl rfl rfl rfl (Exists.intro _ rfl) (Exists.intro _ rfl) (by omega) (by omega) | exact q_sl rfl rfl rfl rfl (Exists.intro _ rfl) rfl (by omega) (by omega)) | (show Y _ ⟨_, .call ⟨.builtin .len, _, _⟩, _, _, _, _⟩ _ _ _; first | exact q_l rfl rfl rfl | exact q_lo rfl rfl rfl rfl | exact q_n rfl rfl rfl) | (refine q_s rfl ?_ <;> (first | trivial | exact Nat.le_of_ble_eq_true rfl | (simp only [rangeP]; omega) | omega)) | (refine q_p rfl rfl rfl rfl ?_ ?_ <;> (first | trivial | exact Nat.le_of_ble_eq_true rfl | (simp only [rangeP]; omega) | omega)) | exact q_u rfl rfl) : Y P o s h v := x
theorem yp {v : AV} (x : Y P o s h v := by refine q_p rfl rfl rfl rfl ?_ ?_ <;> (first | trivial | exact Nat.le_of_ble_eq_true rfl | (simp only [rangeP]; omega) | omega)) : Y P o s h v := x
theorem les {s s' : Slots} (x : LeS s s' := by repeat' (first | exact LeS.nil _ | refine LeS.cons ?_ ?_ | exact LeV.of_eq rfl | exact LeV.nils _ | exact LeV.of_eq (congrArg (AV.int _) (by first | omega | (dsimp only; omega) | (simp only [List.length_append, List.length_cons, List.length_nil, List.length_take, List.length_drop, List.length_replicate, List.length_set] <;> omega))) | exact LeV.undef _)) : LeS s s' := x
theorem leh {h h' : Heap} (x : LeH h h' := by repeat' (first | exact LeH.nil _ | refine LeH.cons ?_ ?_ | rfl)) : LeH h h' := x
end
section
/-! The same under short names. -/
abbrev kA := @wseq
abbrev kB := @wregion
abbrev kC := @wcondT
abbrev kD := @wcondF
abbrev kE := @wblock
abbrev kF := @wskip
abbrev kG := @wexit
abbrev kH := @wret
abbrev kI := @wdraw
abbrev kJ := @ao_st
abbrev kK := @onil
abbrev kL := @dnil
abbrev kM := @ao_k
abbrev kN := @ad_k
abbrev kO := @ogrdN
abbrev kP := @dgrdN
abbrev kQ := @wcond
abbrev kR := @ogrd
abbrev kS := @dgrd
abbrev kT := @nThen
abbrev kU := @nIn
abbrev kV := @eThen
abbrev kW := @eIn
abbrev kX := @eInNe
abbrev kY := @rThen
abbrev kZ := @rIn
end
end Go.Proofs.Ytfjoaeghnfkdlaa
