/- The laws of operations in the forms that a walk takes. Printed by gentac.py. No condition. -/
import Derived.Test.YtfjoaeghnfkdlaaA5
set_option linter.unusedSimpArgs false
set_option linter.unusedVariables false
set_option maxHeartbeats 1000000
namespace Go.Proofs.Ytfjoaeghnfkdlaa
set_option maxRecDepth 100000
open Go.RowKit
section
variable {P : Program} {n : Md} {Q : Exit → Slots → Heap → Prop} {s : Slots} {h : Heap} {ops : Array Oper} {rest : List Oper} {o : Oper} {K : Slots → Prop}
structure W (P : Program) (n : Md) (c : Code) (Q : Exit → Slots → Heap → Prop) (s : Slots) (h : Heap) : Prop where
  out : AWp P n c Q s h
structure Y (P : Program) (o : Oper) (s : Slots) (h : Heap) (v : AV) : Prop where
  out : OkO P o s h v
structure O (P : Program) (n : Md) (ops : Array Oper) (Q : Exit → Slots → Heap → Prop) (rest : List Oper) (s : Slots) (h : Heap) : Prop where
  out : AOps P n ops Q rest s h
structure D (P : Program) (n : Md) (ops : Array Oper) (h : Heap) (K : Slots → Prop) (rest : List Oper) (s : Slots) : Prop where
  out : ADr P n ops h K rest s
theorem q_s {side : Prop} {v : AV} (hs : stepO P s h o = some (side, v)) (hside : side) : Y P o s h v := ⟨stepO_sound hs hside⟩
theorem q_l {α : Type} {sz : Nat} {l : List α} {f : α → List AV} {t e : TypeId} {x : Operand} (ho : o.op = .call { callee := .builtin .len, args := #[x], argTypes := #[t] }) (hx : evA s x = .lst sz (l.map f)) (ht : sliceE P t = some e) : Y P o s h (.int .i64 l.length) := ⟨ok_len ho ht hx⟩
theorem q_n {t e : TypeId} {x : Operand} (ho : o.op = .call { callee := .builtin .len, args := #[x], argTypes := #[t] }) (hx : evA s x = .nils) (ht : sliceE P t = some e) : Y P o s h (.int .i64 0) := ⟨ok_len_nils ho ht hx⟩
theorem q_lo {α : Type} {sz id : Nat} {l : List α} {f : α → List AV} {t e e' : TypeId} {x : Operand} (ho : o.op = .call { callee := .builtin .len, args := #[x], argTypes := #[t] }) (hx : evA s x = .own id) (hg : hget h id = some (.row e' sz (l.map f))) (ht : sliceE P t = some e) : Y P o s h (.int .i64 l.length) := ⟨ok_len_own ho ht hx hg⟩
theorem q_i {α : Type} [Inhabited α] {sz : Nat} {l : List α} {f : α → List AV} {t e : TypeId} {x y : Operand} {ik : IntKind} {i : Nat} (ho : o.op = .indexAddr t x y) (hx : evA s x = .lst sz (l.map f)) (hy : evA s y = .int ik i) (ht : sliceE P t = some e) (hz : sizeQ P e sz = true) (hi : i < l.length) : Y P o s h (.ref (f (l.getD i default))) := ⟨ok_index ho ht hz hx hy hi⟩
theorem q_iz {α : Type} [Inhabited α] {sz : Nat} {l : List α} {f : α → List AV} {t e : TypeId} {x y : Operand} {ik : IntKind} {i : Int} (ho : o.op = .indexAddr t x y) (hx : evA s x = .lst sz (l.map f)) (hy : evA s y = .int ik i) (ht : sliceE P t = some e) (hz : sizeQ P e sz = true) (h0 : 0 ≤ i) (hi : i < l.length) : Y P o s h (.ref (f (l.getD i.toNat default))) := ⟨ok_indexZ ho ht hz hx hy h0 hi⟩
theorem q_io {α : Type} {sz id : Nat} {l : List α} {f : α → List AV} {t e e' : TypeId} {x y : Operand} {ik : IntKind} {i : Nat} (ho : o.op = .indexAddr t x y) (hx : evA s x = .own id) (hg : hget h id = some (.row e' sz (l.map f))) (hy : evA s y = .int ik i) (ht : sliceE P t = some e) (hz : sizeQ P e sz = true) (hi : i < l.length) : Y P o s h (.eptr id sz i 0) := ⟨ok_index_own ho ht hz hx hg hy hi⟩
theorem q_ioz {α : Type} {sz id : Nat} {l : List α} {f : α → List AV} {t e e' : TypeId} {x y : Operand} {ik : IntKind} {i : Int} (ho : o.op = .indexAddr t x y) (hx : evA s x = .own id) (hg : hget h id = some (.row e' sz (l.map f))) (hy : evA s y = .int ik i) (ht : sliceE P t = some e) (hz : sizeQ P e sz = true) (h0 : 0 ≤ i) (hi : i < l.length) : Y P o s h (.eptr id sz i.toNat 0) := ⟨ok_index_ownZ ho ht hz hx hg hy h0 hi⟩
theorem q_p {α : Type} [Inhabited α] {sz id i j : Nat} {l : List α} {f : α → List AV} {t e' : TypeId} {x : Operand} {side : Prop} {v : AV} (ho : o.op = .load t x) (hx : evA s x = .eptr id sz i j) (hg : hget h id = some (.row e' sz (l.map f))) (hc : cellsA P t ((f (l.getD i default)).drop j) = some (side, v)) (hi : i < l.length) (hside : side) : Y P o s h v := ⟨ok_load_own ho hx hg hi hc hside⟩
theorem q_sl {α : Type} {l : List α} {f : α → List AV} {t e : TypeId} {x : Operand} {lo hi : Option Operand} {sz a b : Nat} (ho : o.op = .slice t x lo hi none) (hx : evA s x = .lst sz (l.map f)) (ht : sliceE P t = some e) (hz : sizeQ P e sz = true) (hlo : boundQ s lo 0 a) (hhi : boundQ s hi l.length b) (hab : a ≤ b) (hb : b ≤ l.length) : Y P o s h (.lst sz (((l.take b).drop a).map f)) := ⟨ok_slice ho ht hz hx hlo hhi hab hb⟩
theorem q_b {t : TypeId} {x : Operand} {v : AV} (ho : o.op = .box t x) (hv : evA s x = v) (hq : celQ v = true) (hp : pureL (celA v) = true) : Y P o s h (.ref (celA v)) := ⟨ok_box ho hv hq hp⟩
theorem q_g {t e : TypeId} {len : Nat} {parts : Array (Nat × Operand)} {xs : List (List AV)} {z0 : List AV} (ho : o.op = .buildSlice t len parts) (ht : sliceE P t = some e) (h0 : zeroA P e = some z0) (hz : sizeQ P e z0.length = true) (hp : partsA s parts.toList 0 = some xs) (hsz : Nat.blt 0 z0.length = true) (hb : Nat.ble (len * z0.length) 16777216 = true) (hl : Nat.beq parts.toList.length len = true) (hs : szOk z0.length xs = true) : Y P o s h (.lst z0.length xs) := ⟨ok_buildSlice ho ht hz h0 (by simpa [Nat.blt_eq] using hsz) (Nat.ble_eq ▸ hb) hp (Nat.eq_of_beq_eq_true hl) hs⟩
theorem q_c {f : FuncId} {args : List AV} {r : AV} (hf : Fn P f args r) (hc : callA s o = some (f, args)) : Y P o s h r := ⟨ok_call hf hc⟩
theorem q_u {t : TypeId} {parts : Array (Nat × Operand)} {cs : List AV} (ho : o.op = .build t parts) (hb : buildA P s t parts.toList = some cs) : Y P o s h (.agg cs) := ⟨ok_build ho hb⟩
theorem ao_k {v : AV} (hgd : o.guard = none) (hco : constsOk o = true) (hdo : dstOk n o.dst = true) (hv : Y P o s h v) (hk : O P n ops Q rest (putS s o.dst v) h) : O P n ops Q (o :: rest) s h := ⟨aops_one hgd (a1_calm hco hdo hv.out hk.out)⟩
theorem ad_k {v : AV} (hgd : o.guard = none) (h1 : true = true) (h2 : true = true) (hv : Y P o s h v) (hk : D P n ops h K rest (putS s o.dst v)) : D P n ops h K (o :: rest) s := ⟨adr_one hgd (d1_calm hv.out hk.out)⟩
def unG (o : Oper) : Oper := { o with guard := none }
theorem aops_grdU {j : Nat} {want : Bool} (hg : o.guard = some (j, want)) {d : Nat} (hd : dstAt ops j = some d) (hn : Nat.blt d n.n = true) {b : Bool} (hb : get s d = .bool b) (ho : dstOk n o.dst = true)
    (h1 : b = want → AOps P n ops Q (unG o :: rest) ((d, .bool want) :: s) h) (h2 : b = !want → AOps P n ops Q rest (putS ((d, .bool (!want)) :: s) o.dst (.tup [])) h) : AOps P n ops Q (o :: rest) s h := fun E σ ι a w hr ht => by
  have hv := ht.at_ d
  rw [hb] at hv
  have hput : ∀ b', b = b' → TR n σ ι ((d, .bool b') :: s) a := fun b' e => ⟨ht.size, ht.defers, fun t => by
    rw [get_cons]
    split
    · rename_i e'; subst e'; subst e; exact hv
    · exact ht.at_ t⟩
  have hwant := wanted_of hg hd (by rw [ht.size]; simpa using hn) hv
  by_cases hw : b = want
  · have h3 := h1 hw E σ ι a w hr (hput _ hw)
    intro hnd
    have h4 := h3 (show noDefer (unG o :: rest) = true from hnd)
    unfold wpListIn at h4 ⊢
    rw [if_pos (by simp [Region.wanted, unG])] at h4
    rw [if_pos (hwant.trans (by simpa using hw))]
    exact h4
  · have hw2 : b = !want := by cases b <;> cases want <;> simp_all
    exact wpL_not (hwant.trans (by simpa using hw)) (h2 hw2 E σ ι _ w hr ((hput _ hw2).putS ho VR.tup0))
theorem adr_grdU {j : Nat} {want : Bool} (hg : o.guard = some (j, want)) {d : Nat} (hd : dstAt ops j = some d) {b : Bool} (hb : get s d = .bool b)
    (h1 : b = want → ADr P n ops h K (unG o :: rest) ((d, .bool want) :: s)) (h2 : b = !want → ADr P n ops h K rest (putS ((d, .bool (!want)) :: s) o.dst (.tup []))) : ADr P n ops h K (o :: rest) s :=
  adr_grd hg hd hb (fun e => by have h3 := h1 e; unfold ADr at h3; exact h3) h2
theorem ao_alloc {t : TypeId} {id : Nat} (ho : o.op = .alloc t) {cs : List AV} (hz : zeroA P t = some cs) (hf : freshAll id s h = true) (hi : hasIdL id cs = false) (hgd : o.guard = none) (hco : constsOk o = true) (hdo : dstOk n o.dst = true) (hk : O P n ops Q rest (putS s o.dst (.ptr id 0)) ((id, .blk t cs) :: h)) : O P n ops Q (o :: rest) s h := ⟨aops_one hgd (a1_alloc ho id hz hdo hf hi hk.out)⟩
theorem ao_box {t : TypeId} {x : Operand} {id : Nat} (ho : o.op = .box t x) {v : AV} (hv : evA s x = v) (hq : celQ v = true) (hf : freshAll id s h = true) (hi : hasIdL id (celA v) = false) (hgd : o.guard = none) (hco : constsOk o = true) (hdo : dstOk n o.dst = true) (hk : O P n ops Q rest (putS s o.dst (.ptr id 0)) ((id, .blk t (celA v)) :: h)) : O P n ops Q (o :: rest) s h := ⟨aops_one hgd (a1_box ho id hv hq hco hdo hf hi hk.out)⟩
theorem ao_st {t : TypeId} {x y : Operand} {id off : Nat} {ty : TypeId} {cs : List AV} {v : AV} (ho : o.op = .store t x y) (hx : evA s x = .ptr id off) (hg : hget h id = some (.blk ty cs)) (hv : evA s y = v) (hq : celQ v = true) (hz : sizeQ P t (celA v).length = true) (hl : Nat.ble (off + (celA v).length) cs.length = true) (hd : o.dst = none) (hgd : o.guard = none) (hco : constsOk o = true) (hdo : dstOk n o.dst = true) (hk : O P n ops Q rest s ((id, .blk ty (spl cs off (celA v))) :: h)) : O P n ops Q (o :: rest) s h := ⟨aops_one hgd (a1_store ho hx hg hv hq hz (Nat.ble_eq ▸ hl) hco hd hk.out)⟩
theorem ao_ap {α : Type} {id sz : Nat} {l : List α} {f : α → List AV} {t e : TypeId} {x y : Operand} {z0 : List AV} {yl : List (List AV)} {ys : List α} {by_ : Nat} (ho : o.op = .call { callee := .builtin .append, args := #[x, y], argTypes := #[t, t] }) (hx : evA s x = .own id) (hg : hget h id = some (.row e sz (l.map f))) (ht : sliceE P t = some e) (hz : sizeQ P e sz = true) (h0 : zeroA P e = some z0) (hz0 : Nat.beq z0.length sz = true) (hby : bytesQ P e by_ = true) (hy : evA s y = .lst sz yl) (hyl : yl = ys.map f) (hq : ∀ y ∈ ys, (f y).all oneQ = true) (hlen : (l.length + ys.length) * by_ ≤ 140737488355328) (hlen2 : l.length + ys.length ≤ 9223372036854775807) (h5 : Nat.ble 5 id = true) (hlo : loneH id h = true) (hgd : o.guard = none) (hco : constsOk o = true) (hdo : dstOk n o.dst = true) (hk : O P n ops Q rest (putS (killS id s) o.dst (.own id)) ((id, .row e sz ((l ++ ys).map f)) :: h)) : O P n ops Q (o :: rest) s h := ⟨aops_one hgd (a1_append ho ht hz h0 (Nat.eq_of_beq_eq_true hz0) hby hx hg hy hyl hq hlen hlen2 hco hdo h5 hlo hk.out)⟩
theorem ao_mk {α : Type} {t e : TypeId} {x y : Operand} {sz m : Nat} {k k' : IntKind} {z0 : List AV} {id : Nat} {f : α → List AV} {d : α} {by_ : Nat} (ho : o.op = .makeSlice t x y) (ht : sliceE P t = some e) (h0 : zeroA P e = some z0) (hz : sizeQ P e sz = true) (hz0 : z0 = f d) (hzl : Nat.beq z0.length sz = true) (hsz : Nat.blt 0 sz = true) (hby : bytesQ P e by_ = true) (hx : evA s x = .int k m) (hy : evA s y = .int k' m) (hb : m * by_ ≤ 140737488355328) (hm : m ≤ 9223372036854775807) (hf : freshAll id s h = true) (hgd : o.guard = none) (hco : constsOk o = true) (hdo : dstOk n o.dst = true) (hk : O P n ops Q rest (putS s o.dst (.own id)) ((id, .row e sz ((List.replicate m d).map f)) :: h)) : O P n ops Q (o :: rest) s h := ⟨aops_one hgd (a1_make ho id ht hz h0 hz0 (Nat.eq_of_beq_eq_true hzl) (by simpa [Nat.blt_eq] using hsz) hby hx hy hb hm hco hdo hf hk.out)⟩
theorem KL : (∀ (p : Prop) [Decidable p], (decide p = true) = p) ∧ (∀ (p : Prop) [Decidable p], (decide p = false) = ¬ p) ∧ (∀ b : Bool, ((!b) = true) = (b = false)) ∧ (∀ b : Bool, ((!b) = false) = (b = true)) ∧ (∀ b : Bool, (¬ b = true) = (b = false)) ∧ (∀ b : Bool, (¬ b = false) = (b = true)) ∧
    (∀ b : Bool, (!!b) = b) ∧ ((!true) = false) ∧ ((!false) = true) ∧ (∀ a b : Bool, ((a && b) = true) = (a = true ∧ b = true)) ∧ (∀ a b : Bool, ((a || b) = false) = (a = false ∧ b = false)) ∧ (∀ a b : Int, (¬ a < b) = (b ≤ a)) ∧ (∀ a b : Int, (¬ a ≤ b) = (b < a)) ∧ (∀ p : Prop, (¬ ¬ p) = p) ∧ ((¬ False) = True) ∧ ((¬ True) = False) := by
  refine ⟨?_, ?_, ?_, ?_, ?_, ?_, ?_, rfl, rfl, ?_, ?_, ?_, ?_, ?_, ?_, ?_⟩
  · intro p _; simp
  · intro p _; simp
  · intro b; cases b <;> simp
  · intro b; cases b <;> simp
  · intro b; cases b <;> simp
  · intro b; cases b <;> simp
  · intro b; cases b <;> rfl
  · intro a b; cases a <;> cases b <;> simp
  · intro a b; cases a <;> cases b <;> simp
  · intro a b; simp
  · intro a b; simp
  · intro p; simp [Classical.not_not]
  · simp
  · simp
structure BThen (next : Slots → Heap → Prop) (Q : Exit → Slots → Heap → Prop) (e : Exit) (s : Slots) (h : Heap) : Prop where
  out : AThen next Q e s h
structure BIn (id : Nat) (Q : Exit → Slots → Heap → Prop) (e : Exit) (s : Slots) (h : Heap) : Prop where
  out : AIn id Q e s h
theorem nThen {next : Slots → Heap → Prop} (hq : next s h) : BThen next Q .normal s h := ⟨hq⟩
theorem nIn {id : Nat} (hq : Q .normal s h) : BIn id Q .normal s h := ⟨hq⟩
theorem rThen {next : Slots → Heap → Prop} (hq : Q .ret s h) : BThen next Q .ret s h := ⟨hq⟩
theorem rIn {id : Nat} (hq : Q .ret s h) : BIn id Q .ret s h := ⟨hq⟩
theorem eThen {next : Slots → Heap → Prop} {i : Nat} (hq : Q (.exit i) s h) : BThen next Q (.exit i) s h := ⟨hq⟩
theorem eIn {id : Nat} (hq : Q .normal s h) : BIn id Q (.exit id) s h := ⟨by unfold AIn; simpa using hq⟩
theorem eInNe {id i : Nat} (hne : Nat.beq i id = false) (hq : Q (.exit i) s h) : BIn id Q (.exit i) s h := ⟨by show (bif Nat.beq i id then Q .normal s h else Q (.exit i) s h); rw [hne]; exact hq⟩
theorem wseq {x y : Code} (hx : W P n x (BThen (fun s h => W P n y Q s h) Q) s h) : W P n (.seq x y) Q s h := ⟨awp_seq (hx.out.mono fun e s h q => by have q := q.out; cases e <;> first | exact q.out | exact q)⟩
theorem wregion {id : Nat} {l : List Oper} (hnd : noDefer l = true) (hk : O P n l.toArray Q l s h) : W P n (.region id l.toArray false) Q s h := ⟨awp_region hnd hk.out⟩
theorem wdraw {id : Nat} {l : List Oper} (hm : P.follows .mixedOrders = true) (hok : drawOk n l = true) (hk : D P n l.toArray h (fun s' => Q .normal s' h) l s) : W P n (.region id l.toArray true) Q s h := ⟨awp_draw hm hok hk.out⟩
theorem onil (hq : Q .normal s h) : O P n ops Q [] s h := ⟨aops_nil hq⟩
theorem dnil (hq : K s) : D P n ops h K [] s := ⟨adr_nil hq⟩
theorem wskip (hq : Q .normal s h) : W P n .skip Q s h := ⟨awp_skip hq⟩
theorem wret (hq : Q .ret s h) : W P n .ret Q s h := ⟨awp_ret hq⟩
theorem wexit {id : Nat} (hq : Q (.exit id) s h) : W P n (.exit id) Q s h := ⟨awp_exit hq⟩
theorem wblock {id : Nat} {c : Code} (hc : W P n c (BIn id Q) s h) : W P n (.block id c) Q s h := ⟨awp_block (hc.out.mono fun e s h q => q.out)⟩
theorem wcond {c : Operand} {x y : Code} {b : Bool} (hk : cOk c = true) (hc : evA s c = .bool b) (hx : b = true → W P n x Q s h) (hy : b = false → W P n y Q s h) : W P n (.cond c x y) Q s h := ⟨awp_cond hk hc (fun e => (hx e).out) fun e => (hy e).out⟩
theorem wcondT {c : Operand} {x y : Code} (hk : cOk c = true) (hc : evA s c = .bool true) (hx : W P n x Q s h) : W P n (.cond c x y) Q s h := wcond hk hc (fun _ => hx) fun e => by cases e
theorem wcondF {c : Operand} {x y : Code} (hk : cOk c = true) (hc : evA s c = .bool false) (hy : W P n y Q s h) : W P n (.cond c x y) Q s h := wcond hk hc (fun e => by cases e) fun _ => hy
theorem wle {c : Code} {s' : Slots} {h' : Heap} (hs : LeS s s') (hh : LeH h h') (hc : W P n c Q s' h') : W P n c Q s h := ⟨awp_le hs hh hc.out⟩
theorem wturn {c : Code} {s' : Slots} {h' : Heap} (ht : Turns n s h s' h') (hc : W P n c Q s' h') : W P n c Q s h := ⟨awp_turn ht hc.out⟩
theorem wrange {c : Code} (t : Nat) {k : IntKind} {m : Int} (hg : get s t = .int k m) (hk : rangeP k m → W P n c Q s h) : W P n c Q s h := ⟨awp_range t hg fun e => (hk e).out⟩
theorem ole {s' : Slots} {h' : Heap} (hs : LeS s s') (hh : LeH h h') (hk : O P n ops Q rest s' h') : O P n ops Q rest s h := ⟨aops_le hs hh hk.out⟩
theorem oturn {s' : Slots} {h' : Heap} (ht : Turns n s h s' h') (hk : O P n ops Q rest s' h') : O P n ops Q rest s h := ⟨aops_turn ht hk.out⟩
theorem ogrd {j : Nat} {want : Bool} (hg : o.guard = some (j, want)) {d : Nat} (hd : dstAt ops j = some d) (hn : Nat.blt d n.n = true) {b : Bool} (hb : get s d = .bool b) (ho : dstOk n o.dst = true)
    (h1 : b = want → O P n ops Q (unG o :: rest) ((d, .bool want) :: s) h) (h2 : b = !want → O P n ops Q rest (putS ((d, .bool (!want)) :: s) o.dst (.tup [])) h) : O P n ops Q (o :: rest) s h := ⟨aops_grdU hg hd hn hb ho (fun e => (h1 e).out) fun e => (h2 e).out⟩
theorem dgrd {j : Nat} {want : Bool} (hg : o.guard = some (j, want)) {d : Nat} (hd : dstAt ops j = some d) {b : Bool} (hb : get s d = .bool b)
    (h1 : b = want → D P n ops h K (unG o :: rest) ((d, .bool want) :: s)) (h2 : b = !want → D P n ops h K rest (putS ((d, .bool (!want)) :: s) o.dst (.tup []))) : D P n ops h K (o :: rest) s := ⟨adr_grdU hg hd hb (fun e => (h1 e).out) fun e => (h2 e).out⟩
theorem ogrdN {j : Nat} {want : Bool} (hg : o.guard = some (j, want)) {d : Nat} (hd : dstAt ops j = some d) (hn : Nat.blt d n.n = true) (hb : get s d = .tup []) (ho : dstOk n o.dst = true) (h2 : O P n ops Q rest (putS s o.dst (.tup [])) h) : O P n ops Q (o :: rest) s h := ⟨aops_grdN hg hd hn hb ho h2.out⟩
theorem dgrdN {j : Nat} {want : Bool} (hg : o.guard = some (j, want)) {d : Nat} (hd : dstAt ops j = some d) (hb : get s d = .tup []) (h2 : D P n ops h K rest (putS s o.dst (.tup []))) : D P n ops h K (o :: rest) s := ⟨adr_grdN hg hd hb h2.out⟩
theorem wloop {α : Type} {c : Code} (st : α → Slots × Heap) (inv : α → Prop) (μ : α → Nat) (x0 : α) (h0 : inv x0) (hs : LeS s (st x0).1) (hh : LeH h (st x0).2)
    (round : ∀ x, inv x → W P n c (BThen (fun s' h' => ∃ x', inv x' ∧ μ x' < μ x ∧ LeS s' (st x').1 ∧ LeH h' (st x').2) Q) (st x).1 (st x).2) : W P n (.loop c) Q s h := ⟨awp_loop st inv μ x0 h0 hs hh fun x hx => (round x hx).out.mono fun e s h q => q.out⟩
theorem Turns.refl (s : Slots) (h : Heap) : Turns n s h s h := fun E σ ι a w hr ht => ⟨σ, ι, hr, ht⟩
theorem Turns.le {s' : Slots} {h' : Heap} (hs : LeS s s') (hh : LeH h h') : Turns n s h s' h' := fun E σ ι a w hr ht => ⟨σ, ι, hr.le hh, ht.le hs⟩
theorem Turns.trans {s' s'' : Slots} {h' h'' : Heap} (h1 : Turns n s h s' h') (h2 : Turns n s' h' s'' h'') : Turns n s h s'' h'' := fun E σ ι a w hr ht =>
  let ⟨σ1, ι1, hr1, ht1⟩ := h1 E σ ι a w hr ht; h2 E σ1 ι1 a w hr1 ht1
theorem retq {rs : List ResultVar} {Qf : AV → Heap → Prop} {v : AV} (hr : resA P s h rs = some v) (hq : Qf v h) : RetQ P rs Qf .ret s h := ⟨v, s, h, fun _ => Turns.refl s h, hr, hq⟩
theorem retn {rs : List ResultVar} {Qf : AV → Heap → Prop} {v : AV} (hr : resA P s h rs = some v) (hq : Qf v h) : RetQ P rs Qf .normal s h := ⟨v, s, h, fun _ => Turns.refl s h, hr, hq⟩
theorem reth {rs : List ResultVar} {Qf : AV → Heap → Prop} {v : AV} {h' : Heap} (hr : resA P s h' rs = some v) (hh : LeH h h') (hq : Qf v h') : RetQ P rs Qf .ret s h := ⟨v, s, h', fun _ => Turns.le (LeS.refl s) hh, hr, hq⟩
theorem retT {rs : List ResultVar} {Qf : AV → Heap → Prop} {s' : Slots} {h' : Heap} (ht : ∀ n, Turns n s h s' h') (hk : RetQ P rs Qf .ret s' h') : RetQ P rs Qf .ret s h :=
  let ⟨v, s2, h2, h3, h4, h5⟩ := hk; ⟨v, s2, h2, fun n => (ht n).trans (h3 n), h4, h5⟩
theorem fnb {f : FuncId} {fn : Func} {c : Code} {args : List AV} {r : AV} (hf : P.funcs[f]? = some fn) (he : Entered P f) (hb : fn.body = some c) (hl : Nat.ble args.length fn.ntmps = true) (hp : pureA r = true)
    (hwp : W P { n := fn.ntmps } c (RetQ P fn.results.toList (fun v _ => v = r)) (slots0 args 0) []) : Fn P f args r := fn_of_body hf he hb hl hp hwp.out
theorem ya {v : AV} (x : Y P o s h v := by first | (show Y _ ⟨_, .indexAddr _ _ _, _, _, _, _⟩ _ _ _; first | exact q_i rfl rfl rfl rfl rfl (by omega) | exact q_iz rfl rfl rfl rfl rfl (by omega) (by omega) | exact q_io rfl rfl rfl rfl rfl rfl (by omega) | exact q_ioz rfl rfl rfl rfl rfl rfl (by omega) (by omega)) | (show Y _ ⟨_, .slice _ _ _ _ none, _, _, _, _⟩ _ _ _; first | exact q_sl rfl rfl rfl rfl rfl (Exists.intro _ rfl) (by omega) (by omega) | exact q_sl rfl rfl rfl rfl rfl rfl (by omega) (by omega) | exact q_sl rfl rfl rfl rfl (Exists.intro _ rfl) (Exists.intro _ rfl) (by omega) (by omega) | exact q_sl rfl rfl rfl rfl (Exists.intro _ rfl) rfl (by omega) (by omega)) | (show Y _ ⟨_, .call ⟨.builtin .len, _, _⟩, _, _, _, _⟩ _ _ _; first | exact q_l rfl rfl rfl | exact q_lo rfl rfl rfl rfl | exact q_n rfl rfl rfl) | (refine q_s rfl ?_ <;> (first | trivial | exact Nat.le_of_ble_eq_true rfl | (simp only [rangeP]; omega) | omega)) | (refine q_p rfl rfl rfl rfl ?_ ?_ <;> (first | trivial | exact Nat.le_of_ble_eq_true rfl | (simp only [rangeP]; omega) | omega)) | exact q_u rfl rfl | exact q_b rfl rfl rfl rfl | exact q_g rfl rfl rfl rfl rfl rfl rfl rfl rfl) : Y P o s h v := x
theorem yab {v : AV} (x : Y P o s h v := by first | (show Y _ ⟨_, .indexAddr _ _ _, _, _, _, _⟩ _ _ _; first | exact q_i rfl rfl rfl rfl rfl (by omega) | exact q_iz rfl rfl rfl rfl rfl (by omega) (by omega) | exact q_io rfl rfl rfl rfl rfl rfl (by omega) | exact q_ioz rfl rfl rfl rfl rfl rfl (by omega) (by omega)) | (show Y _ ⟨_, .slice _ _ _ _ none, _, _, _, _⟩ _ _ _; first | exact q_sl rfl rfl rfl rfl rfl (Exists.intro _ rfl) (by omega) (by omega) | exact q_sl rfl rfl rfl rfl rfl rfl (by omega) (by omega) | exact q_sl rfl rfl rfl rfl (Exists.intro _ rfl) (Exists.intro _ rfl) (by omega) (by omega) | exact q_sl rfl rfl rfl rfl (Exists.intro _ rfl) rfl (by omega) (by omega)) | (show Y _ ⟨_, .call ⟨.builtin .len, _, _⟩, _, _, _, _⟩ _ _ _; first | exact q_l rfl rfl rfl | exact q_lo rfl rfl rfl rfl | exact q_n rfl rfl rfl) | (refine q_s rfl ?_ <;> (first | trivial | exact Nat.le_of_ble_eq_true rfl | (simp only [rangeP]; omega) | omega)) | (refine q_p rfl rfl rfl rfl ?_ ?_ <;> (first | trivial | exact Nat.le_of_ble_eq_true rfl | (simp only [rangeP]; omega) | omega)) | exact q_u rfl rfl | exact q_g rfl rfl rfl rfl rfl rfl rfl rfl rfl) : Y P o s h v := x
theorem yag {v : AV} (x : Y P o s h v := by first | (show Y _ ⟨_, .indexAddr _ _ _, _, _, _, _⟩ _ _ _; first | exact q_i rfl rfl rfl rfl rfl (by omega) | exact q_iz rfl rfl rfl rfl rfl (by omega) (by omega) | exact q_io rfl rfl rfl rfl rfl rfl (by omega) | exact q_ioz rfl rfl rfl rfl rfl rfl (by omega) (by omega)) | (show Y _ ⟨_, .slice _ _ _ _ none, _, _, _, _⟩ _ _ _; first | exact q_sl rfl rfl rfl rfl rfl (Exists.intro _ rfl) (by omega) (by omega) | exact q_sl rfl rfl rfl rfl rfl rfl (by omega) (by omega) | exact q_sl rfl rfl rfl rfl (Exists.intro _ rfl) (Exists.intro _ rfl) (by omega) (by omega) | exact q_sl rfl rfl rfl rfl (Exists.intro _ rfl) rfl (by omega) (by omega)) | (show Y _ ⟨_, .call ⟨.builtin .len, _, _⟩, _, _, _, _⟩ _ _ _; first | exact q_l rfl rfl rfl | exact q_lo rfl rfl rfl rfl | exact q_n rfl rfl rfl) | (refine q_s rfl ?_ <;> (first | trivial | exact Nat.le_of_ble_eq_true rfl | (simp only [rangeP]; omega) | omega)) | (refine q_p rfl rfl rfl rfl ?_ ?_ <;> (first | trivial | exact Nat.le_of_ble_eq_true rfl | (simp only [rangeP]; omega) | omega)) | exact q_u rfl rfl | exact q_b rfl rfl rfl rfl) : Y P o s h v := x
theorem yp {v : AV} (x : Y P o s h v := by refine q_p rfl rfl rfl rfl ?_ ?_ <;> (first | trivial | exact Nat.le_of_ble_eq_true rfl | (simp only [rangeP]; omega) | omega)) : Y P o s h v := x
theorem les {s s' : Slots} (x : LeS s s' := by repeat' (first | exact LeS.nil _ | refine LeS.cons ?_ ?_ | exact LeV.of_eq rfl | exact LeV.nils _ | exact LeV.of_eq (congrArg (AV.int _) (by first | omega | (dsimp only; omega) | (simp only [List.length_append, List.length_cons, List.length_nil, List.length_take, List.length_drop, List.length_replicate, List.length_set] <;> omega))) | exact LeV.undef _)) : LeS s s' := x
theorem leh {h h' : Heap} (x : LeH h h' := by repeat' (first | exact LeH.nil _ | refine LeH.cons ?_ ?_ | rfl)) : LeH h h' := x
end
section
/-! The same under short names. -/
abbrev kA := @wseq
abbrev kB := @wregion
abbrev kC := @wcondT
abbrev kD := @wcondF
abbrev kE := @wblock
abbrev kF := @wskip
abbrev kG := @wexit
abbrev kH := @wret
abbrev kI := @wdraw
abbrev kJ := @ao_st
abbrev kK := @onil
abbrev kL := @dnil
abbrev kM := @ao_k
abbrev kN := @ad_k
abbrev kO := @ogrdN
abbrev kP := @dgrdN
abbrev kQ := @wcond
abbrev kR := @ogrd
abbrev kS := @dgrd
abbrev kT := @nThen
abbrev kU := @nIn
abbrev kV := @eThen
abbrev kW := @eIn
abbrev kX := @eInNe
abbrev kY := @rThen
abbrev kZ := @rIn
theorem sA {X G : Prop} (hk : X) (x : X → G := by first | exact kA | exact kB rfl | exact kK | exact kE | exact kT | exact kC rfl rfl | exact kD rfl rfl | exact kF | exact kG | exact kH | exact kI (by kernel_rfl) (by kernel_rfl) | (show _ → O _ _ _ _ (⟨_, .store _ _ _, _, _, _, _⟩ :: _) _ _; exact kJ rfl rfl rfl rfl rfl rfl rfl rfl rfl rfl rfl) | exact kL | exact kU | exact kV | exact kW | exact kX rfl | exact kY | exact kZ) : G := x hk
theorem sB {X G : Prop} (hk : X) (x : X → G := by first | exact kA | exact kB rfl | exact kK | exact kE | exact kT | exact kC rfl rfl | exact kD rfl rfl | exact kF | exact kG | exact kH | (show _ → O _ _ _ _ (⟨_, .store _ _ _, _, _, _, _⟩ :: _) _ _; exact kJ rfl rfl rfl rfl rfl rfl rfl rfl rfl rfl rfl) | exact kL | exact kU | exact kV | exact kW | exact kX rfl | exact kY | exact kZ) : G := x hk
theorem sG {X G : Prop} (hk : X) (x : X → G := by first | exact kO rfl rfl rfl rfl rfl | exact kP rfl rfl rfl) : G := x hk
theorem sK {Z X G : Prop} (hy : Z) (hk : X) (x : Z → X → G := by first | exact kQ rfl rfl | exact kR rfl rfl rfl rfl rfl | exact kS rfl rfl rfl) : G := x hy hk
theorem sL : (∀ (α : Type) (a b : α), (bif true then a else b) = a) ∧ (∀ (α : Type) (a b : α), (bif false then a else b) = b) ∧ (∀ (α : Type) [BEq α] [LawfulBEq α] (a b : α), ((a == b) = true) = (a = b)) ∧ (∀ (α : Type) [BEq α] [LawfulBEq α] (a b : α), ((a != b) = true) = (a ≠ b)) ∧ (∀ (α : Type) (a b : α), (a ≠ b) = ¬ (a = b)) :=
  ⟨fun _ _ _ => rfl, fun _ _ _ => rfl, fun _ _ _ a b => propext beq_iff_eq, fun _ _ _ a b => propext bne_iff_ne, fun _ _ _ => rfl⟩
end
end Go.Proofs.Ytfjoaeghnfkdlaa
namespace Go.Proofs.Ytfjoaeghnfkdlaa
set_option maxRecDepth 100000
open Go.RowKit
mutual
def closedA (ids : List Nat) : AV → Bool
  | .own i | .ptr i _ | .eptr i _ _ _ | .part i _ | .pptr i _ _ => ids.any (Nat.beq i)
  | .agg cs => closedL ids cs
  | .tup cs => closedL ids cs
  | .fn _ xs ys => closedL ids xs && closedL ids ys
  | _ => true
def closedL (ids : List Nat) : List AV → Bool
  | [] => true
  | x :: xs => closedA ids x && closedL ids xs
end
theorem closedL_get {ids : List Nat} : ∀ {cs : List AV}, closedL ids cs = true → ∀ (j : Nat) (c : AV), cs[j]? = some c → closedA ids c = true
  | [], _, j, c, h => by simp at h
  | x :: xs, hp, 0, c, h => by simp at h; subst h; simp only [closedL, Bool.and_eq_true] at hp; exact hp.1
  | x :: xs, hp, j + 1, c, h => by simp only [closedL, Bool.and_eq_true] at hp; exact closedL_get hp.2 j c (by simpa using h)
theorem VR.same {σ : Sig} {ι ι' : Nat → Value} {x : AV} {v : Value} (h : VR σ ι x v) : (∀ i, hasId i x = true → ι i = ι' i) → VR σ ι' x v := by
  induction h with
  | base x v h => exact fun _ => .base _ _ h
  | own i h1 =>
    intro h
    have h2 := h i (by simp [hasId])
    rw [h2] at h1 ⊢
    exact .own i h1
  | ptr i off g h => intro hb; exact .ptr i off g (by rw [← hb i (by simp [hasId])]; exact h)
  | eptr i sz a b g h => intro hb; exact .eptr i sz a b g (by rw [← hb i (by simp [hasId])]; exact h)
  | part i j vs v h hj h1 => intro hb; exact .part i j vs v (by rw [← hb i (by simp [hasId])]; exact h) hj h1
  | pptr i j off g vs u h hj hg => intro hb; exact .pptr i j off g vs u (by rw [← hb i (by simp [hasId])]; exact h) hj hg
  | agg cs vs h1 h2 ih =>
    intro h; exact .agg cs vs h1 fun j c v hc hv => ih j c v hc hv fun i hi => h i (by
      cases hn : hasId i (.agg cs) with
      | true => rfl
      | false => rw [hasIdL_get (by simpa [hasId] using hn) j c hc] at hi; cases hi)
  | tup cs vs h1 h2 ih =>
    intro h; exact .tup cs vs h1 fun j c v hc hv => ih j c v hc hv fun i hi => h i (by
      cases hn : hasId i (.tup cs) with
      | true => rfl
      | false => rw [hasIdL_get (by simpa [hasId] using hn) j c hc] at hi; cases hi)
  | fn f xs ys us vs h1 h2 h3 h4 ih1 ih2 =>
    intro h
    refine .fn f xs ys us vs h1 (fun j c v hc hv => ih1 j c v hc hv fun i hi => h i ?_) h3 fun j c v hc hv => ih2 j c v hc hv fun i hi => h i ?_
    · cases hn : hasId i (.fn f xs ys) with
      | true => rfl
      | false => simp only [hasId, Bool.or_eq_false_iff] at hn; rw [hasIdL_get hn.1 j c hc] at hi; cases hi
    · cases hn : hasId i (.fn f xs ys) with
      | true => rfl
      | false => simp only [hasId, Bool.or_eq_false_iff] at hn; rw [hasIdL_get hn.2 j c hc] at hi; cases hi
def closedH (ids : List Nat) : Heap → Bool
  | [] => true
  | (i, .blk _ cs) :: r => ids.any (Nat.beq i) && closedL ids cs && closedH ids r
  | (i, .row _ _ _) :: r => ids.any (Nat.beq i) && closedH ids r
  | (i, .sem _) :: r => ids.any (Nat.beq i) && closedH ids r
theorem closedH_get {ids : List Nat} : ∀ {h : Heap}, closedH ids h = true → ∀ i c, hget h i = some c → i ∈ ids ∧ match c with | .blk _ cs => closedL ids cs = true | _ => True
  | [], _, i, c, hc => by cases hc
  | (i', .blk ty cs) :: r, hf, i, c, hc => by
    simp only [closedH, Bool.and_eq_true] at hf
    rw [hget_cons] at hc
    split at hc
    · rename_i e; subst e; cases hc
      obtain ⟨j, hj, hb⟩ := List.any_eq_true.1 hf.1.1
      exact ⟨by rw [Nat.eq_of_beq_eq_true hb]; exact hj, hf.1.2⟩
    · exact closedH_get hf.2 i c hc
  | (i', .row e sz xs) :: r, hf, i, c, hc => by
    simp only [closedH, Bool.and_eq_true] at hf
    rw [hget_cons] at hc
    split at hc
    · rename_i e; subst e; cases hc
      obtain ⟨j, hj, hb⟩ := List.any_eq_true.1 hf.1
      exact ⟨by rw [Nat.eq_of_beq_eq_true hb]; exact hj, trivial⟩
    · exact closedH_get hf.2 i c hc
  | (i', .sem _) :: r, hf, i, c, hc => by
    simp only [closedH, Bool.and_eq_true] at hf
    rw [hget_cons] at hc
    split at hc
    · rename_i e; subst e; cases hc
      obtain ⟨j, hj, hb⟩ := List.any_eq_true.1 hf.1
      exact ⟨by rw [Nat.eq_of_beq_eq_true hb]; exact hj, trivial⟩
    · exact closedH_get hf.2 i c hc
def hids (h : Heap) : List Nat := h.map (·.1)
theorem hget_ids {h : Heap} {i : Nat} {c : Chunk} (hc : hget h i = some c) : i ∈ hids h := by
  induction h with
  | nil => cases hc
  | cons p r ih =>
    obtain ⟨j, d⟩ := p
    rw [hget_cons] at hc
    split at hc
    · rename_i e; subst e; simp [hids]
    · simp only [hids, List.map_cons, List.mem_cons]; exact .inr (ih hc)
def killL : List Nat → Slots → Slots
  | [], s => s
  | i :: r, s => killL r (killS i s)
theorem get_killL : ∀ (ids : List Nat) (s : Slots) (t : Nat), get (killL ids s) t = .undef ∨ (get (killL ids s) t = get s t ∧ ∀ i ∈ ids, hasId i (get s t) = false)
  | [], s, t => .inr ⟨rfl, fun i hi => by cases hi⟩
  | i :: r, s, t => by
    rw [killL]
    rcases get_killL r (killS i s) t with h | ⟨h1, h2⟩
    · exact .inl h
    · rw [get_killS] at h1 h2
      by_cases hid : hasId i (get s t) = true
      · rw [if_pos hid] at h1; exact .inl h1
      · rw [if_neg hid] at h1 h2
        refine .inr ⟨h1, fun j hj => ?_⟩
        rcases List.mem_cons.1 hj with rfl | hj
        · simpa using hid
        · exact h2 j hj
def loneL (ids : List Nat) (h : Heap) : Bool := ids.all fun i => loneH i h
def hdelL : List Nat → Heap → Heap
  | [], h => h
  | i :: r, h => hdelL r (hdel i h)
theorem hget_hdelL : ∀ (ids : List Nat) (h : Heap) (i : Nat), hget (hdelL ids h) i = if i ∈ ids then none else hget h i
  | [], h, i => by simp [hdelL]
  | j :: r, h, i => by
    rw [hdelL, hget_hdelL, hget_hdel]
    by_cases h1 : i ∈ r
    · simp [h1]
    · by_cases h2 : i = j
      · subst h2; simp
      · simp [h1, h2]
theorem hget_append (h1 h2 : Heap) (i : Nat) : hget (h1 ++ h2) i = match hget h1 i with | some c => some c | none => hget h2 i := by
  induction h1 with
  | nil => rfl
  | cons p r ih =>
    obtain ⟨j, d⟩ := p
    rw [List.cons_append, hget_cons, hget_cons]
    split
    · rfl
    · exact ih
mutual
def ren (ρ : Nat → Nat) : AV → AV
  | .own i => .own (ρ i)
  | .ptr i o => .ptr (ρ i) o
  | .eptr i sz a b => .eptr (ρ i) sz a b
  | .part i j => .part (ρ i) j
  | .pptr i j off => .pptr (ρ i) j off
  | .agg cs => .agg (renL ρ cs)
  | .tup cs => .tup (renL ρ cs)
  | .fn f xs ys => .fn f (renL ρ xs) (renL ρ ys)
  | x => x
def renL (ρ : Nat → Nat) : List AV → List AV
  | [] => []
  | x :: xs => ren ρ x :: renL ρ xs
end
theorem renL_get (ρ : Nat → Nat) : ∀ (cs : List AV) (j : Nat), (renL ρ cs)[j]? = (cs[j]?).map (ren ρ)
  | [], j => by simp [renL]
  | x :: xs, 0 => by simp [renL]
  | x :: xs, j + 1 => by simp [renL, renL_get ρ xs j]
theorem renL_length (ρ : Nat → Nat) : ∀ (cs : List AV), (renL ρ cs).length = cs.length
  | [] => rfl
  | x :: xs => by simp [renL, renL_length ρ xs]
def renC (ρ : Nat → Nat) : Chunk → Chunk
  | .blk ty cs => .blk ty (renL ρ cs)
  | .row e sz xs => .row e sz xs
  | .sem c => .sem c
def renH (ρ : Nat → Nat) : Heap → Heap
  | [] => []
  | (i, c) :: r => (ρ i, renC ρ c) :: renH ρ r
theorem ren_el {ρ : Nat → Nat} {R : AV → Value → Prop} {R' : AV → Value → Prop} {cs : List AV} {vs : List Value} (h : ∀ (j : Nat) (c : AV) (v : Value), (renL ρ cs)[j]? = some c → vs[j]? = some v → ∀ x, ren ρ x = c → R' x v) :
    ∀ (j : Nat) (c : AV) (v : Value), cs[j]? = some c → vs[j]? = some v → R' c v := fun j c v hc hv => h j (ren ρ c) v (by rw [renL_get, hc]; rfl) hv c rfl
theorem VR0.unren {σ : Sig} {ρ : Nat → Nat} {y : AV} {v : Value} (h : VR0 σ y v) : ∀ x, ren ρ x = y → VR0 σ x v := by
  induction h with
  | undef v => intro x hx; cases x <;> simp only [ren] at hx <;> first | (cases hx; done) | exact .undef v
  | int k n h => intro x hx; cases x <;> simp only [ren] at hx <;> first | (cases hx; done) | (cases hx; exact .int k n h)
  | bool b => intro x hx; cases x <;> simp only [ren] at hx <;> first | (cases hx; done) | (cases hx; exact .bool b)
  | str s => intro x hx; cases x <;> simp only [ren] at hx <;> first | (cases hx; done) | (cases hx; exact .str s)
  | nils => intro x hx; cases x <;> simp only [ren] at hx <;> first | (cases hx; done) | exact .nils
  | empty sz A cap h => intro x hx; cases x <;> simp only [ren] at hx <;> first | (cases hx; done) | (cases hx; exact .empty sz A cap h)
  | lst sz xs b off cap g h1 h2 h3 h4 h5 ih => intro x hx; cases x <;> simp only [ren] at hx <;> first | (cases hx; done) | (cases hx; exact .lst sz xs b off cap g h1 h2 h3 h4 h5)
  | ref cs b off g h4 h5 ih => intro x hx; cases x <;> simp only [ren] at hx <;> first | (cases hx; done) | (cases hx; exact .ref cs b off g h4 h5)
  | agg cs vs h1 h2 ih =>
    intro x hx; cases x <;> simp only [ren] at hx <;> first | (cases hx; done) | skip
    cases hx
    exact .agg _ vs (by rw [← h1, renL_length]) (ren_el (R := VR0 σ) ih)
  | tup cs vs h1 h2 ih =>
    intro x hx; cases x <;> simp only [ren] at hx <;> first | (cases hx; done) | skip
    cases hx
    exact .tup _ vs (by rw [← h1, renL_length]) (ren_el (R := VR0 σ) ih)
  | nilp => intro x hx; cases x <;> simp only [ren] at hx <;> first | (cases hx; done) | exact .nilp
  | fn f xs ys us vs h1 h2 h3 h4 ih1 ih2 =>
    intro x hx; cases x <;> simp only [ren] at hx <;> first | (cases hx; done) | skip
    cases hx
    exact .fn f _ _ us vs (by rw [← h1, renL_length]) (ren_el (R := VR0 σ) ih1) (by rw [← h3, renL_length]) (ren_el (R := VR0 σ) ih2)
  | nilf => intro x hx; cases x <;> simp only [ren] at hx <;> first | (cases hx; done) | exact .nilf
theorem VR.unren {σ : Sig} {ι : Nat → Value} {ρ : Nat → Nat} {y : AV} {v : Value} (h : VR σ ι y v) : ∀ x, ren ρ x = y → VR σ (fun i => ι (ρ i)) x v := by
  induction h with
  | base y v h => exact fun x hx => .base _ _ (h.unren x hx)
  | own i h1 =>
    intro x hx; cases x <;> simp only [ren] at hx <;> first | (cases hx; done) | skip
    rename_i k
    cases hx
    exact VR.own (ι := fun i => ι (ρ i)) k h1
  | ptr i off g h =>
    intro x hx; cases x <;> simp only [ren] at hx <;> first | (cases hx; done) | skip
    cases hx; exact .ptr _ _ g h
  | eptr i sz a b g h =>
    intro x hx; cases x <;> simp only [ren] at hx <;> first | (cases hx; done) | skip
    cases hx; exact .eptr _ _ _ _ g h
  | part i j vs v h hj h1 =>
    intro x hx; cases x <;> simp only [ren] at hx <;> first | (cases hx; done) | skip
    cases hx; exact .part _ _ vs _ h hj h1
  | pptr i j off g vs u h hj hg =>
    intro x hx; cases x <;> simp only [ren] at hx <;> first | (cases hx; done) | skip
    cases hx; exact .pptr _ _ _ g vs u h hj hg
  | agg cs vs h1 h2 ih =>
    intro x hx; cases x <;> simp only [ren] at hx <;> first | (cases hx; done) | skip
    cases hx
    exact .agg _ vs (by rw [← h1, renL_length]) (ren_el (R := VR σ ι) ih)
  | tup cs vs h1 h2 ih =>
    intro x hx; cases x <;> simp only [ren] at hx <;> first | (cases hx; done) | skip
    cases hx
    exact .tup _ vs (by rw [← h1, renL_length]) (ren_el (R := VR σ ι) ih)
  | fn f xs ys us vs h1 h2 h3 h4 ih1 ih2 =>
    intro x hx; cases x <;> simp only [ren] at hx <;> first | (cases hx; done) | skip
    cases hx
    exact .fn f _ _ us vs (by rw [← h1, renL_length]) (ren_el (R := VR σ ι) ih1) (by rw [← h3, renL_length]) (ren_el (R := VR σ ι) ih2)
theorem VR.reren {σ : Sig} {ι ι' : Nat → Value} {ρ : Nat → Nat} {ids : List Nat} (he : ∀ i ∈ ids, ι i = ι' (ρ i)) {x : AV} {v : Value} (h : VR σ ι x v) : closedA ids x = true → VR σ ι' (ren ρ x) v := by
  have mem : ∀ {i : Nat}, ids.any (Nat.beq i) = true → i ∈ ids := fun hb => by
    obtain ⟨j, hj, hb⟩ := List.any_eq_true.1 hb
    rw [Nat.eq_of_beq_eq_true hb]; exact hj
  have el : ∀ {cs : List AV} {vs : List Value}, closedL ids cs = true → (∀ (j : Nat) (c : AV) (v : Value), cs[j]? = some c → vs[j]? = some v → closedA ids c = true → VR σ ι' (ren ρ c) v) →
      ∀ (j : Nat) (c : AV) (v : Value), (renL ρ cs)[j]? = some c → vs[j]? = some v → VR σ ι' c v := fun {cs vs} hcl ih j c v hc hv => by
    rw [renL_get] at hc
    cases hq : cs[j]? with
    | none => rw [hq] at hc; cases hc
    | some q => rw [hq] at hc; cases hc; exact ih j q v hq hv (closedL_get hcl j q hq)
  induction h with
  | base x v h =>
    intro _
    refine .base _ _ ?_
    have pr : ∀ {y : AV} {v : Value}, VR0 σ y v → VR0 σ (ren ρ y) v := by
      intro y v h
      induction h with
      | undef v => exact .undef v
      | int k n h => exact .int k n h
      | bool b => exact .bool b
      | str s => exact .str s
      | nils => exact .nils
      | empty sz A cap h => exact .empty sz A cap h
      | lst sz xs b off cap g h1 h2 h3 h4 h5 ih => exact .lst sz xs b off cap g h1 h2 h3 h4 h5
      | ref cs b off g h4 h5 ih => exact .ref cs b off g h4 h5
      | agg cs vs h1 h2 ih =>
        refine .agg _ vs (by rw [renL_length]; exact h1) fun j c v hc hv => ?_
        rw [renL_get] at hc
        cases hq : cs[j]? with
        | none => rw [hq] at hc; cases hc
        | some q => rw [hq] at hc; cases hc; exact ih j q v hq hv
      | tup cs vs h1 h2 ih =>
        refine .tup _ vs (by rw [renL_length]; exact h1) fun j c v hc hv => ?_
        rw [renL_get] at hc
        cases hq : cs[j]? with
        | none => rw [hq] at hc; cases hc
        | some q => rw [hq] at hc; cases hc; exact ih j q v hq hv
      | nilp => exact .nilp
      | fn f xs ys us vs h1 h2 h3 h4 ih1 ih2 =>
        refine .fn f _ _ us vs (by rw [renL_length]; exact h1) (fun j c v hc hv => ?_) (by rw [renL_length]; exact h3) fun j c v hc hv => ?_
        · rw [renL_get] at hc
          cases hq : xs[j]? with
          | none => rw [hq] at hc; cases hc
          | some q => rw [hq] at hc; cases hc; exact ih1 j q v hq hv
        · rw [renL_get] at hc
          cases hq : ys[j]? with
          | none => rw [hq] at hc; cases hc
          | some q => rw [hq] at hc; cases hc; exact ih2 j q v hq hv
      | nilf => exact .nilf
    exact pr h
  | own i h1 =>
    intro h
    have h2 := he i (mem (by simpa [closedA] using h))
    rw [h2] at h1 ⊢
    exact .own (ρ i) h1
  | ptr i off g h => intro hb; exact .ptr (ρ i) off g (by rw [← he i (mem (by simpa [closedA] using hb))]; exact h)
  | eptr i sz a b g h => intro hb; exact .eptr (ρ i) sz a b g (by rw [← he i (mem (by simpa [closedA] using hb))]; exact h)
  | part i j vs v h hj h1 => intro hb; exact .part (ρ i) j vs v (by rw [← he i (mem (by simpa [closedA] using hb))]; exact h) hj h1
  | pptr i j off g vs u h hj hg => intro hb; exact .pptr (ρ i) j off g vs u (by rw [← he i (mem (by simpa [closedA] using hb))]; exact h) hj hg
  | agg cs vs h1 h2 ih => intro h; exact .agg _ vs (by rw [renL_length]; exact h1) (el (by simpa [closedA] using h) ih)
  | tup cs vs h1 h2 ih => intro h; exact .tup _ vs (by rw [renL_length]; exact h1) (el (by simpa [closedA] using h) ih)
  | fn f xs ys us vs h1 h2 h3 h4 ih1 ih2 =>
    intro h
    simp only [closedA, Bool.and_eq_true] at h
    exact .fn f _ _ us vs (by rw [renL_length]; exact h1) (el h.1 ih1) (by rw [renL_length]; exact h3) (el h.2 ih2)
def injQ (ρ : Nat → Nat) (ids : List Nat) : Bool := ids.all fun i => ids.all fun j => Nat.beq i j || !Nat.beq (ρ i) (ρ j)
theorem injQ_spec {ρ : Nat → Nat} {ids : List Nat} (h : injQ ρ ids = true) {i j : Nat} (hi : i ∈ ids) (hj : j ∈ ids) (he : ρ i = ρ j) : i = j := by
  have := List.all_eq_true.1 (List.all_eq_true.1 h i hi) j hj
  rcases (Bool.or_eq_true _ _).mp this with h1 | h1
  · exact Nat.eq_of_beq_eq_true h1
  · rw [he] at h1; simp at h1
theorem hget_renH {ρ : Nat → Nat} : ∀ {h : Heap} {ids : List Nat}, (∀ i ∈ hids h, i ∈ ids) → (∀ i ∈ ids, ∀ j ∈ ids, ρ i = ρ j → i = j) → ∀ i ∈ ids, hget (renH ρ h) (ρ i) = (hget h i).map (renC ρ)
  | [], ids, _, _, i, _ => rfl
  | (j, c) :: r, ids, hs, hinj, i, hi => by
    rw [renH, hget_cons, hget_cons]
    by_cases e : j = i
    · subst e; simp
    · rw [if_neg e, if_neg (fun e2 => e (hinj j (hs j (by simp [hids])) i hi e2))]
      exact hget_renH (fun k hk => hs k (by simp only [hids, List.map_cons, List.mem_cons]; exact .inr hk)) hinj i hi
theorem hget_renH_inv {ρ : Nat → Nat} : ∀ {h : Heap} {k : Nat} {c : Chunk}, hget (renH ρ h) k = some c → ∃ i ∈ hids h, ρ i = k
  | [], k, c, hc => by cases hc
  | (j, d) :: r, k, c, hc => by
    rw [renH, hget_cons] at hc
    split at hc
    · rename_i e; exact ⟨j, by simp [hids], e⟩
    · obtain ⟨i, hi, e⟩ := hget_renH_inv hc
      exact ⟨i, by simp only [hids, List.map_cons, List.mem_cons]; exact .inr hi, e⟩
def rowsR (ρ : Nat → Nat) : List Nat → List Nat
  | [] => []
  | i :: r => bif Nat.ble 5 i then ρ i :: rowsR ρ r else rowsR ρ r
theorem mem_rowsR {ρ : Nat → Nat} : ∀ {ids : List Nat} {i : Nat}, i ∈ ids → 5 ≤ i → ρ i ∈ rowsR ρ ids
  | j :: r, i, hi, h5 => by
    rw [rowsR]
    rcases List.mem_cons.1 hi with rfl | hi
    · rw [Nat.ble_eq.mpr h5]; simp
    · have := mem_rowsR (ρ := ρ) hi h5
      cases Nat.ble 5 j
      · exact this
      · exact List.mem_cons_of_mem _ this
section
variable {P : Program} {n : Md} {Q : Exit → Slots → Heap → Prop} {s : Slots} {h : Heap} {ops : Array Oper} {rest : List Oper} {o : Oper} {K : Slots → Prop}
def FnH (P : Program) (f : FuncId) (args : List AV) (hin : Heap) (R : AV → Heap → Prop) : Prop :=
  Entered P f ∧ ∀ (may : List (Nat × Nat)) (pin : List (Nat × Value)) (σ : Sig) (ι : Nat → Value) (w : World) (vs : List Value), Rel ⟨w, σ, may, pin, []⟩ σ ι hin w → L2 (VR σ ι) args vs →
    Calls P f vs.toArray w (fun e w' => ∃ u r h' σ' ι', e = .returned u ∧ R r h' ∧ VR σ' ι' r u ∧ Rel ⟨w, σ, may, pin, []⟩ σ' ι' h' w')
theorem fnhb {f : FuncId} {fn : Func} {c : Code} {args : List AV} {hin : Heap} {R : AV → Heap → Prop} (hf : P.funcs[f]? = some fn) (he : Entered P f) (hb : fn.body = some c) (hl : Nat.ble args.length fn.ntmps = true)
    (hwp : W P { n := fn.ntmps } c (RetQ P fn.results.toList R) (slots0 args 0) hin) : FnH P f args hin R :=
  ⟨he, fun may pin σ ι w vs hr hv => wp_body hf hb (Nat.ble_eq ▸ hl) hwp.out hr hv⟩
theorem FnH.mono {f : FuncId} {args : List AV} {hin : Heap} {R R' : AV → Heap → Prop} (hf : FnH P f args hin R) (hm : ∀ r h, R r h → R' r h) : FnH P f args hin R' :=
  ⟨hf.1, fun may pin σ ι w vs hr hv => (hf.2 may pin σ ι w vs hr hv).mono fun e w' ⟨u, r, h', σ', ι', h1, h2, h3, h4⟩ => ⟨u, r, h', σ', ι', h1, hm _ _ h2, h3, h4⟩⟩
def lowQ (ids : List Nat) : Bool := ids.all fun i => Nat.blt i 10 || Nat.ble 100 i
theorem lowQ_spec {ids : List Nat} (h : lowQ ids = true) : ∀ i ∈ ids, i < 10 ∨ 100 ≤ i := fun i hi => by
  have := List.all_eq_true.1 h i hi
  rw [Bool.or_eq_true] at this
  exact this.imp (fun q => by simpa [Nat.blt_eq] using q) (fun q => Nat.ble_eq ▸ q)
theorem zcall (ρ : Nat → Nat) {f : FuncId} {args : List AV} {hin : Heap} {R : AV → Heap → Prop} (hf : FnH P f args hin R) (hg : o.guard = none) (hc : callA s o = some (f, renL ρ args)) (hsub : LeH h (renH ρ hin)) (hlow : lowQ (hids hin) = true) (hinj : injQ ρ (hids hin) = true)
    (hrow : (rowsR ρ (hids hin)).all (Nat.ble 5) = true) (hlone : loneL (rowsR ρ (hids hin)) (hdelL ((hids hin).map ρ) h) = true) (hco : constsOk o = true) (hdo : dstOk n o.dst = true)
    (hk : ∀ r h', R r h' → closedA (hids hin) r = true ∧ closedH (hids hin) h' = true ∧ O P n ops Q rest (putS (killL (rowsR ρ (hids hin)) s) o.dst (ren ρ r)) (renH ρ h' ++ hdelL ((hids hin).map ρ) h)) : O P n ops Q (o :: rest) s h := by
  refine ⟨aops_one hg fun E σ ι a w hr ht => ?_⟩
  have hx : ∀ x ∈ o.op.operands.toList, VR σ ι (evA s x) (a.eval x) := fun x hx => evA_sound (List.all_eq_true.1 hco x hx) fun t _ => ht.at_ t
  obtain ⟨vs, h1, h2⟩ := callA_spec (P := P) (w := w) hc hf.1 hx
  unfold Oper.wp
  rw [h1, Oper.upon_enter]
  have hinj' : ∀ i ∈ hids hin, ∀ j ∈ hids hin, ρ i = ρ j → i = j := fun i hi j hj e => injQ_spec hinj hi hj e
  have hlt : ∀ i ∈ hids hin, i < 10 ∨ 100 ≤ i := lowQ_spec hlow
  have hin1 : ∀ i c, hget hin i = some c → hget h (ρ i) = some (renC ρ c) := fun i c hc => hsub (ρ i) _ (by rw [hget_renH (fun _ h => h) hinj' i (hget_ids hc), hc]; rfl)
  have h2' : L2 (VR σ (fun i => ι (ρ i))) args vs := ⟨by rw [← renL_length ρ args]; exact h2.1, fun j c v hc hv => (h2.2 j (ren ρ c) v (by rw [renL_get, hc]; rfl) hv).unren c rfl⟩
  let may := (hids hin).flatMap fun i => (feetL (ι (ρ i))).map fun g => (i, g)
  let pin := ((hids hin).filter (· < 5)).map fun i => (i, ι (ρ i))
  have hmay : ∀ i g, (i, g) ∈ may ↔ i ∈ hids hin ∧ Feet (ι (ρ i)) g := fun i g => by
    simp only [may, List.mem_flatMap, List.mem_map, Prod.mk.injEq]
    constructor
    · rintro ⟨j, hj, g', h6, rfl, rfl⟩; exact ⟨hj, mem_feetL.1 h6⟩
    · rintro ⟨hj, h6⟩; exact ⟨i, hj, g, mem_feetL.2 h6, rfl, rfl⟩
  have hr1 : Rel ⟨w, σ, may, pin, []⟩ σ (fun i => ι (ρ i)) hin w := by
    refine ⟨rfl, rfl, rfl, Nat.le_refl _, fun _ _ _ => rfl, fun _ _ => rfl, hr.sub, fun i c hc => ?_, fun i c hc g hg => ⟨.inl ((hmay i g).2 ⟨hget_ids hc, hg⟩), (hr.foot (ρ i) _ (hin1 i c hc) g hg).2⟩,
      fun i j c d hc hd g hi hj => hinj' i (hget_ids hc) j (hget_ids hd) (hr.dj (ρ i) (ρ j) _ _ (hin1 i c hc) (hin1 j d hd) g hi hj), fun p hp => ?_, fun p hp => ?_, fun p hp => (by cases hp)⟩
    · have h6 := hr.ch (ρ i) _ (hin1 i c hc)
      cases c with
      | blk ty cs =>
        obtain ⟨g, cur, k1, k2, k3⟩ := h6
        exact ⟨g, cur, k1, k2, by rw [← renL_length ρ cs]; exact k3.1, fun j x y a b => (k3.2 j (ren ρ x) y (by rw [renL_get, a]; rfl) b).unren x rfl⟩
      | row e sz xs => exact h6
      | sem c => exact h6
    · obtain ⟨i, hi, rfl⟩ := List.mem_map.1 hp
      exact ⟨by simpa using (List.mem_filter.1 hi).2, rfl⟩
    · obtain ⟨i, g⟩ := p
      exact hlt i ((hmay i g).1 hp).1
  refine (hf.2 may pin σ _ w vs hr1 h2').mono ?_
  rintro e w' ⟨u, r, h', σ', ι', rfl, h3, h4, h5⟩
  obtain ⟨c1, c2, c3⟩ := hk r h' h3
  have hle : Sig.le σ σ' := fun a v ha => by rw [h5.sigOld a (hr.sig_lt ha)]; exact ha
  have hkeep : ∀ g, g < w.heap.size → (∀ i ∈ hids hin, ¬ Feet (ι (ρ i)) g) → w'.heap[g]? = w.heap[g]? := fun g hg hne => h5.old g hg fun i hm => hne i ((hmay i g).1 hm).1 ((hmay i g).1 hm).2
  have hinget : ∀ i ∈ hids hin, ∃ c, hget hin i = some c := by
    intro i hi
    have : ∀ (l : Heap), i ∈ hids l → ∃ c, hget l i = some c := by
      intro l
      induction l with
      | nil => intro h; cases h
      | cons p r ih =>
        intro hm
        obtain ⟨j, d⟩ := p
        rw [hget_cons]
        by_cases hj : j = i
        · exact ⟨d, by rw [if_pos hj]⟩
        · rw [if_neg hj]
          exact ih (by simp only [hids, List.map_cons, List.mem_cons] at hm; rcases hm with rfl | hm; exact absurd rfl hj; exact hm)
    exact this hin hi
  let inv : Nat → Nat := fun k => ((hids hin).find? (fun i => Nat.beq (ρ i) k)).getD 0
  have hinv : ∀ i ∈ hids hin, inv (ρ i) = i := fun i hi => by
    show ((hids hin).find? (fun j => Nat.beq (ρ j) (ρ i))).getD 0 = i
    cases hq : (hids hin).find? (fun j => Nat.beq (ρ j) (ρ i)) with
    | none => have := List.find?_eq_none.1 hq i hi; simp at this
    | some j =>
      have hb := List.find?_some hq
      exact hinj' j (List.mem_of_find?_eq_some hq) i hi (Nat.eq_of_beq_eq_true hb)
  let ι2 : Nat → Value := fun k => if k ∈ (hids hin).map ρ then ι' (inv k) else ι k
  have e2 : ∀ i ∈ hids hin, ι' i = ι2 (ρ i) := fun i hi => by simp only [ι2, if_pos (List.mem_map_of_mem hi), hinv i hi]
  have e3 : ∀ k, k ∉ (hids hin).map ρ → ι k = ι2 k := fun i hi => by simp only [ι2, if_neg hi]
  have e5 : ∀ i ∈ hids hin, i < 5 → ι (ρ i) = ι2 (ρ i) := fun i hi h5' => by
    rw [← e2 i hi]
    exact (h5.pin (i, ι (ρ i)) (List.mem_map.2 ⟨i, List.mem_filter.2 ⟨hi, by simpa using h5'⟩, rfl⟩)).2.symm
  have hdrop : ∀ k c, hget (hdelL ((hids hin).map ρ) h) k = some c → k ∉ (hids hin).map ρ ∧ hget h k = some c := fun i c hc => by
    rw [hget_hdelL] at hc
    split at hc
    · cases hc
    · exact ⟨by assumption, hc⟩
  have hsub' : ∀ i ∈ hids h', i ∈ hids hin := by
    have : ∀ (l : Heap), closedH (hids hin) l = true → ∀ i ∈ hids l, i ∈ hids hin := by
      intro l
      induction l with
      | nil => intro _ i hi; cases hi
      | cons p r ih =>
        intro hcl i hi
        obtain ⟨j, d⟩ := p
        have hj : (hids hin).any (Nat.beq j) = true ∧ closedH (hids hin) r = true := by
          cases d with
          | blk ty cs => simp only [closedH, Bool.and_eq_true] at hcl; exact ⟨hcl.1.1, hcl.2⟩
          | row e sz xs => simp only [closedH, Bool.and_eq_true] at hcl; exact hcl
          | sem c => simp only [closedH, Bool.and_eq_true] at hcl; exact hcl
        simp only [hids, List.map_cons, List.mem_cons] at hi
        rcases hi with rfl | hi
        · obtain ⟨k, hk, hb⟩ := List.any_eq_true.1 hj.1
          rw [Nat.eq_of_beq_eq_true hb]; exact hk
        · exact ih hj.2 i hi
    exact this h' c2
  have hh : ∀ k c, hget (renH ρ h' ++ hdelL ((hids hin).map ρ) h) k = some c → (∃ i d, k = ρ i ∧ i ∈ hids hin ∧ hget h' i = some d ∧ c = renC ρ d) ∨ (k ∉ (hids hin).map ρ ∧ hget h k = some c) := fun k c hc => by
    rw [hget_append] at hc
    split at hc
    · rename_i d hd; cases hc
      obtain ⟨i, hi, rfl⟩ := hget_renH_inv hd
      rw [hget_renH hsub' hinj' i (hsub' i hi)] at hd
      obtain ⟨d0, h6, rfl⟩ := Option.map_eq_some_iff.1 hd
      exact .inl ⟨i, d0, rfl, hsub' i hi, h6, rfl⟩
    · exact .inr (hdrop k c hc)
  have hfar : ∀ k c, k ∉ (hids hin).map ρ → hget h k = some c → ∀ g, Feet (ι k) g → ∀ j ∈ hids hin, ¬ Feet (ι (ρ j)) g := fun k c hk hc g hg j hj e => by
    obtain ⟨d, hd⟩ := hinget j hj
    exact hk (hr.dj k (ρ j) c _ hc (hin1 j d hd) g hg e ▸ List.mem_map_of_mem hj)
  have hf1 : ∀ i c, hget h' i = some c → ∀ g, Feet (ι' i) g → (i ∈ hids hin ∧ Feet (ι (ρ i)) g) ∨ w.heap.size ≤ g := fun i c hc g hg => by
    rcases (h5.foot i c hc g hg).1 with h6 | h6
    · exact .inl ((hmay i g).1 h6)
    · exact .inr h6
  have hnew : Rel E σ' ι2 (renH ρ h' ++ hdelL ((hids hin).map ρ) h) w' := by
    refine ⟨h5.os.trans hr.os, h5.tape.trans hr.tape, h5.output.trans hr.output, Nat.le_trans hr.size h5.size, ?_, ?_, h5.sub, ?_, ?_, ?_, ?_, hr.low, ?_⟩
    · intro b hb hm
      rw [hkeep b (Nat.lt_of_lt_of_le hb hr.size) fun i hi e => by
        obtain ⟨c, hc⟩ := hinget i hi
        rcases (hr.foot (ρ i) _ (hin1 i c hc) b e).1 with h6 | h6
        · exact hm _ h6
        · omega]
      exact hr.old b hb hm
    · intro a ha
      rw [h5.sigOld a (Nat.lt_of_lt_of_le ha hr.size)]; exact hr.sigOld a ha
    · intro k c hc
      rcases hh k c hc with ⟨i, d, rfl, h7, h6, rfl⟩ | ⟨h6, h7⟩
      · have h8 := h5.ch i d h6
        have h9 := (closedH_get c2 i d h6).2
        cases d with
        | blk ty cs =>
          obtain ⟨g, cur, k1, k2, k3⟩ := h8
          refine ⟨g, cur, by rw [← e2 i h7]; exact k1, k2, by rw [renL_length]; exact k3.1, fun j x y a b => ?_⟩
          rw [renL_get] at a
          cases hq : cs[j]? with
          | none => rw [hq] at a; cases a
          | some q => rw [hq] at a; cases a; exact (k3.2 j q y hq b).reren e2 (closedL_get h9 j q hq)
        | row e sz xs =>
          obtain ⟨k0, k1, vs, k2, k3⟩ := h8
          exact ⟨k0, k1, vs, by rw [← e2 i h7]; exact k2, k3⟩
        | sem c => show c.rel _ _ _; rw [← e2 i h7]; exact h8
      · have h8 := (hr.ch k c h7).keep hle fun g hg => hkeep g (hr.foot_lt h7 hg) (hfar k c h6 h7 g hg)
        cases c with
        | blk ty cs =>
          obtain ⟨g, cur, k1, k2, k3⟩ := h8
          refine ⟨g, cur, by rw [← e3 k h6]; exact k1, k2, k3.1, fun j x y a b => (k3.2 j x y a b).same fun m hm => ?_⟩
          by_cases hmm : m ∈ (hids hin).map ρ
          · obtain ⟨i, hi, rfl⟩ := List.mem_map.1 hmm
            by_cases hk5 : i < 5
            · exact e5 i hi hk5
            · have h9 := loneH_get (List.all_eq_true.1 hlone (ρ i) (mem_rowsR hi (by omega))) k (.blk ty cs) (by rw [hget_hdelL, if_neg h6]; exact h7)
              rw [hasIdL_get h9 j x a] at hm; cases hm
          · exact e3 m hmm
        | row e sz xs =>
          obtain ⟨k0, k1, vs, k2, k3⟩ := h8
          exact ⟨k0, k1, vs, by rw [← e3 k h6]; exact k2, k3⟩
        | sem c => show c.rel _ _ _; rw [← e3 k h6]; exact h8
    · intro k c hc g hg
      rcases hh k c hc with ⟨i, d, rfl, h7, h6, rfl⟩ | ⟨h6, h7⟩
      · rw [← e2 i h7] at hg
        refine ⟨?_, (h5.foot i d h6 g hg).2⟩
        rcases hf1 i d h6 g hg with ⟨hj, hfj⟩ | hge
        · obtain ⟨d0, hd0⟩ := hinget i hj
          exact (hr.foot (ρ i) _ (hin1 i d0 hd0) g hfj).1
        · exact .inr (Nat.le_trans hr.size hge)
      · rw [← e3 k h6] at hg
        obtain ⟨h8, h9⟩ := hr.foot k c h7 g hg
        exact ⟨h8, fun o => by rw [h5.sigOld _ (hr.foot_lt h7 hg)]; exact h9 o⟩
    · have cross : ∀ i k c d, hget h' i = some c → k ∉ (hids hin).map ρ → hget h k = some d → ∀ g, Feet (ι' i) g → Feet (ι k) g → False := fun i k c d h6 h8 h9 g hg hg2 => by
        rcases hf1 i c h6 g hg with ⟨hk, hfk⟩ | hge
        · exact hfar k d h8 h9 g hg2 i hk hfk
        · have := hr.foot_lt h9 hg2; omega
      intro k l c d hc hd g hi hj
      rcases hh k c hc with ⟨i, c0, rfl, h7, h6, rfl⟩ | ⟨h6, h7⟩
      · rw [← e2 i h7] at hi
        rcases hh l d hd with ⟨j, d0, rfl, h9, h8, rfl⟩ | ⟨h8, h9⟩
        · rw [← e2 j h9] at hj
          rw [h5.dj i j c0 d0 h6 h8 g hi hj]
        · rw [← e3 l h8] at hj
          exact (cross i l c0 d h6 h8 h9 g hi hj).elim
      · rw [← e3 k h6] at hi
        rcases hh l d hd with ⟨j, d0, rfl, h9, h8, rfl⟩ | ⟨h8, h9⟩
        · rw [← e2 j h9] at hj
          exact (cross j k d0 c h8 h6 h7 g hj hi).elim
        · rw [← e3 l h8] at hj
          exact hr.dj k l c d h7 h9 g hi hj
    · intro p hp
      obtain ⟨h6, h7⟩ := hr.pin p hp
      refine ⟨h6, ?_⟩
      by_cases hm : p.1 ∈ (hids hin).map ρ
      · obtain ⟨i, hi, e⟩ := List.mem_map.1 hm
        rw [← e]
        by_cases hi5 : i < 5
        · rw [← e5 i hi hi5, e]; exact h7
        · have h8 := List.all_eq_true.1 hrow (ρ i) (mem_rowsR hi (by omega))
          rw [e] at h8
          have := Nat.ble_eq ▸ h8
          omega
      · rw [← e3 p.1 hm]; exact h7
    · intro p hp
      obtain ⟨h6, h7, h8⟩ := hr.xo p hp
      have hlt2 := (Array.getElem?_eq_some_iff.1 h7).1
      refine ⟨h6, (hkeep p.1 hlt2 fun i hi e => ?_).trans h7, fun k c hc e => ?_⟩
      · obtain ⟨c, hc⟩ := hinget i hi
        exact h8 (ρ i) _ (hin1 i c hc) e
      · rcases hh k c hc with ⟨i, d, rfl, h9, h10, rfl⟩ | ⟨h9, h10⟩
        · rw [← e2 i h9] at e
          rcases hf1 i d h10 p.1 e with ⟨hj, hfj⟩ | hge
          · obtain ⟨d0, hd0⟩ := hinget i hj
            exact h8 (ρ i) _ (hin1 i d0 hd0) hfj
          · omega
        · rw [← e3 k h9] at e
          exact h8 k c h10 e
  have epin : ∀ k, k < 5 → ι2 k = ι k := fun k hk => by
    by_cases hm : k ∈ (hids hin).map ρ
    · obtain ⟨i, hi, e⟩ := List.mem_map.1 hm
      rw [← e]
      by_cases hi5 : i < 5
      · exact (e5 i hi hi5).symm
      · have h8 := List.all_eq_true.1 hrow (ρ i) (mem_rowsR hi (by omega))
        rw [e] at h8
        have := Nat.ble_eq ▸ h8
        omega
    · exact (e3 k hm).symm
  refine c3.out E σ' ι2 _ w' hnew (TR.putS ⟨ht.size, ⟨ht.defers.1, fun p hp => let ⟨h1, h2⟩ := ht.defers.2 p hp; ⟨h1, (epin _ h1).trans h2⟩⟩, fun t => ?_⟩ hdo (h4.reren e2 c1))
  rcases get_killL (rowsR ρ (hids hin)) s t with h6 | ⟨h6, h7⟩
  · rw [h6]; exact .base _ _ (.undef _)
  · rw [h6]
    refine ((ht.at_ t).mono hle).same fun k hk => ?_
    by_cases hm : k ∈ (hids hin).map ρ
    · obtain ⟨i, hi, rfl⟩ := List.mem_map.1 hm
      by_cases hk5 : i < 5
      · exact e5 i hi hk5
      · rw [h7 _ (mem_rowsR hi (by omega))] at hk; cases hk
    · exact e3 k hm
end
end Go.Proofs.Ytfjoaeghnfkdlaa
