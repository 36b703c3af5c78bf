import Derived.Test.YtmpnldmdchchjaaFi
import Derived.Deep.Slices
namespace Go.Ideal
open Go
theorem nr {α : Sort _} {a b : α} (h : a = b) : a = b := h
inductive Fr where
  | code (c : ICode)
  | blk (id : Nat)
section
variable (call : Caller) (fuel : Nat) (ar : Option Nat)
noncomputable def kont : List Fr → IExit × St → T (IExit × St)
  | [], p => .ret p
  | .code c :: K, (e, s) => match e with
    | .normal => (exec call fuel ar c s).bind (kont K)
    | e => kont K (e, s)
  | .blk id :: K, (e, s) => match e with
    | .exit j => kont K (if j = id then .normal else .exit j, s)
    | e => kont K (e, s)
noncomputable def X (c : ICode) (tm : List Value) (df : List Nat) (h : Heap) (K : List Fr) : T (IExit × St) := (exec call fuel ar c ⟨tm, df, h⟩).bind (kont call fuel ar K)
noncomputable def Y (ops : List IOper) (tm : List Value) (df : List Nat) (h : Heap) (K : List Fr) : T (IExit × St) := (execOps call ops tm h).bind fun p => kont call fuel ar K (.normal, ⟨p.1, df, p.2⟩)
noncomputable def Z (x : T (Value × Heap)) (d : Option Nat) (r : List IOper) (tm : List Value) (df : List Nat) (K : List Fr) : T (IExit × St) := x.bind fun p => Y call fuel ar r (putDst tm d p.1) df p.2 K
noncomputable def ZO (x : Option Value) (d : Option Nat) (r : List IOper) (tm : List Value) (df : List Nat) (h : Heap) (K : List Fr) : T (IExit × St) := match x with
  | some v => Y call fuel ar r (putDst tm d v) df h K
  | none => .fail
noncomputable def ZH (x : Option Heap) (v : Value) (d : Option Nat) (r : List IOper) (tm : List Value) (df : List Nat) (K : List Fr) : T (IExit × St) := match x with
  | some h => Y call fuel ar r (putDst tm d v) df h K
  | none => .fail
noncomputable def ZP (x : Option (Value × Heap)) (d : Option Nat) (r : List IOper) (tm : List Value) (df : List Nat) (K : List Fr) : T (IExit × St) := match x with
  | some p => Y call fuel ar r (putDst tm d p.1) df p.2 K
  | none => .fail
noncomputable def CDK (v : Value) (t e : ICode) (tm : List Value) (df : List Nat) (h : Heap) (K : List Fr) : T (IExit × St) := match v with
  | .bool b => if b = true then X call fuel ar t tm df h K else X call fuel ar e tm df h K
  | _ => .fail
noncomputable def GK (v : Value) (t : Nat) (g : Bool) (o : IOper) (r : List IOper) (tm : List Value) (df : List Nat) (h : Heap) (K : List Fr) : T (IExit × St) := match v with
  | .bool c => if c = g then Y call fuel ar (o :: r) (tm.set t (.bool g)) df h K else Y call fuel ar r (putDst (tm.set t (.bool !g)) o.dst undefV) df h K
  | _ => Y call fuel ar r (putDst tm o.dst undefV) df h K
noncomputable def L (b : ICode) (tm : List Value) (df : List Nat) (h : Heap) (K : List Fr) : T (IExit × St) := (iter (exec call fuel ar b) fuel ⟨tm, df, h⟩).bind (kont call fuel ar K)
end
theorem T.bind_assoc {α β γ : Type} (x : T α) (f : α → T β) (g : β → T γ) : (x.bind f).bind g = x.bind fun a => (f a).bind g := by
  induction x with
  | ret a => rfl
  | fail => rfl
  | ask n k ih => simp only [T.bind, ih]
section
variable {call : Caller} {fuel : Nat} {ar : Option Nat} {tm : List Value} {df : List Nat} {h : Heap} {K : List Fr} {r : List IOper} {d : Option Nat} {anc : List Nat} {bar : Bool}
theorem exec_X (c : ICode) : exec call fuel ar c ⟨tm, df, h⟩ = X call fuel ar c tm df h [] := by
  unfold X
  have : ∀ x : T (IExit × St), x.bind (kont call fuel ar []) = x := by
    intro x; induction x with
    | ret a => obtain ⟨e, s⟩ := a; rfl
    | fail => rfl
    | ask n k ih => simp only [T.bind, ih]
  rw [this]
theorem kont_nil (p : IExit × St) : kont call fuel ar [] p = .ret p := by unfold kont; rfl
theorem kont_code (c : ICode) : kont call fuel ar (.code c :: K) (.normal, ⟨tm, df, h⟩) = X call fuel ar c tm df h K := by rw [kont]; rfl
theorem kont_code_exit (c : ICode) (j : Nat) (s : St) : kont call fuel ar (.code c :: K) (.exit j, s) = kont call fuel ar K (.exit j, s) := by rw [kont]; intro h; cases h
theorem kont_code_ret (c : ICode) (s : St) : kont call fuel ar (.code c :: K) (.ret, s) = kont call fuel ar K (.ret, s) := by rw [kont]; intro h; cases h
theorem kont_blk (id : Nat) (s : St) : kont call fuel ar (.blk id :: K) (.normal, s) = kont call fuel ar K (.normal, s) := by rw [kont]; intro j h; cases h
theorem kont_blk_ret (id : Nat) (s : St) : kont call fuel ar (.blk id :: K) (.ret, s) = kont call fuel ar K (.ret, s) := by rw [kont]; intro j h; cases h
theorem kont_blk_exit (id : Nat) (s : St) : kont call fuel ar (.blk id :: K) (.exit id, s) = kont call fuel ar K (.normal, s) := by rw [kont]; simp
theorem kont_blk_other (id j : Nat) (s : St) (hj : j ≠ id) : kont call fuel ar (.blk id :: K) (.exit j, s) = kont call fuel ar K (.exit j, s) := by rw [kont]; simp [hj]
theorem X_skip : X call fuel ar .skip tm df h K = kont call fuel ar K (.normal, ⟨tm, df, h⟩) := nr rfl
theorem X_ret : X call fuel ar .ret tm df h K = kont call fuel ar K (.ret, ⟨tm, df, h⟩) := nr rfl
theorem X_exit (id : Nat) : X call fuel ar (.exit id) tm df h K = kont call fuel ar K (.exit id, ⟨tm, df, h⟩) := nr rfl
theorem X_region (ops : List IOper) : X call fuel ar (.region ops) tm df h K = Y call fuel ar ops tm df h K := by
  unfold X Y
  simp only [exec, T.bind_assoc]
  rfl
theorem X_seq (a b : ICode) : X call fuel ar (.seq a b) tm df h K = X call fuel ar a tm df h (.code b :: K) := by
  unfold X
  simp only [exec, T.bind_assoc]
  congr 1
  funext p
  obtain ⟨e, s⟩ := p
  cases e <;> simp [kont, T.bind]
theorem X_block (id : Nat) (b : ICode) : X call fuel ar (.block id b) tm df h K = X call fuel ar b tm df h (.blk id :: K) := by
  unfold X
  simp only [exec, T.bind_assoc]
  congr 1
  funext p
  obtain ⟨e, s⟩ := p
  cases e <;> simp [kont, T.bind]
theorem X_loop (b : ICode) : X call fuel ar (.loop b) tm df h K = L call fuel ar b tm df h K := by
  unfold X L
  simp only [exec]
theorem X_cond (c : Opd) (t e : ICode) : X call fuel ar (.cond c t e) tm df h K = CDK call fuel ar (c.eval tm) t e tm df h K := by
  unfold X CDK
  simp only [exec]
  cases c.eval tm <;> try rfl
  rename_i b
  cases b <;> rfl
theorem CK_bool (b : Bool) (t e : ICode) : CDK call fuel ar (.bool b) t e tm df h K = if b = true then X call fuel ar t tm df h K else X call fuel ar e tm df h K := nr rfl
theorem GK_bool (c g : Bool) (t : Nat) (o : IOper) : GK call fuel ar (.bool c) t g o r tm df h K = if c = g then Y call fuel ar (o :: r) (tm.set t (.bool g)) df h K else Y call fuel ar r (putDst (tm.set t (.bool !g)) o.dst undefV) df h K := nr rfl
theorem GK_tt (t : Nat) (o : IOper) : GK call fuel ar (.bool true) t true o r tm df h K = Y call fuel ar (o :: r) (tm.set t (.bool true)) df h K := nr rfl
theorem GK_tf (t : Nat) (o : IOper) : GK call fuel ar (.bool true) t false o r tm df h K = Y call fuel ar r (putDst (tm.set t (.bool true)) o.dst undefV) df h K := nr rfl
theorem GK_ft (t : Nat) (o : IOper) : GK call fuel ar (.bool false) t true o r tm df h K = Y call fuel ar r (putDst (tm.set t (.bool false)) o.dst undefV) df h K := nr rfl
theorem GK_ff (t : Nat) (o : IOper) : GK call fuel ar (.bool false) t false o r tm df h K = Y call fuel ar (o :: r) (tm.set t (.bool false)) df h K := nr rfl
theorem GK_undef (t : Nat) (g : Bool) (o : IOper) : GK call fuel ar undefV t g o r tm df h K = Y call fuel ar r (putDst tm o.dst undefV) df h K := nr rfl
theorem Y_nil : Y call fuel ar [] tm df h K = kont call fuel ar K (.normal, ⟨tm, df, h⟩) := nr rfl
theorem Y_op (op : IOp) : Y call fuel ar (⟨d, op, none, anc, bar⟩ :: r) tm df h K = Z call fuel ar (op.exec call tm h) d r tm df K := by
  unfold Y Z
  simp only [execOps, wants, if_true, T.bind_assoc]
  rfl
theorem Y_guard (op : IOp) (t : Nat) (g : Bool) : Y call fuel ar (⟨d, op, some (t, g), anc, bar⟩ :: r) tm df h K = GK call fuel ar (tm.getD t undefV) t g ⟨d, op, none, anc, bar⟩ r tm df h K := by
  have e1 : tm.getD t undefV = (tm[t]?).getD undefV := by simp [List.getD_eq_getElem?_getD]
  rw [e1]
  cases ht : tm[t]? with
  | none => simp [Y, GK, execOps, wants, ht, undefV]
  | some v =>
    cases v
    case bool c =>
      have hs : tm.set t (.bool c) = tm := by
        obtain ⟨hl, he⟩ := List.getElem?_eq_some_iff.1 ht
        rw [← he]; exact List.set_getElem_self hl
      simp only [GK, Option.getD_some]
      cases c <;> cases g <;> simp only [if_true, reduceCtorEq, if_false, Bool.not_true, Bool.not_false, hs, Y, execOps, wants, ht, beq_self_eq_true] <;> rfl
    all_goals simp [Y, GK, execOps, wants, ht]
theorem Z_ret (v : Value) (h' : Heap) : Z call fuel ar (.ret (v, h')) d r tm df K = Y call fuel ar r (putDst tm d v) df h' K := nr rfl
theorem Z_opt (x : Option Value) : Z call fuel ar (.ofOpt (x.map fun v => (v, h))) d r tm df K = ZO call fuel ar x d r tm df h K := by cases x <;> rfl
theorem ZO_some (v : Value) : ZO call fuel ar (some v) d r tm df h K = Y call fuel ar r (putDst tm d v) df h K := nr rfl
theorem ZH_some (v : Value) : ZH call fuel ar (some h) v d r tm df K = Y call fuel ar r (putDst tm d v) df h K := nr rfl
theorem ZP_some (v : Value) : ZP call fuel ar (some (v, h)) d r tm df K = Y call fuel ar r (putDst tm d v) df h K := nr rfl
theorem Y_move (x : Opd) : Y call fuel ar (⟨d, .move x, none, anc, bar⟩ :: r) tm df h K = Y call fuel ar r (putDst tm d (x.eval tm)) df h K := (Y_op _).trans (rfl)
theorem Y_box (x : Opd) : Y call fuel ar (⟨d, .box x, none, anc, bar⟩ :: r) tm df h K = Y call fuel ar r (putDst tm d (.pointer (some ⟨2 * h.next, 0, none⟩))) df (h.alloc (.cells (cellsOf (x.eval tm)) 1 false)) K := (Y_op _).trans (rfl)
theorem Y_bin (op : BinOp) (x y : Opd) : Y call fuel ar (⟨d, .bin op x y, none, anc, bar⟩ :: r) tm df h K = ZO call fuel ar (ibin op (x.eval tm) (y.eval tm)) d r tm df h K := (Y_op _).trans (by exact Z_opt _)
theorem Y_un (op : UnOp) (x : Opd) : Y call fuel ar (⟨d, .un op x, none, anc, bar⟩ :: r) tm df h K = ZO call fuel ar (iun op (x.eval tm)) d r tm df h K := (Y_op _).trans (by exact Z_opt _)
theorem Y_call (f : Opd) (args : List Opd) : Y call fuel ar (⟨d, .call f args, none, anc, bar⟩ :: r) tm df h K = Z call fuel ar (call (f.eval tm) (args.map (Opd.eval tm)) h) d r tm df K := (Y_op _).trans (rfl)
theorem Y_func (fn : Fn) (fs cs : List Opd) : Y call fuel ar (⟨d, .func fn fs cs, none, anc, bar⟩ :: r) tm df h K = Y call fuel ar r (putDst tm d (.func fn (fs.map (Opd.eval tm)).toArray (cs.map (Opd.eval tm)).toArray)) df h K := (Y_op _).trans (rfl)
noncomputable def vPick (c a b : Value) : Option Value := match c with
  | .bool t => some (if t = true then a else b)
  | _ => none
theorem Y_pick (c a b : Opd) : Y call fuel ar (⟨d, .pick c a b, none, anc, bar⟩ :: r) tm df h K = ZO call fuel ar (vPick (c.eval tm) (a.eval tm) (b.eval tm)) d r tm df h K := (Y_op _).trans (by
  simp only [IOp.exec, IOp.run]; generalize c.eval tm = v; cases v <;> rfl)
noncomputable def vBuild (zero : List Value) (ps : List (Nat × Nat × Value)) : Option Value := match layAt zero ps with
  | some cs => some (.agg cs.toArray)
  | none => none
theorem Y_build (zero : List Value) (ps : List (Nat × Nat × Opd)) : Y call fuel ar (⟨d, .build zero ps, none, anc, bar⟩ :: r) tm df h K = ZO call fuel ar (vBuild zero (ps.map fun p => (p.1, p.2.1, p.2.2.eval tm))) d r tm df h K := (Y_op _).trans (by
  simp only [IOp.exec, IOp.run, vBuild]; cases layAt zero (ps.map fun p => (p.1, p.2.1, p.2.2.eval tm)) <;> rfl)
noncomputable def vLoad1 (h : Heap) (a : Value) : Option Value := match a with
  | .pointer (some p) => match h.read p 1 with
    | some [v] => some v
    | _ => none
  | _ => none
noncomputable def vLoadN (h : Heap) (n : Nat) (a : Value) : Option Value := match a with
  | .pointer (some p) => match h.read p n with
    | some cs => some (.agg cs.toArray)
    | none => none
  | _ => none
theorem Y_load1 (a : Opd) : Y call fuel ar (⟨d, .load none a, none, anc, bar⟩ :: r) tm df h K = ZO call fuel ar (vLoad1 h (a.eval tm)) d r tm df h K := (Y_op _).trans (by
  simp only [IOp.exec, IOp.run]
  generalize Opd.eval tm a = v
  cases v <;> try rfl
  rename_i p
  cases p <;> try rfl
  rename_i p
  simp only [vLoad1]
  generalize h.read p 1 = o
  match o with | none => rfl | some [] => rfl | some [v] => rfl | some (a :: b :: c) => rfl)
theorem Y_loadN (n : Nat) (a : Opd) : Y call fuel ar (⟨d, .load (some n) a, none, anc, bar⟩ :: r) tm df h K = ZO call fuel ar (vLoadN h n (a.eval tm)) d r tm df h K := (Y_op _).trans (by
  simp only [IOp.exec, IOp.run]
  generalize Opd.eval tm a = v
  cases v <;> try rfl
  rename_i p
  cases p <;> try rfl
  rename_i p
  simp only [vLoadN]
  cases h.read p n <;> rfl)
noncomputable def vStore (h : Heap) (n : Nat) (a v : Value) : Option Heap := match a with
  | .pointer (some p) => if (cellsOf v).length = n then h.write p (cellsOf v) else none
  | _ => none
theorem Y_store (n : Nat) (a v : Opd) : Y call fuel ar (⟨d, .store n a v, none, anc, bar⟩ :: r) tm df h K = ZH call fuel ar (vStore h n (a.eval tm) (v.eval tm)) undefV d r tm df K := (Y_op _).trans (by
  simp only [IOp.exec, IOp.run]
  generalize Opd.eval tm a = w
  generalize Opd.eval tm v = u
  cases w <;> try rfl
  rename_i p
  cases p <;> try rfl
  rename_i p
  simp only [vStore]
  split
  · cases h.write p (cellsOf u) <;> rfl
  · rfl)
noncomputable def vNil (x : Value) : Option Value := match x with
    | .pointer (some a) => some (.pointer (some a))
    | .func (.func f) fs cs => some (.func (.func f) fs cs)
    | .func (.yield f) fs cs => some (.func (.yield f) fs cs)
    | _ => none
theorem Y_nilCheck (x : Opd) : Y call fuel ar (⟨d, .nilCheck x, none, anc, bar⟩ :: r) tm df h K = ZO call fuel ar (vNil (x.eval tm)) d r tm df h K := (Y_op _).trans (by
  simp only [IOp.exec, IOp.run]
  generalize x.eval tm = v
  cases v <;> try rfl
  · rename_i p; cases p <;> rfl
  · rename_i f _ _; cases f <;> rfl)
noncomputable def vEqAgg (neg : Bool) (ks : List CK) (x y : Value) : Option Value := (aggEq ks x y).map fun b => .bool (b != neg)
theorem Y_eqAgg (neg : Bool) (ks : List CK) (x y : Opd) : Y call fuel ar (⟨d, .eqAgg neg ks x y, none, anc, bar⟩ :: r) tm df h K = ZO call fuel ar (vEqAgg neg ks (x.eval tm) (y.eval tm)) d r tm df h K := (Y_op _).trans (by
  simp only [IOp.exec, IOp.run, vEqAgg]; cases aggEq ks (x.eval tm) (y.eval tm) <;> rfl)
noncomputable def vEqBool (neg : Bool) (x y : Value) : Option Value := match x, y with
  | .bool a, .bool b => some (.bool ((a == b) != neg))
  | _, _ => none
theorem Y_eqBool (neg : Bool) (x y : Opd) : Y call fuel ar (⟨d, .eqBool neg x y, none, anc, bar⟩ :: r) tm df h K = ZO call fuel ar (vEqBool neg (x.eval tm) (y.eval tm)) d r tm df h K := (Y_op _).trans (by
  simp only [IOp.exec, IOp.run]; generalize x.eval tm = v; generalize y.eval tm = w; cases v <;> cases w <;> rfl)
noncomputable def vEqPtr (neg : Bool) (x y : Value) : Option Value := match x, y with
    | .pointer none, .pointer b => some (.bool (b.isNone != neg))
    | .pointer (some _), .pointer none => some (.bool (false != neg))
    | _, _ => none
theorem Y_eqPtr (neg : Bool) (x y : Opd) : Y call fuel ar (⟨d, .eqPtr neg x y, none, anc, bar⟩ :: r) tm df h K = ZO call fuel ar (vEqPtr neg (x.eval tm) (y.eval tm)) d r tm df h K := (Y_op _).trans (by
  simp only [IOp.exec, IOp.run]; generalize x.eval tm = v; generalize y.eval tm = w
  cases v <;> try rfl
  rename_i p
  cases p <;> cases w <;> try rfl
  rename_i q
  cases q <;> rfl)
noncomputable def vConv (k : IntKind) (x : Value) : Option Value := match x with
    | .int _ n => some (.int k (k.wrap n))
    | _ => none
theorem Y_conv (k : IntKind) (x : Opd) : Y call fuel ar (⟨d, .conv k x, none, anc, bar⟩ :: r) tm df h K = ZO call fuel ar (vConv k (x.eval tm)) d r tm df h K := (Y_op _).trans (by
  simp only [IOp.exec, IOp.run]; generalize x.eval tm = v; cases v <;> try rfl
  all_goals (rename_i p; cases p <;> rfl))
noncomputable def vFieldAddr (off : Nat) (x : Value) : Option Value := match x with
    | .pointer (some a) => some (.pointer (some { block := a.block, off := a.off + off }))
    | _ => none
theorem Y_fieldAddr (off : Nat) (x : Opd) : Y call fuel ar (⟨d, .fieldAddr off x, none, anc, bar⟩ :: r) tm df h K = ZO call fuel ar (vFieldAddr off (x.eval tm)) d r tm df h K := (Y_op _).trans (by
  simp only [IOp.exec, IOp.run]; generalize x.eval tm = v; cases v <;> try rfl
  all_goals (rename_i p; cases p <;> rfl))
noncomputable def vField1 (off : Nat) (x : Value) : Option Value := match x with
    | .agg cs => cs.toList[off]?
    | _ => none
noncomputable def vFieldN (off n : Nat) (x : Value) : Option Value := match x with
    | .agg cs => if off + n ≤ cs.size then some (.agg ((cs.toList.drop off).take n).toArray) else none
    | _ => none
theorem Y_field1 (off : Nat) (x : Opd) : Y call fuel ar (⟨d, .field off none x, none, anc, bar⟩ :: r) tm df h K = ZO call fuel ar (vField1 off (x.eval tm)) d r tm df h K := (Y_op _).trans (by
  simp only [IOp.exec, IOp.run]
  generalize Opd.eval tm x = w
  cases w <;> try rfl
  rename_i cs
  simp only [vField1]
  cases cs.toList[off]? <;> rfl)
theorem Y_fieldN (off n : Nat) (x : Opd) : Y call fuel ar (⟨d, .field off (some n) x, none, anc, bar⟩ :: r) tm df h K = ZO call fuel ar (vFieldN off n (x.eval tm)) d r tm df h K := (Y_op _).trans (by
  simp only [IOp.exec, IOp.run]; generalize x.eval tm = v; cases v <;> try rfl
  simp only [vFieldN]
  split <;> rfl)
noncomputable def vIndexAddr (z : Nat) (x i : Value) : Option Value := match x, i with
    | .slice (some a) len _, .int _ i => if 0 ≤ i ∧ i < len then some (.pointer (some { block := a.block, off := a.off + i.toNat * z })) else none
    | _, _ => none
theorem Y_indexAddr (z : Nat) (x i : Opd) : Y call fuel ar (⟨d, .indexAddr z x i, none, anc, bar⟩ :: r) tm df h K = ZO call fuel ar (vIndexAddr z (x.eval tm) (i.eval tm)) d r tm df h K := (Y_op _).trans (by
  simp only [IOp.exec, IOp.run]
  generalize x.eval tm = a
  generalize i.eval tm = b
  cases a <;> try (cases b <;> rfl)
  rename_i p _ _
  cases p <;> cases b <;> try rfl
  rename_i n _ _ _ k
  by_cases hc : 0 ≤ k ∧ k < (n : Int)
  · simp only [vIndexAddr, asInt?]; rw [if_pos hc, if_pos hc]; rfl
  · simp only [vIndexAddr, asInt?]; rw [if_neg hc, if_neg hc]; rfl)
noncomputable def vIndexAddrArr (n z : Nat) (x i : Value) : Option Value := match x, i with
    | .pointer (some a), .int _ i => if 0 ≤ i ∧ i < n then some (.pointer (some { block := a.block, off := a.off + i.toNat * z })) else none
    | _, _ => none
theorem Y_indexAddrArr (n z : Nat) (x i : Opd) : Y call fuel ar (⟨d, .indexAddrArr n z x i, none, anc, bar⟩ :: r) tm df h K = ZO call fuel ar (vIndexAddrArr n z (x.eval tm) (i.eval tm)) d r tm df h K := (Y_op _).trans (by
  simp only [IOp.exec, IOp.run]
  generalize x.eval tm = a
  generalize i.eval tm = b
  cases a <;> try (cases b <;> rfl)
  rename_i p
  cases p <;> cases b <;> try rfl
  rename_i q _ k
  by_cases hc : 0 ≤ k ∧ k < (n : Int)
  · simp only [vIndexAddrArr, asInt?]; rw [if_pos hc, if_pos hc]; rfl
  · simp only [vIndexAddrArr, asInt?]; rw [if_neg hc, if_neg hc]; rfl)
noncomputable def vExtract (i : Nat) (t : Value) : Option Value := match t with
    | .tuple vs => vs.toList[i]?
    | _ => none
theorem Y_extract (t : Opd) (i : Nat) : Y call fuel ar (⟨d, .extract t i, none, anc, bar⟩ :: r) tm df h K = ZO call fuel ar (vExtract i (t.eval tm)) d r tm df h K := (Y_op _).trans (by
  simp only [IOp.exec, IOp.run]
  generalize Opd.eval tm t = w
  cases w <;> try rfl
  rename_i cs
  simp only [vExtract]
  cases cs.toList[i]? <;> rfl)
noncomputable def vLenSlice (x : Value) : Option Value := match x with
    | .slice _ n _ => some (.int .i64 n)
    | _ => none
theorem Y_lenSlice (x : Opd) : Y call fuel ar (⟨d, .lenSlice x, none, anc, bar⟩ :: r) tm df h K = ZO call fuel ar (vLenSlice (x.eval tm)) d r tm df h K := (Y_op _).trans (by
  simp only [IOp.exec, IOp.run]; generalize x.eval tm = v; cases v <;> try rfl
  all_goals (rename_i p; cases p <;> rfl))
noncomputable def vMinmax (isMax : Bool) (l : List Value) : Option Value := match l with
    | .int k x :: r => match mostOf isMax k x r with
      | some a => some (.int k a)
      | none => none
    | _ => none
theorem Y_minmax (isMax : Bool) (l : List Opd) : Y call fuel ar (⟨d, .minmax isMax l, none, anc, bar⟩ :: r) tm df h K = ZO call fuel ar (vMinmax isMax (l.map (Opd.eval tm))) d r tm df h K := (Y_op _).trans (by
  simp only [IOp.exec, IOp.run]
  generalize l.map (Opd.eval tm) = v
  match v with
  | [] => rfl
  | v :: q =>
    cases v <;> try rfl
    rename_i k x
    simp only [vMinmax]
    cases mostOf isMax k x q <;> rfl)
theorem Y_append (z bytes : Nat) (s x : Opd) : Y call fuel ar (⟨d, .append z bytes s x, none, anc, bar⟩ :: r) tm df h K = ZP call fuel ar (iappend h z bytes (s.eval tm) (x.eval tm)) d r tm df K := (Y_op _).trans (by
  simp only [IOp.exec, IOp.run]; cases iappend h z bytes (s.eval tm) (x.eval tm) <;> rfl)
theorem Y_makeMap : Y call fuel ar (⟨d, .makeMap, none, anc, bar⟩ :: r) tm df h K = Y call fuel ar r (putDst tm d (.map (some (2 * h.next)))) df (h.alloc (.map [] 0)) K := (Y_op _).trans rfl
noncomputable def pBuildSlice (h : Heap) (z len : Nat) (zero : List Value) (ps : List (Nat × Nat × Value)) : Option (Value × Heap) := match layAt (List.replicate len zero).flatten ps with
  | some cs => some (.slice (some ⟨2 * h.next, 0, none⟩) len len, h.alloc (.cells cs z false))
  | none => none
theorem Y_buildSlice (z len : Nat) (zero : List Value) (ps : List (Nat × Opd)) : Y call fuel ar (⟨d, .buildSlice z len zero ps, none, anc, bar⟩ :: r) tm df h K = ZP call fuel ar (pBuildSlice h z len zero (ps.map fun p => (p.1 * z, z, p.2.eval tm))) d r tm df K := (Y_op _).trans (by
  simp only [IOp.exec, IOp.run, pBuildSlice]; cases layAt (List.replicate len zero).flatten (ps.map fun p => (p.1 * z, z, p.2.eval tm)) <;> rfl)
end
attribute [irreducible] X Y Z ZO ZH ZP CDK GK L kont
end Go.Ideal
namespace Go.Ideal
open Go
noncomputable def Heap.Fine (h : Heap) : Prop := h.floor ≤ h.next ∧ ∀ p ∈ h.hid, p.2 ≤ h.next
noncomputable def Heap.setB (h : Heap) (b : Nat) (o : IObj) : Heap := { h with mem := upd h.mem (b / 2) (some o) }
section
variable {h : Heap} {b b' : Nat} {o o' : IObj}
theorem alloc_next : (h.alloc o).next = h.next + 1 := nr rfl
theorem alloc_floor : (h.alloc o).floor = h.floor := nr rfl
theorem alloc_may : (h.alloc o).may = h.may := nr rfl
theorem alloc_hid : (h.alloc o).hid = h.hid := nr rfl
theorem alloc_ro : (h.alloc o).ro = h.ro := nr rfl
theorem setB_next : (h.setB b o).next = h.next := nr rfl
theorem setB_floor : (h.setB b o).floor = h.floor := nr rfl
theorem setB_may : (h.setB b o).may = h.may := nr rfl
theorem setB_hid : (h.setB b o).hid = h.hid := nr rfl
theorem setB_ro : (h.setB b o).ro = h.ro := nr rfl
theorem alloc_fine (hf : h.Fine) : (h.alloc o).Fine := ⟨Nat.le_succ_of_le hf.1, fun p hp => Nat.le_succ_of_le (hf.2 p hp)⟩
theorem setB_fine (hf : h.Fine) : (h.setB b o).Fine := hf
theorem look_upd_same : ∀ (l : List (Nat × Option IObj)) (n : Nat) (x : Option IObj), look (upd l n x) n = x
  | [], n, x => by simp [upd, look]
  | (k, y) :: r, n, x => by
    unfold upd
    split
    · rename_i e; simp [look, e]
    · rename_i e; simp [look, e, look_upd_same r n x]
theorem look_upd_other : ∀ (l : List (Nat × Option IObj)) (n m : Nat) (x : Option IObj), m ≠ n → look (upd l n x) m = look l m
  | [], n, m, x, hm => by simp [upd, look, Ne.symm hm]
  | (k, y) :: r, n, m, x, hm => by
    unfold upd
    split
    · rename_i e; subst e; simp [look, Ne.symm hm]
    · simp only [look, look_upd_other r n m x hm]
theorem get_alloc_new (hf : h.Fine) : (h.alloc o).get (2 * h.next) = some o := by
  have hh : hides h.hid h.next = false := by
    unfold hides
    rw [List.any_eq_false]
    intro p hp
    have := hf.2 p hp
    simp only [Bool.and_eq_true, decide_eq_true_eq, not_and]
    omega
  simp [Heap.get, Heap.own, Heap.alloc, look, hh]
theorem get_alloc_old (hb : b ≠ 2 * h.next) : (h.alloc o).get b = h.get b := by
  unfold Heap.get
  by_cases he : b % 2 = 1
  · simp [he, Heap.alloc]
  · have : ¬ h.next = b / 2 := by omega
    simp [he, Heap.own, Heap.alloc, look, this]
theorem get_setB_same (hb : b % 2 = 0) (hg : (h.get b).isSome) : (h.setB b o).get b = some o := by
  have h1 : ¬ b % 2 = 1 := by omega
  unfold Heap.get at hg ⊢
  simp only [h1, if_false] at hg ⊢
  unfold Heap.own at hg ⊢
  cases hh : hides h.hid (b / 2) with
  | true => simp [hh] at hg
  | false => simp [Heap.setB, hh, look_upd_same]
theorem get_setB_other (hb : b % 2 = 0) (hn : b' ≠ b) : (h.setB b o).get b' = h.get b' := by
  unfold Heap.get
  by_cases he : b' % 2 = 1
  · simp [he, Heap.setB]
  · have : b' / 2 ≠ b / 2 := by omega
    simp [he, Heap.own, Heap.setB, look_upd_other _ _ _ _ this]
noncomputable def readC (o : Option IObj) (off n : Nat) : Option (List Value) := match o with
  | some (.cells c _ _) => readN c off n
  | _ => none
theorem read_eq (off n : Nat) : h.read ⟨b, off, none⟩ n = readC (h.get b) off n := by
  unfold Heap.read readC
  simp only [Option.isNone_none, if_true]
  cases h.get b with
  | none => rfl
  | some o => cases o <;> rfl
theorem readC_cells (c : List Value) (z : Nat) (t : Bool) (off n : Nat) : readC (some (.cells c z t)) off n = readN c off n := nr rfl
noncomputable def canPut (h : Heap) (b : Nat) : Bool := decide (b % 2 = 0 ∧ (h.floor ≤ b / 2 ∨ b / 2 ∈ h.may))
noncomputable def writeC (o : Option IObj) (h : Heap) (b off : Nat) (vs : List Value) : Option Heap := match o with
  | some (.cells c z t) => if off + vs.length ≤ c.length ∧ vs.all oneCell = true ∧ canPut h b = true then some (h.setB b (.cells (setAt c off vs) z t)) else none
  | _ => none
theorem put_eq (o' : IObj) (hg : h.get b = some o) : h.put b (some o') = if canPut h b = true then some (h.setB b o') else none := by
  unfold Heap.put canPut
  by_cases he : b % 2 = 0
  · have h1 : ¬ b % 2 = 1 := by omega
    have : (h.own (b / 2)).isSome = true := by
      unfold Heap.get at hg
      rw [if_neg h1] at hg
      rw [hg]; rfl
    simp only [he, this, true_and, and_true, decide_eq_true_eq, Heap.setB]
  · simp [he]
theorem write_eq (off : Nat) (vs : List Value) : h.write ⟨b, off, none⟩ vs = writeC (h.get b) h b off vs := by
  unfold Heap.write writeC
  simp only [Option.isNone_none, true_and]
  cases hg : h.get b with
  | none => rfl
  | some o =>
    cases o <;> try rfl
    rename_i c z t
    simp only [put_eq _ hg]
    by_cases h1 : off + vs.length ≤ c.length <;> by_cases h2 : vs.all oneCell = true <;> by_cases h3 : canPut h b = true <;> simp [h1, h2, h3]
theorem writeC_cells (c : List Value) (z : Nat) (t : Bool) (off : Nat) (vs : List Value) : writeC (some (.cells c z t)) h b off vs = if off + vs.length ≤ c.length ∧ vs.all oneCell = true ∧ canPut h b = true then some (h.setB b (.cells (setAt c off vs) z t)) else none := nr rfl
theorem canPut_alloc : canPut (h.alloc o) b = canPut h b := nr rfl
theorem canPut_setB : canPut (h.setB b' o) b = canPut h b := nr rfl
theorem canPut_new (k : Nat) (hk : h.floor ≤ k) : canPut h (2 * k) = true := by
  simp only [canPut, decide_eq_true_eq]
  exact ⟨by omega, Or.inl (by omega)⟩
theorem canPut_even (he : b % 2 = 0) (hk : h.floor ≤ b / 2) : canPut h b = true := by
  simp only [canPut, decide_eq_true_eq]
  exact ⟨he, Or.inl hk⟩
end
section
variable (k : IntKind) (a b : Int)
theorem ibin_add : ibin .add (.int k a) (.int k b) = some (.int k (k.wrap (a + b))) := by simp [ibin]
theorem ibin_sub : ibin .sub (.int k a) (.int k b) = some (.int k (k.wrap (a - b))) := by simp [ibin]
theorem ibin_mul : ibin .mul (.int k a) (.int k b) = some (.int k (k.wrap (a * b))) := by simp [ibin]
theorem ibin_quo (hb : b ≠ 0) : ibin .quo (.int k a) (.int k b) = some (.int k (k.wrap (a.tdiv b))) := by simp [ibin, hb]
theorem ibin_rem (hb : b ≠ 0) : ibin .rem (.int k a) (.int k b) = some (.int k (a.tmod b)) := by simp [ibin, hb]
theorem ibin_shl (k' : IntKind) (hb : 0 ≤ b) : ibin .shl (.int k a) (.int k' b) = some (.int k (k.wrap (a * 2 ^ min b.toNat k.bits))) := by simp [ibin, hb]
theorem ibin_shr (k' : IntKind) (hb : 0 ≤ b) : ibin .shr (.int k a) (.int k' b) = some (.int k (a.fdiv (2 ^ min b.toNat k.bits))) := by simp [ibin, hb]
theorem ibin_or : ibin .or (.int k a) (.int k b) = some (.int k (k.wrap (BitVec.ofInt k.bits a ||| BitVec.ofInt k.bits b).toNat)) := by simp [ibin]
theorem ibin_and : ibin .and (.int k a) (.int k b) = some (.int k (k.wrap (BitVec.ofInt k.bits a &&& BitVec.ofInt k.bits b).toNat)) := by simp [ibin]
theorem ibin_eql : ibin .eql (.int k a) (.int k b) = some (.bool (decide (a = b))) := by simp [ibin]; rfl
theorem ibin_neq : ibin .neq (.int k a) (.int k b) = some (.bool (!decide (a = b))) := by simp [ibin]; rfl
theorem ibin_lss : ibin .lss (.int k a) (.int k b) = some (.bool (decide (a < b))) := by simp [ibin]
theorem ibin_leq : ibin .leq (.int k a) (.int k b) = some (.bool (decide (a ≤ b))) := by simp [ibin]
theorem ibin_gtr : ibin .gtr (.int k a) (.int k b) = some (.bool (decide (b < a))) := by simp [ibin]
theorem ibin_geq : ibin .geq (.int k a) (.int k b) = some (.bool (decide (b ≤ a))) := by simp [ibin]
theorem iun_not (x : Bool) : iun .not (.bool x) = some (.bool (!x)) := nr rfl
theorem iun_neg : iun .neg (.int k a) = some (.int k (k.wrap (0 - a))) := nr rfl
theorem vPick_tt (x y : Value) : vPick (.bool true) x y = some x := nr rfl
theorem vPick_ff (x y : Value) : vPick (.bool false) x y = some y := nr rfl
theorem vPick_b (c : Bool) (x y : Bool) : vPick (.bool c) (.bool x) (.bool y) = some (.bool (if c = true then x else y)) := by cases c <;> rfl
theorem vLoad1_ptr (h : Heap) (p : Addr) : vLoad1 h (.pointer (some p)) = match h.read p 1 with
    | some [v] => some v
    | _ => none := nr rfl
theorem vLoadN_ptr (h : Heap) (n : Nat) (p : Addr) : vLoadN h n (.pointer (some p)) = match h.read p n with
    | some cs => some (.agg cs.toArray)
    | none => none := nr rfl
theorem vStore_ptr (h : Heap) (n : Nat) (p : Addr) (v : Value) : vStore h n (.pointer (some p)) v = if (cellsOf v).length = n then h.write p (cellsOf v) else none := nr rfl
theorem vFieldAddr_ptr (off : Nat) (p : Addr) : vFieldAddr off (.pointer (some p)) = some (.pointer (some ⟨p.block, p.off + off, none⟩)) := nr rfl
theorem vIndexAddr_slice (z : Nat) (p : Addr) (l c : Nat) (k : IntKind) (i : Int) (h0 : 0 ≤ i) (h1 : i < l) : vIndexAddr z (.slice (some p) l c) (.int k i) = some (.pointer (some ⟨p.block, p.off + i.toNat * z, none⟩)) := by simp [vIndexAddr, h0, h1]
theorem vIndexAddrArr_ptr (n z : Nat) (p : Addr) (k : IntKind) (i : Int) (h0 : 0 ≤ i) (h1 : i < n) : vIndexAddrArr n z (.pointer (some p)) (.int k i) = some (.pointer (some ⟨p.block, p.off + i.toNat * z, none⟩)) := by simp [vIndexAddrArr, h0, h1]
theorem vConv_int (k' : IntKind) : vConv k (.int k' a) = some (.int k (k.wrap a)) := nr rfl
theorem vLenSlice_slice (p : Option Addr) (l c : Nat) : vLenSlice (.slice p l c) = some (.int .i64 l) := nr rfl
theorem vField1_agg (off : Nat) (cs : Array Value) : vField1 off (.agg cs) = cs.toList[off]? := nr rfl
theorem vExtract_tuple (i : Nat) (vs : Array Value) : vExtract i (.tuple vs) = vs.toList[i]? := nr rfl
theorem vNil_ptr (p : Addr) : vNil (.pointer (some p)) = some (.pointer (some p)) := nr rfl
theorem vEqBool_b (neg x y : Bool) : vEqBool neg (.bool x) (.bool y) = some (.bool ((x == y) != neg)) := nr rfl
theorem vMin2 (x y : Int) : vMinmax false [.int k x, .int k y] = some (.int k (if y < x then y else x)) := by simp [vMinmax, mostOf]
theorem vMax2 (x y : Int) : vMinmax true [.int k x, .int k y] = some (.int k (if y > x then y else x)) := by simp [vMinmax, mostOf]
theorem cellsOf_agg (cs : Array Value) : cellsOf (.agg cs) = cs.toList := nr rfl
theorem cellsOf_int : cellsOf (.int k a) = [.int k a] := nr rfl
theorem cellsOf_bool (x : Bool) : cellsOf (.bool x) = [.bool x] := nr rfl
theorem eval_tmp (tm : List Value) (t : Nat) : Opd.eval tm (.tmp t) = tm.getD t undefV := nr rfl
theorem eval_const (tm : List Value) (v : Value) : Opd.eval tm (.const v) = v := nr rfl
theorem putDst_some (tm : List Value) (d : Nat) (v : Value) : putDst tm (some d) v = tm.set d v := nr rfl
theorem putDst_none (tm : List Value) (v : Value) : putDst tm none v = tm := nr rfl
end
end Go.Ideal
namespace Go.Ideal
open Go Go.RowKit Go.ChangeShapes
inductive FK where
  | bool
  | int (k : IntKind)
  deriving DecidableEq
noncomputable def FK.fits : FK → Value → Prop
  | .bool, v => ∃ b, v = .bool b
  | .int k, v => ∃ n, v = .int k n ∧ k.min ≤ n ∧ n ≤ k.max
theorem FK.fits_rel {k : FK} {v : Value} (h : k.fits v) (ι : Ren) : VR ι v v := by
  cases k with
  | bool => obtain ⟨b, rfl⟩ := h; exact .bool b
  | int k => obtain ⟨n, rfl, _⟩ := h; exact .int k n
section
variable {P : Program} {H : Type} {enc : TypeId × Value → H} {W : World}
inductive PK where
  | one (k : FK)
  | agg (ks : List FK)
  | slice (ks : List FK)
noncomputable def roC (W : World) (x : Nat) : Option (List Value × Nat) :=
  match roW W x with
  | some p => if p.1.all (fun v => cleanV 0 v) then some p else none
  | none => none
theorem roC_in {x : Nat} {p : List Value × Nat} (h : roC W x = some p) : ∃ (C : Array Value) (e : TypeId) (fr : Nat × Nat), W.heap[x]? = some (.cells C e fr) ∧ p.1.length ≤ C.size ∧ ∀ (i : Nat) (v : Value), p.1[i]? = some v → ∃ v' : Value, C[i]? = some v' ∧ ∀ ι, VR ι v v' := by
  unfold roC at h
  cases hr : roW W x with
  | none => rw [hr] at h; cases h
  | some q =>
    rw [hr] at h
    simp only at h
    split at h
    · rename_i hcl
      cases h
      unfold roW at hr
      split at hr
      · rename_i C e fr hC
        split at hr
        · rename_i hok
          cases hr
          refine ⟨C, e, fr, hC, by simp, fun i v hv => ?_⟩
          have hcv : cleanV 0 v = true := List.all_eq_true.1 hcl v (List.mem_of_getElem? hv)
          simp only [List.getElem?_map, Option.map_eq_some_iff] at hv
          obtain ⟨v', hv', rfl⟩ := hv
          refine ⟨v', by simpa using hv', fun ι => ?_⟩
          have ho : ok1 v' = true := List.all_eq_true.1 hok v' (List.mem_of_getElem? hv')
          have : up1 v' = v' := by
            cases v' with
            | pointer p => cases p <;> first | rfl | (simp [up1, cleanV] at hcv; done)
            | slice p l c => cases p <;> first | rfl | (simp [up1, cleanV] at hcv; done)
            | _ => rfl
          rw [this] at hcv ⊢
          exact VR.clean 0 v' hcv
        · cases hr
      · cases hr
    · cases h
end
end Go.Ideal
namespace Go.Ideal
open Go
theorem callV_func {env : Env} {g : Nat} {F : IFunc} (hF : env g = some F) (n : Nat) (fs cs : Array Value) (args : List Value) (h : Heap) :
    callV env (n + 1) (.func (.func g) fs cs) args h = enter (callV env n) n F (fs.toList ++ args ++ cs.toList) h := by
  unfold callV
  simp only [hF]
noncomputable def Fin (rs : List IResult) (Q : Value × Heap → Prop) (p : IExit × St) : Prop := match p.1 with
  | .exit _ => False
  | _ => ∃ h' v, shutMarks p.2.defers p.2.h = some h' ∧ answer rs p.2.tmps h' = some v ∧ Q (v, h')
theorem run_true {env : Env} {n g : Nat} {args : List Value} {h : Heap} (hx : (callV env n (.func (.func g) #[] #[]) args h).All fun p => p.1 = .bool true) : (run env n g args h).True := hx
attribute [local irreducible] callV T.All
structure Ext (h h' : Heap) : Prop where
  next : h.next ≤ h'.next
  old : ∀ b, b % 2 = 1 ∨ b < 2 * h.next → h'.get b = h.get b
  floor : h'.floor = h.floor
  may : h'.may = h.may
  hid : h'.hid = h.hid
  ro : h'.ro = h.ro
theorem Ext.refl (h : Heap) : Ext h h := ⟨Nat.le_refl _, fun _ _ => rfl, rfl, rfl, rfl, rfl⟩
theorem Ext.trans {a b c : Heap} (h : Ext a b) (k : Ext b c) : Ext a c :=
  ⟨Nat.le_trans h.next k.next, fun x hx => (k.old x (by have := h.next; omega)).trans (h.old x hx), k.floor.trans h.floor, k.may.trans h.may, k.hid.trans h.hid, k.ro.trans h.ro⟩
theorem Ext.alloc {a b : Heap} (h : Ext a b) (o : IObj) : Ext a (b.alloc o) :=
  ⟨Nat.le_succ_of_le h.next, fun x hx => (get_alloc_old (by have := h.next; omega)).trans (h.old x hx), h.floor, h.may, h.hid, h.ro⟩
theorem Ext.setB {a b : Heap} (h : Ext a b) (k : Nat) (o : IObj) (hk : k % 2 = 0) (hn : 2 * a.next ≤ k) : Ext a (b.setB k o) :=
  ⟨h.next, fun x hx => (get_setB_other hk (by omega)).trans (h.old x hx), h.floor, h.may, h.hid, h.ro⟩
theorem Ext.fine {a b : Heap} (h : Ext a b) (hf : a.Fine) : b.Fine := by
  refine ⟨by rw [h.floor]; exact Nat.le_trans hf.1 h.next, fun p hp => ?_⟩
  rw [h.hid] at hp
  exact Nat.le_trans (hf.2 p hp) h.next
theorem fresh_fine (ro : Nat → Option (List Value × Nat)) : (fresh ro).Fine := ⟨Nat.le_refl _, fun p hp => by cases hp⟩
theorem readN_flatMap {α : Type} {g : α → List Value} {z : Nat} (hg : ∀ a, (g a).length = z) : ∀ (l : List α) (i : Nat) (a : α) (k m : Nat), l[i]? = some a → k + m ≤ z → readN (l.flatMap g) (i * z + k) m = readN (g a) k m
  | [], i, a, k, m, hi, _ => by simp at hi
  | b :: l, 0, a, k, m, hi, hk => by
    simp at hi
    subst hi
    unfold readN
    have h0 := hg b
    rw [List.flatMap_cons, Nat.zero_mul, Nat.zero_add, if_pos (by simp; omega), if_pos (by omega), List.drop_append_of_le_length (by omega), List.take_append_of_le_length (by simp; omega)]
  | b :: l, i + 1, a, k, m, hi, hk => by
    have ih := readN_flatMap hg l i a k m (by simpa using hi) hk
    have h0 := hg b
    rw [← ih]
    unfold readN
    have e : (i + 1) * z + k = z + (i * z + k) := by rw [Nat.succ_mul]; omega
    rw [List.flatMap_cons, List.length_append, h0, e, ← List.drop_drop]
    have : (g b ++ l.flatMap g).drop z = l.flatMap g := by rw [← h0, List.drop_left]
    rw [this]
    congr 1
    simp only [eq_iff_iff]
    omega
theorem wrap_i64 {n : Int} (h0 : -9223372036854775808 ≤ n) (h1 : n ≤ 9223372036854775807) : IntKind.i64.wrap n = n := by
  simp only [IntKind.wrap, IntKind.bits, IntKind.signed, Bool.true_and, Nat.reduceSub, Int.reducePow]
  split
  · rename_i h
    have := of_decide_eq_true h
    omega
  · rename_i h
    simp only [ge_iff_le, decide_eq_true_eq, Int.not_le] at h
    omega
theorem wrap_u64 {n : Int} (h0 : 0 ≤ n) (h1 : n ≤ 18446744073709551615) : IntKind.u64.wrap n = n := by
  simp only [IntKind.wrap, IntKind.bits, IntKind.signed, Bool.false_and, Int.reducePow, Bool.false_eq_true, ↓reduceIte]
  omega
theorem wrap_u32_mod (n : Int) : IntKind.u32.wrap n = n % 4294967296 := by
  simp only [IntKind.wrap, IntKind.bits, IntKind.signed, Bool.false_and, Int.reducePow, Bool.false_eq_true, ↓reduceIte]
theorem wrap_u8_mod (n : Int) : IntKind.u8.wrap n = n % 256 := by
  simp only [IntKind.wrap, IntKind.bits, IntKind.signed, Bool.false_and, Int.reducePow, Bool.false_eq_true, ↓reduceIte]
noncomputable def expand : Nat → Nat → (Nat → Value) → List Value
  | 0, _, _ => []
  | n + 1, i, g => g i :: expand n (i + 1) g
theorem expand_zero (i : Nat) (g : Nat → Value) : expand 0 i g = [] := nr rfl
theorem expand_succ (n i : Nat) (g : Nat → Value) : expand (n + 1) i g = g i :: expand n (i + 1) g := nr rfl
theorem expand_get : ∀ (n i : Nat) (g : Nat → Value) (k : Nat), k < n → (expand n i g)[k]? = some (g (i + k))
  | 0, _, _, _, h => by omega
  | n + 1, i, g, 0, _ => rfl
  | n + 1, i, g, k + 1, h => by
    have := expand_get n (i + 1) g k (by omega)
    simp only [expand, List.getElem?_cons_succ, this]
    congr 2
    omega
theorem expand_length : ∀ (n i : Nat) (g : Nat → Value), (expand n i g).length = n
  | 0, _, _ => rfl
  | n + 1, i, g => by simp [expand, expand_length n (i + 1) g]
theorem explode {l : List Value} {n : Nat} (h : l.length = n) : ∃ g : Nat → Value, (∀ i, l.getD i undefV = g i) ∧ l = expand n 0 g := by
  refine ⟨fun i => l.getD i undefV, fun _ => rfl, ?_⟩
  refine List.ext_getElem? fun k => ?_
  by_cases hk : k < n
  · rw [expand_get n 0 _ k hk, Nat.zero_add, List.getD_eq_getElem?_getD]
    rw [List.getElem?_eq_getElem (by omega)]
    rfl
  · rw [List.getElem?_eq_none (by omega), List.getElem?_eq_none (by rw [expand_length]; omega)]
end Go.Ideal
namespace Go.Ideal
open Go
noncomputable def T.Is {α : Type} (Q : α → Prop) : T α → Prop
  | .ret a => Q a
  | _ => False
theorem T.Is.all {α : Type} {Q : α → Prop} : ∀ {x : T α}, x.Is Q → x.All Q
  | .ret _, h => h
  | .fail, h => h.elim
  | .ask _ _, h => h.elim
theorem T.Is.ex {α : Type} {Q : α → Prop} : ∀ {x : T α}, x.Is Q → ∃ a, x = .ret a ∧ Q a
  | .ret a, h => ⟨a, rfl, h⟩
  | .fail, h => h.elim
  | .ask _ _, h => h.elim
theorem T.Is.bind {α β : Type} {Q : α → Prop} {R : β → Prop} {f : α → T β} : ∀ {x : T α}, x.Is Q → (∀ a, Q a → (f a).Is R) → (x.bind f).Is R
  | .ret _, hx, hf => hf _ hx
  | .fail, hx, _ => hx.elim
  | .ask _ _, hx, _ => hx.elim
theorem T.Is.mono {α : Type} {Q R : α → Prop} (h : ∀ a, Q a → R a) : ∀ {x : T α}, x.Is Q → x.Is R
  | .ret a, hx => h a hx
  | .fail, hx => hx.elim
  | .ask _ _, hx => hx.elim
theorem Is_ite {α : Type} {Q : α → Prop} {p : Prop} [Decidable p] {a b : T α} (h1 : p → a.Is Q) (h2 : ¬ p → b.Is Q) : (if p then a else b).Is Q := by split <;> simp_all
theorem Is_in {α : Type} {Q : α → Prop} {a : α} (h : Q a) : (T.ret a).Is Q := h
theorem enter_is {call : Caller} {fuel : Nat} {F : IFunc} {args : List Value} {h : Heap} {Q : Value × Heap → Prop}
    (hx : (X call fuel none F.body (args ++ List.replicate (F.ntmps - args.length) undefV) [] h []).Is (Fin F.results Q)) : (enter call fuel F args h).Is Q := by
  unfold enter
  rw [exec_X]
  refine T.Is.bind hx fun p hp => ?_
  obtain ⟨e, s⟩ := p
  cases e with
  | exit j => exact hp.elim
  | normal =>
    obtain ⟨h', v, h1, h2, h3⟩ := hp
    simp only at h1 h2
    simp only [h1, h2, Option.map_some]
    exact h3
  | ret =>
    obtain ⟨h', v, h1, h2, h3⟩ := hp
    simp only at h1 h2
    simp only [h1, h2, Option.map_some]
    exact h3
theorem call_is {env : Env} {g : Nat} {F : IFunc} (hF : env g = some F) {n : Nat} {fs cs : Array Value} {args : List Value} {h : Heap} {Q : Value × Heap → Prop}
    (hx : (X (callV env n) n none F.body (fs.toList ++ args ++ cs.toList ++ List.replicate (F.ntmps - (fs.toList ++ args ++ cs.toList).length) undefV) [] h []).Is (Fin F.results Q)) : (callV env (n + 1) (.func (.func g) fs cs) args h).Is Q := by
  rw [callV_func hF]
  exact enter_is hx
theorem leaf0 {tm : List Value} {h : Heap} {Q : Value × Heap → Prop} (hq : Q (.tuple #[], h)) : (T.ret (.ret, St.mk tm [] h)).Is (Fin [] Q) := ⟨h, _, rfl, rfl, hq⟩
theorem leaf1 {tm : List Value} {h : Heap} {a : Nat} {Q : Value × Heap → Prop} (hq : Q (tm.getD a undefV, h)) : (T.ret (.ret, St.mk tm [] h)).Is (Fin [.tmp a] Q) := ⟨h, _, rfl, rfl, hq⟩
theorem leaf2 {tm : List Value} {h : Heap} {a b : Nat} {Q : Value × Heap → Prop} (hq : Q (.tuple #[tm.getD a undefV, tm.getD b undefV], h)) : (T.ret (.ret, St.mk tm [] h)).Is (Fin [.tmp a, .tmp b] Q) := ⟨h, _, rfl, rfl, hq⟩
theorem leaf0n {tm : List Value} {h : Heap} {Q : Value × Heap → Prop} (hq : Q (.tuple #[], h)) : (T.ret (.normal, St.mk tm [] h)).Is (Fin [] Q) := ⟨h, _, rfl, rfl, hq⟩
theorem iter_is {f : St → T (IExit × St)} (Inv : Nat → St → Prop) {Post : IExit × St → Prop} (hs : ∀ k s, Inv k s → (f s).Is fun p => match p.1 with
    | .normal => ∃ k', k' < k ∧ Inv k' p.2
    | _ => Post p) : ∀ (n k : Nat) (s : St), Inv k s → k < n → (iter f n s).Is Post
  | 0, _, _, _, h => by omega
  | n + 1, k, s, hi, hk => by
    unfold iter
    refine T.Is.bind (hs k s hi) fun p hp => ?_
    obtain ⟨e, s'⟩ := p
    cases e with
    | normal =>
      obtain ⟨k', h1, h2⟩ := hp
      exact iter_is Inv hs n k' s' h2 (by omega)
    | exit j => exact hp
    | ret => exact hp
section
variable {call : Caller} {fuel : Nat} {ar : Option Nat} {tm : List Value} {df : List Nat} {h : Heap} {K : List Fr} {r : List IOper} {d : Option Nat} {anc : List Nat} {bar : Bool} {as : List (List Nat)} {i : Nat} {fr : List (Nat × Nat × Nat)}
theorem L_is {b : ICode} {Q : IExit × St → Prop} (Inv : Nat → St → Prop) (k : Nat) (hi : Inv k ⟨tm, df, h⟩) (hk : k < fuel)
    (hs : ∀ k tm df h, Inv k ⟨tm, df, h⟩ → (X call fuel ar b tm df h []).Is fun p => match p.1 with
      | .normal => ∃ k', k' < k ∧ Inv k' p.2
      | _ => (kont call fuel ar K p).Is Q) : (L call fuel ar b tm df h K).Is Q := by
  unfold L
  refine T.Is.bind (iter_is Inv (Post := fun p => (kont call fuel ar K p).Is Q) (fun k s hs' => ?_) fuel k _ hi hk) fun p hp => hp
  have := hs k s.tmps s.defers s.h hs'
  rwa [← exec_X] at this
theorem Z_is {x : T (Value × Heap)} {Q : IExit × St → Prop} {R : Value × Heap → Prop} (hx : x.Is R)
    (hk : ∀ v h', R (v, h') → (Y call fuel ar r (putDst tm d v) df h' K).Is Q) : (Z call fuel ar x d r tm df K).Is Q := by
  unfold Z
  exact T.Is.bind hx fun p hp => hk p.1 p.2 hp
noncomputable def seen0 (as : List (List Nat)) (i : Nat) (fr : List (Nat × Nat × Nat)) (h : Heap) : Heap :=
  { h with floor := h.next, may := [], hid := ((fr.filter fun x => !(as.getD i []).contains x.1).map (·.2)) ++ h.hid }
theorem seenBy_nil (n : Nat) (hn : as.length = n) : seenBy as (as.map fun _ => []) i fr h = seen0 as i fr h := by
  have hp : ∀ k, (as.map fun _ => ([] : List Nat)).getD k [] = [] := by
    intro k
    rw [List.getD_eq_getElem?_getD, List.getElem?_map]
    cases as[k]? <;> rfl
  unfold seenBy seen0
  simp only [hp, List.filter_nil, List.map_nil, ite_self]
  congr 1
  simp
noncomputable def D (call : Caller) (fuel : Nat) (ar : Option Nat) (as : List (List Nat)) (ops : List IOper) (i : Nat) (fr : List (Nat × Nat × Nat)) (tm : List Value) (df : List Nat) (h : Heap) (K : List Fr) : T (IExit × St) :=
  match execDrawn call as (as.map fun _ => []) ops i fr tm h with
  | .ok p => kont call fuel ar K (.normal, ⟨p.1, df, p.2⟩)
  | .error _ => .fail
noncomputable def DO (call : Caller) (fuel : Nat) (ar : Option Nat) (as : List (List Nat)) (x : Option Value) (d : Option Nat) (r : List IOper) (i : Nat) (fr : List (Nat × Nat × Nat)) (tm : List Value) (df : List Nat) (h : Heap) (K : List Fr) : T (IExit × St) :=
  match x with
  | some v => D call fuel ar as r (i + 1) fr (putDst tm d v) df h K
  | none => .fail
noncomputable def DGK (call : Caller) (fuel : Nat) (ar : Option Nat) (as : List (List Nat)) (v : Value) (t : Nat) (g : Bool) (o : IOper) (r : List IOper) (i : Nat) (fr : List (Nat × Nat × Nat)) (tm : List Value) (df : List Nat) (h : Heap) (K : List Fr) : T (IExit × St) :=
  match v with
  | .bool c => if c = g then D call fuel ar as (o :: r) i fr (tm.set t (.bool g)) df h K else D call fuel ar as r (i + 1) fr (putDst (tm.set t (.bool !g)) o.dst undefV) df h K
  | _ => D call fuel ar as r (i + 1) fr (putDst tm o.dst undefV) df h K
noncomputable def DB (call : Caller) (fuel : Nat) (ar : Option Nat) (as : List (List Nat)) (x : T (Value × Heap)) (d : Option Nat) (r : List IOper) (i : Nat) (tm : List Value) (df : List Nat) (K : List Fr) : T (IExit × St) :=
  match x with
  | .ret p => D call fuel ar as r (i + 1) [] (putDst tm d p.1) df p.2 K
  | _ => .fail
noncomputable def DF (call : Caller) (fuel : Nat) (ar : Option Nat) (as : List (List Nat)) (x : T (Value × Heap)) (h : Heap) (d : Option Nat) (r : List IOper) (i : Nat) (fr : List (Nat × Nat × Nat)) (tm : List Value) (df : List Nat) (K : List Fr) : T (IExit × St) :=
  match x with
  | .ret p => D call fuel ar as r (i + 1) (if h.next < p.2.next then (i, h.next, p.2.next) :: fr else fr) (putDst tm d p.1) df { p.2 with floor := h.floor, may := h.may, hid := h.hid } K
  | _ => .fail
noncomputable def ancL (ops : List IOper) : List (List Nat) := ops.map (·.anc)
theorem X_drawn (ops : List IOper) {Q : IExit × St → Prop} (hx : ∀ an : List (List Nat), (D call fuel ar an ops 0 [] tm df h K).Is Q) : (X call fuel ar (.drawn ops) tm df h K).Is Q := by
  replace hx := hx (ancL ops)
  unfold D at hx
  unfold X
  simp only [exec, drawnRun, drawnLoop]
  have e : (ancL ops).map (fun _ => ([] : List Nat)) = ops.map fun _ => [] := by simp [ancL]
  rw [e] at hx
  unfold ancL at hx
  split at hx
  · rename_i p hp
    simp only [hp]
    exact hx
  · exact hx.elim
theorem D_nil : D call fuel ar as [] i fr tm df h K = kont call fuel ar K (.normal, ⟨tm, df, h⟩) := nr rfl
theorem D_guard (op : IOp) (t : Nat) (g : Bool) : D call fuel ar as (⟨d, op, some (t, g), anc, bar⟩ :: r) i fr tm df h K = DGK call fuel ar as (tm.getD t undefV) t g ⟨d, op, none, anc, bar⟩ r i fr tm df h K := by
  have e1 : tm.getD t undefV = (tm[t]?).getD undefV := by simp [List.getD_eq_getElem?_getD]
  rw [e1]
  cases ht : tm[t]? with
  | none => simp [D, DGK, execDrawn, wants, ht, undefV]
  | some v =>
    cases v
    case bool c =>
      have hs : tm.set t (.bool c) = tm := by
        obtain ⟨hl, he⟩ := List.getElem?_eq_some_iff.1 ht
        rw [← he]; exact List.set_getElem_self hl
      simp only [DGK, Option.getD_some]
      cases c <;> cases g <;> simp only [if_true, reduceCtorEq, if_false, Bool.not_true, Bool.not_false, hs, D, execDrawn, wants, ht, beq_self_eq_true] <;> rfl
    all_goals simp [D, DGK, execDrawn, wants, ht]
theorem DGK_bool (c g : Bool) (t : Nat) (o : IOper) : DGK call fuel ar as (.bool c) t g o r i fr tm df h K = if c = g then D call fuel ar as (o :: r) i fr (tm.set t (.bool g)) df h K else D call fuel ar as r (i + 1) fr (putDst (tm.set t (.bool !g)) o.dst undefV) df h K := nr rfl
theorem DGK_undef (t : Nat) (g : Bool) (o : IOper) : DGK call fuel ar as undefV t g o r i fr tm df h K = D call fuel ar as r (i + 1) fr (putDst tm o.dst undefV) df h K := nr rfl
theorem DO_some (v : Value) : DO call fuel ar as (some v) d r i fr tm df h K = D call fuel ar as r (i + 1) fr (putDst tm d v) df h K := nr rfl
theorem DB_ret (v : Value) (h' : Heap) : DB call fuel ar as (.ret (v, h')) d r i tm df K = D call fuel ar as r (i + 1) [] (putDst tm d v) df h' K := nr rfl
theorem DF_ret (v : Value) (h' : Heap) : DF call fuel ar as (.ret (v, h')) h d r i fr tm df K = D call fuel ar as r (i + 1) (if h.next < h'.next then (i, h.next, h'.next) :: fr else fr) (putDst tm d v) df { h' with floor := h.floor, may := h.may, hid := h.hid } K := nr rfl
theorem D_pure {op : IOp} {x : Option Value} (hp : op.isPure = true) (hr : op.run tm h = T.ofOpt (x.map fun v => (v, h))) : D call fuel ar as (⟨d, op, none, anc, bar⟩ :: r) i fr tm df h K = DO call fuel ar as x d r i fr tm df h K := by
  unfold D DO
  simp only [execDrawn, wants, if_true, hp, hr]
  cases x <;> rfl
theorem D_readB {op : IOp} {x : Option Value} (hp : op.isPure = false) (hc : ∀ f as, op ≠ .call f as) (hr : op.run tm h = T.ofOpt (x.map fun v => (v, h))) : D call fuel ar as (⟨d, op, none, anc, true⟩ :: r) i fr tm df h K = DO call fuel ar as x d r i [] tm df h K := by
  have he : op.exec call tm h = op.run tm h := by
    cases op <;> first | rfl | exact absurd rfl (hc _ _)
  unfold D DO
  simp only [execDrawn, wants, if_true, hp, he, hr, Bool.false_eq_true, if_false]
  cases x <;> rfl
theorem D_readF {op : IOp} {x : Option Value} (hp : op.isPure = false) (hc : ∀ f as, op ≠ .call f as) (hr : op.run tm (seen0 as i fr h) = T.ofOpt (x.map fun v => (v, seen0 as i fr h))) : D call fuel ar as (⟨d, op, none, anc, false⟩ :: r) i fr tm df h K = DO call fuel ar as x d r i fr tm df h K := by
  have he : op.exec call tm (seen0 as i fr h) = op.run tm (seen0 as i fr h) := by
    cases op <;> first | rfl | exact absurd rfl (hc _ _)
  unfold D DO
  simp only [execDrawn, wants, if_true, hp, seenBy_nil _ rfl, he, hr, Bool.false_eq_true, if_false]
  cases x with
  | none => rfl
  | some v =>
    simp only [Option.map_some, T.ofOpt, T.out]
    have h1 : ¬ h.next < (seen0 as i fr h).next := Nat.lt_irrefl _
    rw [if_neg h1]
    rfl
theorem D_callB (f : Opd) (xs : List Opd) : D call fuel ar as (⟨d, .call f xs, none, anc, true⟩ :: r) i fr tm df h K = DB call fuel ar as (call (f.eval tm) (xs.map (Opd.eval tm)) h) d r i tm df K := by
  unfold D DB
  simp only [execDrawn, wants, if_true, IOp.isPure, IOp.exec, Bool.false_eq_true, if_false]
  cases call (f.eval tm) (xs.map (Opd.eval tm)) h <;> rfl
theorem D_callF (f : Opd) (xs : List Opd) : D call fuel ar as (⟨d, .call f xs, none, anc, false⟩ :: r) i fr tm df h K = DF call fuel ar as (call (f.eval tm) (xs.map (Opd.eval tm)) (seen0 as i fr h)) h d r i fr tm df K := by
  unfold D DF
  simp only [execDrawn, wants, if_true, IOp.isPure, IOp.exec, Bool.false_eq_true, if_false, seenBy_nil _ rfl]
  cases call (f.eval tm) (xs.map (Opd.eval tm)) (seen0 as i fr h) <;> rfl
theorem D_move (x : Opd) : D call fuel ar as (⟨d, .move x, none, anc, bar⟩ :: r) i fr tm df h K = D call fuel ar as r (i + 1) fr (putDst tm d (x.eval tm)) df h K := D_pure (x := some (x.eval tm)) rfl rfl
theorem DF_is {x : T (Value × Heap)} {Q : IExit × St → Prop} {R : Value × Heap → Prop} (hx : x.Is R)
    (hk : ∀ v h', R (v, h') → (D call fuel ar as r (i + 1) (if h.next < h'.next then (i, h.next, h'.next) :: fr else fr) (putDst tm d v) df { h' with floor := h.floor, may := h.may, hid := h.hid } K).Is Q) : (DF call fuel ar as x h d r i fr tm df K).Is Q := by
  obtain ⟨⟨v, h'⟩, rfl, hR⟩ := hx.ex
  exact hk v h' hR
theorem DB_is {x : T (Value × Heap)} {Q : IExit × St → Prop} {R : Value × Heap → Prop} (hx : x.Is R)
    (hk : ∀ v h', R (v, h') → (D call fuel ar as r (i + 1) [] (putDst tm d v) df h' K).Is Q) : (DB call fuel ar as x d r i tm df K).Is Q := by
  obtain ⟨⟨v, h'⟩, rfl, hR⟩ := hx.ex
  exact hk v h' hR
theorem E_build (zero : List Value) (ps : List (Nat × Nat × Opd)) : (.build zero ps : IOp).run tm h = T.ofOpt ((vBuild zero (ps.map fun p => (p.1, p.2.1, p.2.2.eval tm))).map fun v => (v, h)) := by
  simp only [IOp.run, vBuild]; cases layAt zero (ps.map fun p => (p.1, p.2.1, p.2.2.eval tm)) <;> rfl
theorem D_build (zero : List Value) (ps : List (Nat × Nat × Opd)) : D call fuel ar as (⟨d, .build zero ps, none, anc, bar⟩ :: r) i fr tm df h K = DO call fuel ar as (vBuild zero (ps.map fun p => (p.1, p.2.1, p.2.2.eval tm))) d r i fr tm df h K := D_pure rfl (E_build zero ps)
theorem E_bin (op : BinOp) (x y : Opd) : (.bin op x y : IOp).run tm h = T.ofOpt ((ibin op (x.eval tm) (y.eval tm)).map fun v => (v, h)) := nr rfl
theorem E_un (op : UnOp) (x : Opd) : (.un op x : IOp).run tm h = T.ofOpt ((iun op (x.eval tm)).map fun v => (v, h)) := nr rfl
theorem E_pick (c a b : Opd) : (.pick c a b : IOp).run tm h = T.ofOpt ((vPick (c.eval tm) (a.eval tm) (b.eval tm)).map fun v => (v, h)) := by
  simp only [IOp.run]; generalize c.eval tm = v; cases v <;> rfl
theorem E_load1 (a : Opd) : (.load none a : IOp).run tm h = T.ofOpt ((vLoad1 h (a.eval tm)).map fun v => (v, h)) := by
  simp only [IOp.run]
  generalize Opd.eval tm a = v
  cases v <;> try rfl
  rename_i p
  cases p <;> try rfl
  rename_i p
  simp only [vLoad1]
  generalize h.read p 1 = o
  match o with | none => rfl | some [] => rfl | some [v] => rfl | some (a :: b :: c) => rfl
theorem E_loadN (n : Nat) (a : Opd) : (.load (some n) a : IOp).run tm h = T.ofOpt ((vLoadN h n (a.eval tm)).map fun v => (v, h)) := by
  simp only [IOp.run]
  generalize Opd.eval tm a = v
  cases v <;> try rfl
  rename_i p
  cases p <;> try rfl
  rename_i p
  simp only [vLoadN]
  cases h.read p n <;> rfl
theorem E_nilCheck (x : Opd) : (.nilCheck x : IOp).run tm h = T.ofOpt ((vNil (x.eval tm)).map fun v => (v, h)) := by
  simp only [IOp.run]
  generalize x.eval tm = v
  cases v <;> try rfl
  · rename_i p; cases p <;> rfl
  · rename_i f _ _; cases f <;> rfl
theorem E_eqAgg (neg : Bool) (ks : List CK) (x y : Opd) : (.eqAgg neg ks x y : IOp).run tm h = T.ofOpt ((vEqAgg neg ks (x.eval tm) (y.eval tm)).map fun v => (v, h)) := by
  simp only [IOp.run, vEqAgg]; cases aggEq ks (x.eval tm) (y.eval tm) <;> rfl
theorem E_eqBool (neg : Bool) (x y : Opd) : (.eqBool neg x y : IOp).run tm h = T.ofOpt ((vEqBool neg (x.eval tm) (y.eval tm)).map fun v => (v, h)) := by
  simp only [IOp.run]; generalize x.eval tm = v; generalize y.eval tm = w; cases v <;> cases w <;> rfl
theorem E_eqPtr (neg : Bool) (x y : Opd) : (.eqPtr neg x y : IOp).run tm h = T.ofOpt ((vEqPtr neg (x.eval tm) (y.eval tm)).map fun v => (v, h)) := by
  simp only [IOp.run]; generalize x.eval tm = v; generalize y.eval tm = w
  cases v <;> try rfl
  rename_i p
  cases p <;> cases w <;> try rfl
  rename_i q
  cases q <;> rfl
theorem E_conv (k : IntKind) (x : Opd) : (.conv k x : IOp).run tm h = T.ofOpt ((vConv k (x.eval tm)).map fun v => (v, h)) := by
  simp only [IOp.run]; generalize x.eval tm = v; cases v <;> try rfl
  all_goals (rename_i p; cases p <;> rfl)
theorem E_fieldAddr (off : Nat) (x : Opd) : (.fieldAddr off x : IOp).run tm h = T.ofOpt ((vFieldAddr off (x.eval tm)).map fun v => (v, h)) := by
  simp only [IOp.run]; generalize x.eval tm = v; cases v <;> try rfl
  all_goals (rename_i p; cases p <;> rfl)
theorem E_field1 (off : Nat) (x : Opd) : (.field off none x : IOp).run tm h = T.ofOpt ((vField1 off (x.eval tm)).map fun v => (v, h)) := by
  simp only [IOp.run]
  generalize Opd.eval tm x = w
  cases w <;> try rfl
  rename_i cs
  simp only [vField1]
  cases cs.toList[off]? <;> rfl
theorem E_fieldN (off n : Nat) (x : Opd) : (.field off (some n) x : IOp).run tm h = T.ofOpt ((vFieldN off n (x.eval tm)).map fun v => (v, h)) := by
  simp only [IOp.run]; generalize x.eval tm = v; cases v <;> try rfl
  simp only [vFieldN]
  split <;> rfl
theorem E_indexAddr (z : Nat) (x i : Opd) : (.indexAddr z x i : IOp).run tm h = T.ofOpt ((vIndexAddr z (x.eval tm) (i.eval tm)).map fun v => (v, h)) := by
  simp only [IOp.run]
  generalize x.eval tm = a
  generalize i.eval tm = b
  cases a <;> try (cases b <;> rfl)
  rename_i p _ _
  cases p <;> cases b <;> try rfl
  rename_i n _ _ _ k
  by_cases hc : 0 ≤ k ∧ k < (n : Int)
  · simp only [vIndexAddr, asInt?]; rw [if_pos hc, if_pos hc]; rfl
  · simp only [vIndexAddr, asInt?]; rw [if_neg hc, if_neg hc]; rfl
theorem E_indexAddrArr (n z : Nat) (x i : Opd) : (.indexAddrArr n z x i : IOp).run tm h = T.ofOpt ((vIndexAddrArr n z (x.eval tm) (i.eval tm)).map fun v => (v, h)) := by
  simp only [IOp.run]
  generalize x.eval tm = a
  generalize i.eval tm = b
  cases a <;> try (cases b <;> rfl)
  rename_i p
  cases p <;> cases b <;> try rfl
  rename_i q _ k
  by_cases hc : 0 ≤ k ∧ k < (n : Int)
  · simp only [vIndexAddrArr, asInt?]; rw [if_pos hc, if_pos hc]; rfl
  · simp only [vIndexAddrArr, asInt?]; rw [if_neg hc, if_neg hc]; rfl
theorem E_extract (t : Opd) (i : Nat) : (.extract t i : IOp).run tm h = T.ofOpt ((vExtract i (t.eval tm)).map fun v => (v, h)) := by
  simp only [IOp.run]
  generalize Opd.eval tm t = w
  cases w <;> try rfl
  rename_i cs
  simp only [vExtract]
  cases cs.toList[i]? <;> rfl
theorem E_lenSlice (x : Opd) : (.lenSlice x : IOp).run tm h = T.ofOpt ((vLenSlice (x.eval tm)).map fun v => (v, h)) := by
  simp only [IOp.run]; generalize x.eval tm = v; cases v <;> try rfl
  all_goals (rename_i p; cases p <;> rfl)
theorem E_minmax (isMax : Bool) (l : List Opd) : (.minmax isMax l : IOp).run tm h = T.ofOpt ((vMinmax isMax (l.map (Opd.eval tm))).map fun v => (v, h)) := by
  simp only [IOp.run]
  generalize l.map (Opd.eval tm) = v
  match v with
  | [] => rfl
  | v :: q =>
    cases v <;> try rfl
    rename_i k x
    simp only [vMinmax]
    cases mostOf isMax k x q <;> rfl
theorem D_bin (op : BinOp) (x y : Opd) : D call fuel ar as (⟨d, .bin op x y, none, anc, bar⟩ :: r) i fr tm df h K = DO call fuel ar as (ibin op (x.eval tm) (y.eval tm)) d r i fr tm df h K := D_pure rfl (E_bin op x y)
theorem D_un (op : UnOp) (x : Opd) : D call fuel ar as (⟨d, .un op x, none, anc, bar⟩ :: r) i fr tm df h K = DO call fuel ar as (iun op (x.eval tm)) d r i fr tm df h K := D_pure rfl (E_un op x)
theorem D_pick (c a b : Opd) : D call fuel ar as (⟨d, .pick c a b, none, anc, bar⟩ :: r) i fr tm df h K = DO call fuel ar as (vPick (c.eval tm) (a.eval tm) (b.eval tm)) d r i fr tm df h K := D_pure rfl (E_pick c a b)
theorem D_load1B (a : Opd) : D call fuel ar as (⟨d, .load none a, none, anc, true⟩ :: r) i fr tm df h K = DO call fuel ar as (vLoad1 h (a.eval tm)) d r i [] tm df h K := D_readB rfl (by intro f as h; cases h) (E_load1 a)
theorem D_load1F (a : Opd) : D call fuel ar as (⟨d, .load none a, none, anc, false⟩ :: r) i fr tm df h K = DO call fuel ar as (vLoad1 (seen0 as i fr h) (a.eval tm)) d r i fr tm df h K := D_readF rfl (by intro f as h; cases h) (E_load1 a)
theorem D_loadNB (n : Nat) (a : Opd) : D call fuel ar as (⟨d, .load (some n) a, none, anc, true⟩ :: r) i fr tm df h K = DO call fuel ar as (vLoadN h n (a.eval tm)) d r i [] tm df h K := D_readB rfl (by intro f as h; cases h) (E_loadN n a)
theorem D_loadNF (n : Nat) (a : Opd) : D call fuel ar as (⟨d, .load (some n) a, none, anc, false⟩ :: r) i fr tm df h K = DO call fuel ar as (vLoadN (seen0 as i fr h) n (a.eval tm)) d r i fr tm df h K := D_readF rfl (by intro f as h; cases h) (E_loadN n a)
theorem D_nilCheck (x : Opd) : D call fuel ar as (⟨d, .nilCheck x, none, anc, bar⟩ :: r) i fr tm df h K = DO call fuel ar as (vNil (x.eval tm)) d r i fr tm df h K := D_pure rfl (E_nilCheck x)
theorem D_eqAgg (neg : Bool) (ks : List CK) (x y : Opd) : D call fuel ar as (⟨d, .eqAgg neg ks x y, none, anc, bar⟩ :: r) i fr tm df h K = DO call fuel ar as (vEqAgg neg ks (x.eval tm) (y.eval tm)) d r i fr tm df h K := D_pure rfl (E_eqAgg neg ks x y)
theorem D_eqBool (neg : Bool) (x y : Opd) : D call fuel ar as (⟨d, .eqBool neg x y, none, anc, bar⟩ :: r) i fr tm df h K = DO call fuel ar as (vEqBool neg (x.eval tm) (y.eval tm)) d r i fr tm df h K := D_pure rfl (E_eqBool neg x y)
theorem D_eqPtr (neg : Bool) (x y : Opd) : D call fuel ar as (⟨d, .eqPtr neg x y, none, anc, bar⟩ :: r) i fr tm df h K = DO call fuel ar as (vEqPtr neg (x.eval tm) (y.eval tm)) d r i fr tm df h K := D_pure rfl (E_eqPtr neg x y)
theorem D_conv (k : IntKind) (x : Opd) : D call fuel ar as (⟨d, .conv k x, none, anc, bar⟩ :: r) i fr tm df h K = DO call fuel ar as (vConv k (x.eval tm)) d r i fr tm df h K := D_pure rfl (E_conv k x)
theorem D_fieldAddr (off : Nat) (x : Opd) : D call fuel ar as (⟨d, .fieldAddr off x, none, anc, bar⟩ :: r) i fr tm df h K = DO call fuel ar as (vFieldAddr off (x.eval tm)) d r i fr tm df h K := D_pure rfl (E_fieldAddr off x)
theorem D_field1 (off : Nat) (x : Opd) : D call fuel ar as (⟨d, .field off none x, none, anc, bar⟩ :: r) i fr tm df h K = DO call fuel ar as (vField1 off (x.eval tm)) d r i fr tm df h K := D_pure rfl (E_field1 off x)
theorem D_fieldN (off n : Nat) (x : Opd) : D call fuel ar as (⟨d, .field off (some n) x, none, anc, bar⟩ :: r) i fr tm df h K = DO call fuel ar as (vFieldN off n (x.eval tm)) d r i fr tm df h K := D_pure rfl (E_fieldN off n x)
theorem D_indexAddr (z : Nat) (x j : Opd) : D call fuel ar as (⟨d, .indexAddr z x j, none, anc, bar⟩ :: r) i fr tm df h K = DO call fuel ar as (vIndexAddr z (x.eval tm) (j.eval tm)) d r i fr tm df h K := D_pure rfl (E_indexAddr z x j)
theorem D_indexAddrArr (n z : Nat) (x j : Opd) : D call fuel ar as (⟨d, .indexAddrArr n z x j, none, anc, bar⟩ :: r) i fr tm df h K = DO call fuel ar as (vIndexAddrArr n z (x.eval tm) (j.eval tm)) d r i fr tm df h K := D_pure rfl (E_indexAddrArr n z x j)
theorem D_extract (t : Opd) (j : Nat) : D call fuel ar as (⟨d, .extract t j, none, anc, bar⟩ :: r) i fr tm df h K = DO call fuel ar as (vExtract j (t.eval tm)) d r i fr tm df h K := D_pure rfl (E_extract t j)
theorem D_lenSlice (x : Opd) : D call fuel ar as (⟨d, .lenSlice x, none, anc, bar⟩ :: r) i fr tm df h K = DO call fuel ar as (vLenSlice (x.eval tm)) d r i fr tm df h K := D_pure rfl (E_lenSlice x)
theorem D_minmax (isMax : Bool) (l : List Opd) : D call fuel ar as (⟨d, .minmax isMax l, none, anc, bar⟩ :: r) i fr tm df h K = DO call fuel ar as (vMinmax isMax (l.map (Opd.eval tm))) d r i fr tm df h K := D_pure rfl (E_minmax isMax l)
theorem vEqPtr_some (neg : Bool) (a : Addr) : vEqPtr neg (.pointer (some a)) (.pointer none) = some (.bool neg) := by cases neg <;> rfl
theorem vEqPtr_none (neg : Bool) : vEqPtr neg (.pointer none) (.pointer none) = some (.bool (!neg)) := by cases neg <;> rfl
theorem vBuild_def (zero : List Value) (ps : List (Nat × Nat × Value)) : vBuild zero ps = (match layAt zero ps with | some cs => some (.agg cs.toArray) | none => none) := nr rfl
theorem restored_get {h' : Heap} {f : Nat} {m : List Nat} {hd : List (Nat × Nat)} (hh : h'.hid = hd) (b : Nat) : ({ h' with floor := f, may := m, hid := hd } : Heap).get b = h'.get b := by
  subst hh
  rfl
theorem seen0_hid : (seen0 as i [] h).hid = h.hid := nr rfl
theorem seen0_next : (seen0 as i fr h).next = h.next := nr rfl
theorem seen0_nil_get (b : Nat) : (seen0 as i [] h).get b = h.get b := nr rfl
theorem seen0_fine (hf : h.Fine) (hfr : ∀ x ∈ fr, x.2.2 ≤ h.next) : (seen0 as i fr h).Fine := by
  refine ⟨Nat.le_refl _, fun p hp => ?_⟩
  simp only [seen0, List.mem_append, List.mem_map, List.mem_filter] at hp
  rcases hp with ⟨x, ⟨hx, _⟩, rfl⟩ | hp
  · exact hfr x hx
  · exact hf.2 p hp
theorem seen0_get {b : Nat} (hb : b % 2 = 1 ∨ ∀ x ∈ fr, b / 2 < x.2.1 ∨ x.2.2 ≤ b / 2) : (seen0 as i fr h).get b = h.get b := by
  unfold Heap.get
  by_cases he : b % 2 = 1
  · simp [he, seen0]
  · have hb' := hb.resolve_left he
    have : hides (seen0 as i fr h).hid (b / 2) = hides h.hid (b / 2) := by
      unfold seen0 hides
      simp only [List.any_append]
      have : ((fr.filter fun x => !(as.getD i []).contains x.1).map (·.2)).any (fun p => decide (p.1 ≤ b / 2) && decide (b / 2 < p.2)) = false := by
        rw [List.any_eq_false]
        intro p hp
        simp only [List.mem_map, List.mem_filter] at hp
        obtain ⟨x, ⟨hx, _⟩, rfl⟩ := hp
        have := hb' x hx
        simp only [Bool.and_eq_true, decide_eq_true_eq, not_and]
        omega
      rw [this, Bool.false_or]
    simp only [he, if_false, Heap.own, this]
    rfl
structure Upd (h h' : Heap) (b : Nat) (o : IObj) : Prop where
  get : h'.get b = some o
  other : ∀ b', b' ≠ b → h'.get b' = h.get b'
  next : h'.next = h.next
  floor : h'.floor = h.floor
  may : h'.may = h.may
  hid : h'.hid = h.hid
  ro : h'.ro = h.ro
attribute [irreducible] D DO DGK DB DF ancL seen0
end
end Go.Ideal
namespace Go.Ideal
open Go
section
variable {call : Caller} {fuel : Nat} {tm : List Value} {df : List Nat} {h : Heap} {K : List Fr}
theorem X_range {f : Opd} {ps : List Nat} {asg body : ICode} {Q : IExit × St → Prop} {g : Nat} {first cap : Array Value} (hf : f.eval tm = .func (.func g) first cap)
    (hc : (call (.func (.func g) first cap) [.func (.yield (2 * (h.next + 1))) #[] #[]] ((h.alloc (.deferred true)).alloc (.loop { state := .ready, pending := .normal, tmps := tm, params := ps, assign := asg, body := body, defers := 2 * h.next }))).Is fun p =>
      ∃ lp, p.2.get (2 * (h.next + 1)) = some (.loop lp) ∧ lp.state ≠ .busy ∧ canPut p.2 (2 * (h.next + 1)) = true ∧ (kont call fuel none K (lp.pending, ⟨tm, 2 * h.next :: df, p.2.setB (2 * (h.next + 1)) (.loop { lp with state := .exhausted })⟩)).Is Q) :
    (X call fuel none (.rangeFunc f ps asg body) tm df h K).Is Q := by
  unfold X
  simp only [exec, hf]
  rw [T.bind_assoc]
  refine T.Is.bind hc fun p hp => ?_
  obtain ⟨lp, h1, h2, h3, h4⟩ := hp
  have e1 : (2 * (h.alloc (.deferred true)).next) = 2 * (h.next + 1) := rfl
  simp only [e1, h1]
  rw [if_neg h2, put_eq _ h1, if_pos h3]
  exact h4
noncomputable def onOf : IExit → Bool
  | .normal => true
  | _ => false
theorem callV_yield {env : Env} (n l : Nat) (fs cs : Array Value) (args : List Value) (h : Heap) : callV env (n + 1) (.func (.yield l) fs cs) args h = round (callV env n) n l (fs.toList ++ args) h := by
  unfold callV
  rfl
theorem leafM1 {tm : List Value} {h : Heap} {a m : Nat} {Q : Value × Heap → Prop} (hm : h.get m = some (.deferred true)) (hc : canPut h m = true) (hq : Q (tm.getD a undefV, h.setB m (.deferred false))) : (T.ret (.ret, St.mk tm [m] h)).Is (Fin [.tmp a] Q) := by
  refine ⟨_, _, ?_, rfl, hq⟩
  simp only [shutMarks, hm, put_eq _ hm, hc, if_true]
theorem leafC {tm : List Value} {h : Heap} {a n b : Nat} {cs : List Value} {Q : Value × Heap → Prop} (hp : tm.getD a undefV = .pointer (some ⟨b, 0, none⟩)) (hr : readC (h.get b) 0 n = some cs) (hq : Q (.agg cs.toArray, h)) : (T.ret (.ret, St.mk tm [] h)).Is (Fin [.cell a (some n)] Q) := by
  refine ⟨h, _, rfl, ?_, hq⟩
  have : (IResult.cell a (some n)).val tm h = some (.agg cs.toArray) := by
    unfold IResult.val
    simp only [hp, read_eq, hr, Option.map_some]
  simp [answer, this]
end
end Go.Ideal
namespace Go.Ideal
open Go Go.RowKit Go.ChangeShapes
noncomputable def vLookup (h : Heap) (agg : Option (List CK)) (zero : Value) (ok : Bool) (m k : Value) : Option Value := match imap h agg m k with
  | some (_, _, _, o) => some (if ok then .tuple #[(o.map (·.2)).getD zero, .bool o.isSome] else (o.map (·.2)).getD zero)
  | none => none
noncomputable def vMapUpdate (h : Heap) (agg : Option (List CK)) (m k v : Value) : Option Heap := match imap h agg m k with
  | some (es, c, some r, some (i, _)) => h.put r (some (.map (setVal es i k v) c))
  | some (es, c, some r, none) => h.put r (some (.map (es ++ [⟨k, v, c⟩]) (c + 1)))
  | _ => none
section
variable {call : Caller} {fuel : Nat} {ar : Option Nat} {tm : List Value} {df : List Nat} {h : Heap} {K : List Fr} {r : List IOper} {d : Option Nat} {anc : List Nat} {bar : Bool} {an : List (List Nat)} {ix : Nat} {fr : List (Nat × Nat × Nat)}
theorem E_lookup (agg : Option (List CK)) (zero : Value) (ok : Bool) (m k : Opd) : (.lookup agg zero ok m k : IOp).run tm h = T.ofOpt ((vLookup h agg zero ok (m.eval tm) (k.eval tm)).map fun v => (v, h)) := by
  simp only [IOp.run, vLookup]
  cases imap h agg (m.eval tm) (k.eval tm) <;> rfl
theorem Y_read {op : IOp} {x : Option Value} (hc : ∀ f as, op ≠ .call f as) (hr : op.run tm h = T.ofOpt (x.map fun v => (v, h))) : Y call fuel ar (⟨d, op, none, anc, bar⟩ :: r) tm df h K = ZO call fuel ar x d r tm df h K := by
  have he : op.exec call tm h = op.run tm h := by
    cases op <;> first | rfl | exact absurd rfl (hc _ _)
  rw [Y_op, he, hr, Z_opt]
theorem Y_lookup (agg : Option (List CK)) (zero : Value) (ok : Bool) (m k : Opd) : Y call fuel ar (⟨d, .lookup agg zero ok m k, none, anc, bar⟩ :: r) tm df h K = ZO call fuel ar (vLookup h agg zero ok (m.eval tm) (k.eval tm)) d r tm df h K := Y_read (by intro f as h; cases h) (E_lookup ..)
theorem D_lookupB (agg : Option (List CK)) (zero : Value) (ok : Bool) (m k : Opd) : D call fuel ar an (⟨d, .lookup agg zero ok m k, none, anc, true⟩ :: r) ix fr tm df h K = DO call fuel ar an (vLookup h agg zero ok (m.eval tm) (k.eval tm)) d r ix [] tm df h K := D_readB rfl (by intro f as h; cases h) (E_lookup ..)
theorem D_lookupF (agg : Option (List CK)) (zero : Value) (ok : Bool) (m k : Opd) : D call fuel ar an (⟨d, .lookup agg zero ok m k, none, anc, false⟩ :: r) ix fr tm df h K = DO call fuel ar an (vLookup (seen0 an ix fr h) agg zero ok (m.eval tm) (k.eval tm)) d r ix fr tm df h K := D_readF rfl (by intro f as h; cases h) (E_lookup ..)
theorem Y_mapUpdate (agg : Option (List CK)) (m k v : Opd) : Y call fuel ar (⟨d, .mapUpdate agg m k v, none, anc, bar⟩ :: r) tm df h K = ZH call fuel ar (vMapUpdate h agg (m.eval tm) (k.eval tm) (v.eval tm)) undefV d r tm df K := by
  have he : (IOp.mapUpdate agg m k v).exec call tm h = (match vMapUpdate h agg (m.eval tm) (k.eval tm) (v.eval tm) with | some h' => .ret (undefV, h') | none => .fail) := by
    simp only [IOp.exec, IOp.run, vMapUpdate]
    cases imap h agg (m.eval tm) (k.eval tm) with
    | none => rfl
    | some q =>
      obtain ⟨es, c, r, o⟩ := q
      cases r <;> cases o <;> rfl
  rw [Y_op, he]
  cases vMapUpdate h agg (m.eval tm) (k.eval tm) (v.eval tm) with
  | none => simp [Z, ZH, T.bind]
  | some h' => rw [Z_ret, ZH_some]
noncomputable def DHB (call : Caller) (fuel : Nat) (ar : Option Nat) (an : List (List Nat)) (x : Option Heap) (d : Option Nat) (r : List IOper) (i : Nat) (tm : List Value) (df : List Nat) (K : List Fr) : T (IExit × St) :=
  match x with
  | some h => D call fuel ar an r (i + 1) [] (putDst tm d undefV) df h K
  | none => .fail
theorem DHB_some (h' : Heap) : DHB call fuel ar an (some h') d r ix tm df K = D call fuel ar an r (ix + 1) [] (putDst tm d undefV) df h' K := nr rfl
theorem D_storeB (n : Nat) (a v : Opd) : D call fuel ar an (⟨d, .store n a v, none, anc, true⟩ :: r) ix fr tm df h K = DHB call fuel ar an (vStore h n (a.eval tm) (v.eval tm)) d r ix tm df K := by
  have he : (IOp.store n a v).exec call tm h = (match vStore h n (a.eval tm) (v.eval tm) with | some h' => .ret (undefV, h') | none => .fail) := by
    simp only [IOp.exec, IOp.run]
    generalize Opd.eval tm a = w
    generalize Opd.eval tm v = u
    cases w <;> try rfl
    rename_i p
    cases p <;> try rfl
    rename_i p
    simp only [vStore]
    split
    · cases h.write p (cellsOf u) <;> rfl
    · rfl
  unfold D DHB
  simp only [execDrawn, wants, if_true, IOp.isPure, Bool.false_eq_true, if_false, he]
  cases vStore h n (a.eval tm) (v.eval tm) <;> simp [T.out, D]
end
section
variable {H : Type} {enc : TypeId × Value → H}
end
attribute [irreducible] DHB
end Go.Ideal
namespace Go.Ideal
open Go
noncomputable def vIndexStr (x i : Value) : Option Value := match x, i with
  | .string s, .int _ i => if 0 ≤ i then (match s.data.toList[i.toNat]? with
      | some b => some (.int .u8 b.toNat)
      | none => none) else none
  | _, _ => none
noncomputable def Heap.kill (h : Heap) (b : Nat) : Heap := { h with mem := upd h.mem (b / 2) none }
section
variable {call : Caller} {fuel : Nat} {ar : Option Nat} {tm : List Value} {df : List Nat} {h : Heap} {K : List Fr} {r : List IOper} {d : Option Nat} {anc : List Nat} {bar : Bool}
theorem E_indexStr (x i : Opd) : (.indexStr x i : IOp).run tm h = T.ofOpt ((vIndexStr (x.eval tm) (i.eval tm)).map fun v => (v, h)) := by
  simp only [IOp.run]
  generalize x.eval tm = a
  generalize i.eval tm = b
  cases a <;> try (cases b <;> rfl)
  cases b <;> try rfl
  rename_i s k n
  simp only [asInt?, vIndexStr]
  by_cases hc : 0 ≤ n
  · rw [if_pos hc, if_pos hc]
    cases s.data.toList[n.toNat]? <;> rfl
  · rw [if_neg hc, if_neg hc]; rfl
theorem Y_indexStr (x i : Opd) : Y call fuel ar (⟨d, .indexStr x i, none, anc, bar⟩ :: r) tm df h K = ZO call fuel ar (vIndexStr (x.eval tm) (i.eval tm)) d r tm df h K := Y_read (by intro f as h; cases h) (E_indexStr ..)
end
theorem put_none {h : Heap} {b : Nat} {o : IObj} (hg : h.get b = some o) (hc : canPut h b = true) : h.put b none = some (h.kill b) := by
  unfold Heap.put
  unfold canPut at hc
  have hc' := of_decide_eq_true hc
  have h1 : ¬ b % 2 = 1 := by omega
  have : (h.own (b / 2)).isSome = true := by
    unfold Heap.get at hg
    rw [if_neg h1] at hg
    rw [hg]; rfl
  rw [if_pos ⟨hc'.1, hc'.2, this⟩]
  rfl
theorem kill_get {h : Heap} {b b' : Nat} (hb : b % 2 = 0) (hn : b' ≠ b) : (h.kill b).get b' = h.get b' := by
  unfold Heap.get
  by_cases he : b' % 2 = 1
  · simp [he, Heap.kill]
  · have : b' / 2 ≠ b / 2 := by omega
    simp [he, Heap.own, Heap.kill, look_upd_other _ _ _ _ this]
theorem kill_fine {h : Heap} {b : Nat} (hf : h.Fine) : (h.kill b).Fine := hf
theorem firstN_slice (h : Heap) (z n : Nat) (a : Addr) (l c : Nat) : firstN h z n (.slice (some a) l c) = if n * z = 0 then some [] else h.read { a with spot := none } (n * z) := rfl
end Go.Ideal
namespace Go.Ideal
open Go
def vSlice (z : Nat) (x : Value) (lo hi mx : Option Value) (m : Bool) : Option Value := match x with
  | .slice a len cap => match bounds len cap lo hi mx with
    | some (l, r, c) => if a.all (spotOk z) then some (.slice (a.map fun a => { block := a.block, off := a.off + l * z, spot := if m then none else a.spot }) (r - l) (c - l)) else none
    | none => none
  | _ => none
section
variable {call : Caller} {fuel : Nat} {ar : Option Nat} {tm : List Value} {df : List Nat} {h : Heap} {K : List Fr} {r : List IOper} {d : Option Nat} {anc : List Nat} {bar : Bool} {an : List (List Nat)} {ix : Nat} {fr : List (Nat × Nat × Nat)}
noncomputable def DPF (call : Caller) (fuel : Nat) (ar : Option Nat) (an : List (List Nat)) (x : Option (Value × Heap)) (h : Heap) (d : Option Nat) (r : List IOper) (i : Nat) (fr : List (Nat × Nat × Nat)) (tm : List Value) (df : List Nat) (K : List Fr) : T (IExit × St) :=
  match x with
  | some p => D call fuel ar an r (i + 1) (if h.next < p.2.next then (i, h.next, p.2.next) :: fr else fr) (putDst tm d p.1) df p.2 K
  | none => .fail
noncomputable def DPB (call : Caller) (fuel : Nat) (ar : Option Nat) (an : List (List Nat)) (x : Option (Value × Heap)) (d : Option Nat) (r : List IOper) (i : Nat) (tm : List Value) (df : List Nat) (K : List Fr) : T (IExit × St) :=
  match x with
  | some p => D call fuel ar an r (i + 1) [] (putDst tm d p.1) df p.2 K
  | none => .fail
theorem DPF_some (v : Value) (h' : Heap) : DPF call fuel ar an (some (v, h')) h d r ix fr tm df K = D call fuel ar an r (ix + 1) (if h.next < h'.next then (ix, h.next, h'.next) :: fr else fr) (putDst tm d v) df h' K := nr rfl
theorem DPB_some (v : Value) (h' : Heap) : DPB call fuel ar an (some (v, h')) d r ix tm df K = D call fuel ar an r (ix + 1) [] (putDst tm d v) df h' K := nr rfl
theorem D_boxF (x : Opd) : D call fuel ar an (⟨d, .box x, none, anc, false⟩ :: r) ix fr tm df h K = D call fuel ar an r (ix + 1) ((ix, h.next, h.next + 1) :: fr) (putDst tm d (.pointer (some ⟨2 * h.next, 0, none⟩))) df (h.alloc (.cells (cellsOf (x.eval tm)) 1 false)) K := by
  unfold D
  simp only [execDrawn, wants, if_true, IOp.isPure, Bool.false_eq_true, if_false, IOp.exec, IOp.run, T.out, seenBy_nil _ rfl, Heap.alloc, seen0]
  rw [if_pos (Nat.lt_succ_self _)]
theorem D_boxB (x : Opd) : D call fuel ar an (⟨d, .box x, none, anc, true⟩ :: r) ix fr tm df h K = D call fuel ar an r (ix + 1) [] (putDst tm d (.pointer (some ⟨2 * h.next, 0, none⟩))) df (h.alloc (.cells (cellsOf (x.eval tm)) 1 false)) K := by
  unfold D
  simp only [execDrawn, wants, if_true, IOp.isPure, Bool.false_eq_true, if_false, IOp.exec, IOp.run, T.out]
theorem D_buildSliceF (z len : Nat) (zero : List Value) (ps : List (Nat × Opd)) : D call fuel ar an (⟨d, .buildSlice z len zero ps, none, anc, false⟩ :: r) ix fr tm df h K = DPF call fuel ar an (pBuildSlice h z len zero (ps.map fun p => (p.1 * z, z, p.2.eval tm))) h d r ix fr tm df K := by
  unfold DPF pBuildSlice D
  simp only [execDrawn, wants, if_true, IOp.isPure, Bool.false_eq_true, if_false, IOp.exec, IOp.run, seenBy_nil _ rfl]
  cases layAt (List.replicate len zero).flatten (ps.map fun p => (p.1 * z, z, p.2.eval tm)) with
  | none => rfl
  | some cs => simp only [T.out, Heap.alloc, seen0]; rfl
theorem D_buildSliceB (z len : Nat) (zero : List Value) (ps : List (Nat × Opd)) : D call fuel ar an (⟨d, .buildSlice z len zero ps, none, anc, true⟩ :: r) ix fr tm df h K = DPB call fuel ar an (pBuildSlice h z len zero (ps.map fun p => (p.1 * z, z, p.2.eval tm))) d r ix tm df K := by
  unfold DPB pBuildSlice D
  simp only [execDrawn, wants, if_true, IOp.isPure, Bool.false_eq_true, if_false, IOp.exec, IOp.run]
  cases layAt (List.replicate len zero).flatten (ps.map fun p => (p.1 * z, z, p.2.eval tm)) with
  | none => rfl
  | some cs => rfl
theorem D_appendB (z bytes : Nat) (s x : Opd) : D call fuel ar an (⟨d, .append z bytes s x, none, anc, true⟩ :: r) ix fr tm df h K = DPB call fuel ar an (iappend h z bytes (s.eval tm) (x.eval tm)) d r ix tm df K := by
  unfold DPB D
  simp only [execDrawn, wants, if_true, IOp.isPure, Bool.false_eq_true, if_false, IOp.exec, IOp.run]
  cases iappend h z bytes (s.eval tm) (x.eval tm) <;> rfl
theorem D_makeMapF : D call fuel ar an (⟨d, .makeMap, none, anc, false⟩ :: r) ix fr tm df h K = D call fuel ar an r (ix + 1) ((ix, h.next, h.next + 1) :: fr) (putDst tm d (.map (some (2 * h.next)))) df (h.alloc (.map [] 0)) K := by
  unfold D
  simp only [execDrawn, wants, if_true, IOp.isPure, Bool.false_eq_true, if_false, IOp.exec, IOp.run, T.out, seenBy_nil _ rfl, Heap.alloc, seen0]
  rw [if_pos (Nat.lt_succ_self _)]
theorem E_slice (z : Nat) (x : Opd) (lo hi mx : Option Opd) : (.slice z x lo hi mx : IOp).run tm h = T.ofOpt ((vSlice z (x.eval tm) (lo.map (Opd.eval tm)) (hi.map (Opd.eval tm)) (mx.map (Opd.eval tm)) mx.isSome).map fun v => (v, h)) := by
  simp only [IOp.run]
  generalize x.eval tm = v
  cases v <;> try rfl
  simp only [vSlice]
  split
  · rename_i l r m hb
    simp only [hb]
    split <;> rfl
  · rename_i hb
    simp only [hb]
    rfl
theorem Y_slice (z : Nat) (x : Opd) (lo hi mx : Option Opd) : Y call fuel ar (⟨d, .slice z x lo hi mx, none, anc, bar⟩ :: r) tm df h K = ZO call fuel ar (vSlice z (x.eval tm) (lo.map (Opd.eval tm)) (hi.map (Opd.eval tm)) (mx.map (Opd.eval tm)) mx.isSome) d r tm df h K := Y_read (by intro f as h; cases h) (E_slice ..)
theorem D_slice (z : Nat) (x : Opd) (lo hi mx : Option Opd) : D call fuel ar an (⟨d, .slice z x lo hi mx, none, anc, bar⟩ :: r) ix fr tm df h K = DO call fuel ar an (vSlice z (x.eval tm) (lo.map (Opd.eval tm)) (hi.map (Opd.eval tm)) (mx.map (Opd.eval tm)) mx.isSome) d r ix fr tm df h K := D_pure rfl (E_slice ..)
theorem D_func (fn : Fn) (fs cs : List Opd) : D call fuel ar an (⟨d, .func fn fs cs, none, anc, bar⟩ :: r) ix fr tm df h K = D call fuel ar an r (ix + 1) fr (putDst tm d (.func fn (fs.map (Opd.eval tm)).toArray (cs.map (Opd.eval tm)).toArray)) df h K := (D_pure (x := some (.func fn (fs.map (Opd.eval tm)).toArray (cs.map (Opd.eval tm)).toArray)) rfl rfl).trans (DO_some _)
end
structure Chg (S : Nat → Prop) (h h' : Heap) : Prop where
  next : h.next ≤ h'.next
  old : ∀ b, (b % 2 = 1 ∨ b < 2 * h.next) → ¬ S b → h'.get b = h.get b
  floor : h'.floor = h.floor
  may : h'.may = h.may
  hid : h'.hid = h.hid
  ro : h'.ro = h.ro
theorem Chg.refl (S : Nat → Prop) (h : Heap) : Chg S h h := ⟨Nat.le_refl _, fun _ _ _ => rfl, rfl, rfl, rfl, rfl⟩
theorem Chg.trans {S : Nat → Prop} {a b c : Heap} (h : Chg S a b) (k : Chg S b c) : Chg S a c :=
  ⟨Nat.le_trans h.next k.next, fun x hx hs => (k.old x (by have := h.next; omega) hs).trans (h.old x hx hs), k.floor.trans h.floor, k.may.trans h.may, k.hid.trans h.hid, k.ro.trans h.ro⟩
theorem Chg.mono {S S' : Nat → Prop} {a b : Heap} (h : Chg S a b) (hs : ∀ x, (x % 2 = 1 ∨ x < 2 * a.next) → S x → S' x) : Chg S' a b :=
  ⟨h.next, fun x hx hn => h.old x hx fun hh => hn (hs x hx hh), h.floor, h.may, h.hid, h.ro⟩
theorem Chg.then {S S' : Nat → Prop} {a b c : Heap} (h : Chg S a b) (k : Chg S' b c) (hs : ∀ x, (x % 2 = 1 ∨ x < 2 * a.next) → S' x → S x) : Chg S a c :=
  ⟨Nat.le_trans h.next k.next, fun x hx hn => (k.old x (by have := h.next; omega) (fun hh => hn (hs x hx hh))).trans (h.old x hx hn), k.floor.trans h.floor, k.may.trans h.may, k.hid.trans h.hid, k.ro.trans h.ro⟩
theorem Chg.alloc {S : Nat → Prop} {a b : Heap} (h : Chg S a b) (o : IObj) : Chg S a (b.alloc o) :=
  ⟨Nat.le_succ_of_le h.next, fun x hx hs => (get_alloc_old (by have := h.next; omega)).trans (h.old x hx hs), h.floor, h.may, h.hid, h.ro⟩
theorem Chg.setB {S : Nat → Prop} {a b : Heap} (h : Chg S a b) (k : Nat) (o : IObj) (hk : k % 2 = 0) (hs : k < 2 * a.next → S k) : Chg S a (b.setB k o) :=
  ⟨h.next, fun x hx hn => (get_setB_other hk (by
    rintro rfl
    rcases hx with e | e
    · omega
    · exact hn (hs e))).trans (h.old x hx hn), h.floor, h.may, h.hid, h.ro⟩
theorem Chg.fine {S : Nat → Prop} {a b : Heap} (h : Chg S a b) (hf : a.Fine) : b.Fine := by
  refine ⟨by rw [h.floor]; exact Nat.le_trans hf.1 h.next, fun p hp => ?_⟩
  rw [h.hid] at hp
  exact Nat.le_trans (hf.2 p hp) h.next
theorem Ext.chg {a b : Heap} (h : Ext a b) (S : Nat → Prop) : Chg S a b := ⟨h.next, fun x hx _ => h.old x hx, h.floor, h.may, h.hid, h.ro⟩
theorem Chg.ext {S : Nat → Prop} {a b : Heap} (h : Chg S a b) (hs : ∀ x, (x % 2 = 1 ∨ x < 2 * a.next) → ¬ S x) : Ext a b := ⟨h.next, fun x hx => h.old x hx (hs x hx), h.floor, h.may, h.hid, h.ro⟩
theorem setAt_zero : ∀ (n c : List Value), n.length ≤ c.length → setAt c 0 n = n ++ c.drop n.length
  | [], c, _ => by simp [setAt]
  | v :: n, [], h => by simp at h
  | v :: n, x :: c, h => by
    have shift : ∀ (n c : List Value) (i : Nat) (x : Value), setAt (x :: c) (i + 1) n = x :: setAt c i n := by
      intro n
      induction n with
      | nil => intro c i x; rfl
      | cons v n ih => intro c i x; simp only [setAt, List.set_cons_succ, ih]
    simp only [setAt, List.set_cons_zero, Nat.zero_add, shift, List.length_cons, List.drop_succ_cons, List.cons_append]
    rw [setAt_zero n c (by simpa using h)]
theorem setAt_shift : ∀ (a n c : List Value) (i : Nat), setAt (a ++ c) (a.length + i) n = a ++ setAt c i n
  | a, [], c, i => rfl
  | a, v :: n, c, i => by
    have : (a ++ c).set (a.length + i) v = a ++ c.set i v := by
      rw [List.set_append_right _ _ (by omega)]
      congr 2
      omega
    rw [setAt, this, setAt, Nat.add_assoc, setAt_shift a n]
theorem setAt_append (a n c : List Value) (h : n.length ≤ c.length) : setAt (a ++ c) a.length n = a ++ (n ++ c.drop n.length) := by
  have := setAt_shift a n c 0
  rw [Nat.add_zero] at this
  rw [this, setAt_zero n c h]
section
variable {α : Type} {z : Nat} {g : α → List Value}
theorem flatMap_len (hg : ∀ x, (g x).length = z) : ∀ (l : List α), (l.flatMap g).length = l.length * z
  | [] => by simp
  | a :: l => by rw [List.flatMap_cons, List.length_append, flatMap_len hg l, hg, List.length_cons, Nat.succ_mul]; omega
theorem setAt_flatMap (hg : ∀ x, (g x).length = z) : ∀ (l : List α) (i : Nat) (x : α) (rest : List Value), i < l.length → setAt (l.flatMap g ++ rest) (i * z) (g x) = (l.set i x).flatMap g ++ rest
  | [], i, x, rest, h => by simp at h
  | a :: l, 0, x, rest, h => by
    rw [List.flatMap_cons, List.append_assoc, Nat.zero_mul, setAt_zero _ _ (by rw [List.length_append, hg, hg]; omega), List.set_cons_zero, List.flatMap_cons, List.append_assoc, hg]
    rw [show z = (g a).length from (hg a).symm, List.drop_left]
  | a :: l, i + 1, x, rest, h => by
    rw [List.flatMap_cons, List.append_assoc, show (i + 1) * z = (g a).length + i * z by rw [hg, Nat.succ_mul]; omega, setAt_shift, setAt_flatMap hg l i x rest (by simpa using h), List.set_cons_succ, List.flatMap_cons, List.append_assoc]
def Sl (z : Nat) (g : α → List Value) (h : Heap) (v : Value) (sb : Option Nat) (l : List α) : Prop :=
  (l = [] ∧ v = .slice none 0 0 ∧ sb = none) ∨
  ∃ b c rest, v = .slice (some ⟨b, 0, some z⟩) l.length c ∧ sb = some b ∧ l.length ≤ c ∧ b % 2 = 0 ∧ (h.floor ≤ b / 2 ∨ b / 2 ∈ h.may) ∧ b < 2 * h.next ∧ rest.length = (c - l.length) * z ∧ h.get b = some (.cells (l.flatMap g ++ rest) z true)
theorem Sl.get {h h' : Heap} {v : Value} {sb : Option Nat} {l : List α} (hs : Sl z g h v sb l) (hg : ∀ b, some b = sb → h'.get b = h.get b) (hn : h.next ≤ h'.next) (hfl : h'.floor = h.floor) (hmy : h'.may = h.may) : Sl z g h' v sb l := by
  rcases hs with q | ⟨b, c, rest, b1, b2, b3, b4, b5, b6, b7, b8⟩
  · exact Or.inl q
  · exact Or.inr ⟨b, c, rest, b1, b2, b3, b4, by rw [hfl, hmy]; exact b5, Nat.lt_of_lt_of_le b6 (by omega), b7, (hg b b2.symm).trans b8⟩
theorem Sl.chg {S : Nat → Prop} {h h' : Heap} {v : Value} {sb : Option Nat} {l : List α} (hs : Sl z g h v sb l) (hc : Chg S h h') (hn : ∀ b, some b = sb → ¬ S b) : Sl z g h' v sb l := by
  refine hs.get (fun b hb => hc.old b ?_ (hn b hb)) hc.next hc.floor hc.may
  rcases hs with q | ⟨b', c, rest, b1, b2, b3, b4, b5, b6, b7, b8⟩
  · rw [q.2.2] at hb; cases hb
  · rw [b2] at hb; cases hb; exact Or.inr b6
theorem Sl.lt {h : Heap} {v : Value} {sb : Option Nat} {l : List α} (hs : Sl z g h v sb l) {b : Nat} (hb : some b = sb) : b < 2 * h.next ∧ b % 2 = 0 := by
  rcases hs with q | ⟨b', c, rest, b1, b2, b3, b4, b5, b6, b7, b8⟩
  · rw [q.2.2] at hb; cases hb
  · rw [b2] at hb; cases hb; exact ⟨b6, b4⟩
theorem Sl.val {h : Heap} {v : Value} {sb : Option Nat} {l : List α} (hs : Sl z g h v sb l) : ∃ p c, v = .slice p l.length c ∧ (p = none ↔ sb = none) ∧ (0 < l.length → ∃ b, p = some ⟨b, 0, some z⟩ ∧ sb = some b) := by
  rcases hs with ⟨rfl, rfl, rfl⟩ | ⟨b', c, rest, b1, b2, _⟩
  · exact ⟨none, 0, rfl, by simp, fun h => by simp at h⟩
  · exact ⟨_, c, b1, by simp [b2], fun _ => ⟨b', rfl, b2⟩⟩
theorem Sl.block {h : Heap} {v : Value} {sb : Option Nat} {l : List α} (hs : Sl z g h v sb l) (hl : 0 < l.length) : ∃ b c rest, v = .slice (some ⟨b, 0, some z⟩) l.length c ∧ sb = some b ∧ l.length ≤ c ∧ b % 2 = 0 ∧ (h.floor ≤ b / 2 ∨ b / 2 ∈ h.may) ∧ b < 2 * h.next ∧ rest.length = (c - l.length) * z ∧ h.get b = some (.cells (l.flatMap g ++ rest) z true) := by
  rcases hs with ⟨rfl, _⟩ | q
  · simp at hl
  · exact q
theorem rd_at (hg : ∀ x, (g x).length = z) {l : List α} {i : Nat} {x : α} {rest : List Value} {t : Bool} (hi : l[i]? = some x) {h : Heap} {b zz : Nat} (hb : h.get b = some (.cells (l.flatMap g ++ rest) zz t)) {k m : Nat} (hk : k + m ≤ z) : readC (h.get b) (i * z + k) m = readN (g x) k m := by
  rw [hb, ← readN_flatMap hg l i x k m hi hk]
  have hlt := (List.getElem?_eq_some_iff.1 hi).1
  have hle : i * z + k + m ≤ l.length * z := by
    have : (i + 1) * z ≤ l.length * z := Nat.mul_le_mul_right z hlt
    rw [Nat.succ_mul] at this
    omega
  have hfl := flatMap_len hg l
  simp only [readC, readN]
  rw [if_pos (by rw [List.length_append]; omega), if_pos (by omega), List.drop_append_of_le_length (by omega), List.take_append_of_le_length (by rw [List.length_drop]; omega)]
theorem rd_all (hg : ∀ x, (g x).length = z) {l : List α} {i : Nat} {x : α} {rest : List Value} {t : Bool} (hi : l[i]? = some x) {h : Heap} {b zz : Nat} (hb : h.get b = some (.cells (l.flatMap g ++ rest) zz t)) : readC (h.get b) (i * z) z = some (g x) := by
  have := rd_at hg hi hb (k := 0) (m := z) (by omega)
  rw [Nat.add_zero] at this
  rw [this]
  have h0 := hg x
  simp only [readN]
  rw [if_pos (by omega), List.drop_zero, List.take_of_length_le (by omega)]
theorem wr_at (hg : ∀ x, (g x).length = z) (hgo : ∀ x, (g x).all oneCell = true) {l : List α} {i : Nat} {x : α} {rest : List Value} {t : Bool} (hi : i < l.length) {h : Heap} {b zz : Nat} (hb : h.get b = some (.cells (l.flatMap g ++ rest) zz t)) (hc : canPut h b = true) : writeC (h.get b) h b (i * z) (g x) = some (h.setB b (.cells ((l.set i x).flatMap g ++ rest) zz t)) := by
  rw [hb, writeC_cells]
  have hfl := flatMap_len hg l
  have hle : i * z + z ≤ l.length * z := by
    have : (i + 1) * z ≤ l.length * z := Nat.mul_le_mul_right z hi
    rw [Nat.succ_mul] at this
    omega
  rw [if_pos ⟨by rw [hg, List.length_append]; omega, hgo x, hc⟩, setAt_flatMap hg l i x rest hi]
theorem sl_append (hz : 0 < z) (hg : ∀ x, (g x).length = z) (hgo : ∀ x, (g x).all oneCell = true) {h : Heap} {v : Value} {sb : Option Nat} {l : List α} {x : α} {nb bytes zz : Nat} {t : Bool} (hf : h.Fine) (hv : Sl z g h v sb l) (hx : h.get nb = some (.cells (g x) zz t)) (hlen : (l.length + 1) * bytes ≤ roomMost) (hb1 : 1 ≤ bytes) :
    ∃ v' h' sb', iappend h z bytes v (.slice (some ⟨nb, 0, none⟩) 1 1) = some (v', h') ∧ Sl z g h' v' sb' (l ++ [x]) ∧ (sb' = sb ∨ sb' = some (2 * h.next)) ∧ Chg (fun b => some b = sb) h h' := by
  have hnew : firstN h z 1 (.slice (some ⟨nb, 0, none⟩) 1 1) = some (g x) := by
    rw [firstN_slice, if_neg (by omega)]
    show h.read ⟨nb, 0, none⟩ (1 * z) = _
    rw [read_eq, hx]
    simp only [readC, readN]
    rw [if_pos (by rw [hg]; omega)]
    simp only [List.drop_zero]
    rw [List.take_of_length_le (by rw [hg]; omega)]
  have hroom : l.length + 1 ≤ roomMost := Nat.le_trans (by
    have := Nat.mul_le_mul_left (l.length + 1) hb1
    omega) hlen
  rcases hv with ⟨rfl, rfl, rfl⟩ | ⟨b, c, rest, rfl, rfl, hc, hb, hbf, hbx, hrest, hgb⟩
  · refine ⟨.slice (some ⟨2 * h.next, 0, some z⟩) 1 1, h.alloc (.cells (g x) z true), some (2 * h.next), ?_, Or.inr ⟨2 * h.next, 1, [], rfl, rfl, Nat.le_refl _, by omega, ?_, by rw [alloc_next]; omega, by simp, ?_⟩, Or.inr rfl, (Chg.refl _ h).alloc _⟩
    · unfold iappend
      simp only [lenOf?]
      rw [if_neg (by omega)]
      simp only [hnew]
      rw [if_neg (by omega), if_pos ⟨by simpa using hlen, by simpa using hroom⟩]
      have : firstN h z 0 (.slice none 0 0) = some [] := rfl
      simp only [this, List.nil_append, Nat.zero_add]
    · have := hf.1
      refine Or.inl ?_
      show h.floor ≤ _
      omega
    · rw [get_alloc_new hf]; simp
  · have hfll := flatMap_len hg l
    by_cases hlt : l.length + 1 ≤ c
    · have hsp : (c - l.length) * z = (c - (l.length + 1)) * z + z := by
        rw [← Nat.succ_mul]; congr 1; omega
      have hcp : canPut h b = true := decide_eq_true ⟨hb, hbf⟩
      refine ⟨.slice (some ⟨b, 0, some z⟩) (l.length + 1) c, h.setB b (.cells (l.flatMap g ++ (g x ++ rest.drop (g x).length)) z true), some b, ?_, Or.inr ⟨b, c, rest.drop z, by simp, rfl, by simpa using hlt, hb, hbf, hbx, by rw [List.length_drop, List.length_append, List.length_singleton]; omega, ?_⟩, Or.inl rfl, (Chg.refl _ h).setB b _ hb fun _ => rfl⟩
      · unfold iappend
        simp only [lenOf?]
        rw [if_neg (by omega)]
        simp only [hnew]
        rw [if_pos hlt]
        have : h.write ⟨b, 0 + l.length * z, none⟩ (g x) = some (h.setB b (.cells (l.flatMap g ++ (g x ++ rest.drop (g x).length)) z true)) := by
          rw [write_eq, hgb, writeC_cells, if_pos ⟨by rw [List.length_append, hg]; omega, hgo x, hcp⟩]
          rw [show 0 + l.length * z = (l.flatMap g).length by omega, setAt_append _ _ _ (by rw [hg]; omega)]
        simp only [this]
      · rw [get_setB_same hb (by rw [hgb]; rfl), hg]
        simp
    · have hce : c = l.length := by omega
      subst hce
      have hr0 : rest = [] := List.eq_nil_of_length_eq_zero (by rw [hrest]; simp)
      subst hr0
      rw [List.append_nil] at hgb
      have hold : firstN h z l.length (.slice (some ⟨b, 0, some z⟩) l.length l.length) = some (l.flatMap g) := by
        rw [firstN_slice]
        by_cases h0 : l.length * z = 0
        · rw [if_pos h0]
          have : l.flatMap g = [] := List.eq_nil_of_length_eq_zero (by rw [hfll]; exact h0)
          rw [this]
        · rw [if_neg h0]
          show h.read ⟨b, 0, none⟩ (l.length * z) = _
          rw [read_eq, hgb]
          simp only [readC, readN]
          rw [if_pos (by omega)]
          simp only [List.drop_zero]
          rw [List.take_of_length_le (by omega)]
      have hcp : canPut h b = true := decide_eq_true ⟨hb, hbf⟩
      refine ⟨.slice (some ⟨2 * h.next, 0, some z⟩) (l.length + 1) (l.length + 1), (h.kill b).alloc (.cells (l.flatMap g ++ g x) z true), some (2 * h.next), ?_, Or.inr ⟨2 * h.next, l.length + 1, [], by simp, by simp, by simp, by omega, ?_, ?_, by simp, ?_⟩, Or.inr rfl, ?_⟩
      · unfold iappend
        simp only [lenOf?]
        rw [if_neg (by omega)]
        simp only [hnew]
        rw [if_neg (by omega), if_pos ⟨hlen, hroom⟩]
        simp only [hold]
        have e1 : spotOk z ⟨b, 0, some z⟩ = true := by simp [spotOk]
        have e2 : isCells h b = true := by unfold isCells; rw [hgb]
        have e3 : reaches h z ⟨b, 0, some z⟩ l.length = true := by
          unfold reaches
          simp only [hgb, hfll, Nat.zero_add, beq_self_eq_true, Bool.and_self]
        simp only [e1, e2, e3, Bool.not_true, Bool.or_self, Bool.false_eq_true, if_false, if_true, hgo, put_none hgb hcp]
        rfl
      · have := hf.1
        refine Or.inl ?_
        show h.floor ≤ _
        omega
      · show 2 * h.next < 2 * (h.next + 1)
        omega
      · have : ((h.kill b).alloc (.cells (l.flatMap g ++ g x) z true)).get (2 * (h.kill b).next) = _ := get_alloc_new (kill_fine (b := b) hf)
        have e : (h.kill b).next = h.next := rfl
        rw [e] at this
        rw [this]
        simp
      · refine ⟨Nat.le_succ _, fun y hy hn => ?_, rfl, rfl, rfl, rfl⟩
        refine (get_alloc_old (h := h.kill b) ?_).trans (kill_get hb fun e => hn (by rw [e]))
        show y ≠ 2 * h.next
        omega
end
theorem restored_nil (an : List (List Nat)) (i : Nat) (h : Heap) : ({ next := h.next, mem := (seen0 an i [] h).mem, ro := (seen0 an i [] h).ro, floor := h.floor, may := h.may, hid := h.hid } : Heap) = h := by
  unfold seen0; rfl
theorem seen0_keep (an : List (List Nat)) (i : Nat) (h : Heap) : (if h.next < (seen0 an i [] h).next then (i, h.next, (seen0 an i [] h).next) :: [] else ([] : List (Nat × Nat × Nat))) = [] := by
  rw [seen0_next, if_neg (Nat.lt_irrefl _)]
attribute [irreducible] DPF DPB
end Go.Ideal
