import Derived.CallsIn
namespace Go.Ideal
open Go
inductive T (α : Type) where
  | ret (a : α)
  | fail
  | ask (n : Nat) (k : Nat → T α)
def T.bind {α β : Type} : T α → (α → T β) → T β
  | .ret a, f => f a
  | .fail, _ => .fail
  | .ask n k, f => .ask n fun i => (k i).bind f
def T.ofOpt {α : Type} : Option α → T α
  | some a => .ret a
  | none => .fail
def T.All {α : Type} (Q : α → Prop) : T α → Prop
  | .ret a => Q a
  | .fail => False
  | .ask n k => 0 < n ∧ ∀ i, i < n → (k i).All Q
inductive Opd where
  | tmp (t : Nat)
  | const (v : Value)
  deriving Inhabited
inductive CK where
  | int
  | bool
  | str
  deriving Inhabited
inductive IOp where
  | move (x : Opd)
  | pick (c a b : Opd)
  | box (x : Opd)
  | build (zero : List Value) (parts : List (Nat × Nat × Opd))
  | buildSlice (z len : Nat) (zero : List Value) (parts : List (Nat × Opd))
  | load (n : Option Nat) (a : Opd)
  | store (n : Nat) (a v : Opd)
  | nilCheck (x : Opd)
  | bin (op : BinOp) (x y : Opd)
  | eqAgg (neg : Bool) (ks : List CK) (x y : Opd)
  | eqBool (neg : Bool) (x y : Opd)
  | eqPtr (neg : Bool) (x y : Opd)
  | eqSlice (neg : Bool) (x y : Opd)
  | eqMap (neg : Bool) (x y : Opd)
  | eqFunc (neg : Bool) (x y : Opd)
  | convStr (x : Opd)
  | un (op : UnOp) (x : Opd)
  | conv (k : IntKind) (x : Opd)
  | strBytes (x : Opd)
  | bytesStr (x : Opd)
  | func (fn : Fn) (first captured : List Opd)
  | makeMap
  | makeSlice (z bytes : Nat) (zero : List Value) (len cap : Opd)
  | sliceStr (x : Opd) (lo hi : Option Opd)
  | slice (z : Nat) (x : Opd) (lo hi mx : Option Opd)
  | sliceArr (n z : Nat) (x : Opd) (lo hi mx : Option Opd)
  | fieldAddr (off : Nat) (x : Opd)
  | field (off : Nat) (n : Option Nat) (x : Opd)
  | indexAddr (z : Nat) (x i : Opd)
  | indexAddrArr (n z : Nat) (x i : Opd)
  | indexStr (x i : Opd)
  | indexAgg (n z : Nat) (m : Option Nat) (x i : Opd)
  | lookup (key : Option (List CK)) (zero : Value) (commaOk : Bool) (m k : Opd)
  | mapUpdate (key : Option (List CK)) (m k v : Opd)
  | mapEntry (key : Option (List CK)) (zero : Value) (m k : Opd)
  | entryStore (m s v : Opd)
  | rangeMap (m : Opd)
  | nextMap (it : Opd)
  | entryMap (it : Opd)
  | convBytes (x : Opd)
  | extract (t : Opd) (i : Nat)
  | call (f : Opd) (args : List Opd)
  | append (z bytes : Nat) (s x : Opd)
  | copy (z : Nat) (d s : Opd)
  | delete (key : Option (List CK)) (m k : Opd)
  | lenStr (x : Opd)
  | lenSlice (x : Opd)
  | lenMap (x : Opd)
  | minmax (isMax : Bool) (args : List Opd)
  | clearSlice (z : Nat) (zero : List Value) (x : Opd)
  | bad
  deriving Inhabited
structure IOper where
  dst : Option Nat
  op : IOp
  guard : Option (Nat × Bool)
  anc : List Nat
  bar : Bool
  deriving Inhabited
def IOp.opds : IOp → List Opd
  | .move x | .box x | .load _ x | .nilCheck x | .convStr x | .un _ x | .conv _ x | .strBytes x | .bytesStr x | .fieldAddr _ x | .field _ _ x | .rangeMap x | .nextMap x | .entryMap x | .convBytes x | .extract x _
  | .lenStr x | .lenSlice x | .lenMap x | .clearSlice _ _ x => [x]
  | .pick c a b => [c, a, b]
  | .build _ ps => ps.map (·.2.2)
  | .buildSlice _ _ _ ps => ps.map (·.2)
  | .store _ a v => [a, v]
  | .bin _ x y | .eqAgg _ _ x y | .eqBool _ x y | .eqPtr _ x y | .eqSlice _ x y | .eqMap _ x y | .eqFunc _ x y | .makeSlice _ _ _ x y | .indexAddr _ x y | .indexAddrArr _ _ x y | .indexStr x y | .indexAgg _ _ _ x y
  | .lookup _ _ _ x y | .mapEntry _ _ x y | .append _ _ x y | .copy _ x y | .delete _ x y => [x, y]
  | .func _ fs cs => fs ++ cs
  | .sliceStr x lo hi => x :: (lo.toList ++ hi.toList)
  | .slice _ x lo hi mx | .sliceArr _ _ x lo hi mx => x :: (lo.toList ++ hi.toList ++ mx.toList)
  | .mapUpdate _ m k v | .entryStore m k v => [m, k, v]
  | .call f as => f :: as
  | .minmax _ as => as
  | .makeMap | .bad => []
def IOper.names (o : IOper) : List Nat :=
  o.dst.toList ++ (o.op.opds.filterMap fun x => match x with | .tmp t => some t | .const _ => none) ++ (match o.guard with | some (t, _) => [t] | none => [])
inductive ICode where
  | skip
  | region (ops : List IOper)
  | drawn (ops : List IOper)
  | seq (a b : ICode)
  | cond (c : Opd) (t e : ICode)
  | block (id : Nat) (body : ICode)
  | loop (body : ICode)
  | rangeFunc (f : Opd) (params : List Nat) (assign body : ICode)
  | exit (id : Nat)
  | ret
  | bad
  deriving Inhabited
inductive IExit where
  | normal
  | exit (id : Nat)
  | ret
inductive IResult where
  | tmp (t : Nat)
  | cell (a : Nat) (n : Option Nat)
  deriving Inhabited
structure IFunc where
  ntmps : Nat
  results : List IResult
  body : ICode
  deriving Inhabited
structure Ent where
  key : Value
  val : Value
  born : Nat
structure ILoop where
  state : LoopState
  pending : IExit
  tmps : List Value
  params : List Nat
  assign : ICode
  body : ICode
  defers : Nat
inductive IObj where
  | cells (c : List Value) (z : Nat) (tail : Bool)
  | map (es : List Ent) (clock : Nat)
  | iter (m : Option Nat) (since : Nat) (seen : List Nat) (last : Nat)
  | loop (r : ILoop)
  | deferred (opened : Bool)
structure Heap where
  next : Nat
  mem : List (Nat × Option IObj)
  ro : Nat → Option (List Value × Nat)
  floor : Nat
  may : List Nat
  hid : List (Nat × Nat)
def look : List (Nat × Option IObj) → Nat → Option IObj
  | [], _ => none
  | (k, o) :: r, n => if k = n then o else look r n
def upd : List (Nat × Option IObj) → Nat → Option IObj → List (Nat × Option IObj)
  | [], n, o => [(n, o)]
  | (k, x) :: r, n, o => if k = n then (k, o) :: r else (k, x) :: upd r n o
def hides (l : List (Nat × Nat)) (k : Nat) : Bool := l.any fun p => decide (p.1 ≤ k) && decide (k < p.2)
def Heap.own (h : Heap) (k : Nat) : Option IObj := if hides h.hid k then none else look h.mem k
def Heap.get (h : Heap) (b : Nat) : Option IObj :=
  if b % 2 = 1 then (h.ro (b / 2)).map fun p => .cells p.1 p.2 true else h.own (b / 2)
def Heap.alloc (h : Heap) (o : IObj) : Heap := { h with next := h.next + 1, mem := (h.next, some o) :: h.mem }
def Heap.put (h : Heap) (b : Nat) (o : Option IObj) : Option Heap :=
  if b % 2 = 0 ∧ (h.floor ≤ b / 2 ∨ b / 2 ∈ h.may) ∧ (h.own (b / 2)).isSome then some { h with mem := upd h.mem (b / 2) o } else none
def undefV : Value := .tuple #[]
def Opd.eval (tm : List Value) : Opd → Value
  | .tmp t => tm.getD t undefV
  | .const v => v
def cellsOf : Value → List Value
  | .agg cs => cs.toList
  | v => [v]
def oneCell : Value → Bool
  | .agg _ | .tuple _ => false
  | _ => true
def setAt : List Value → Nat → List Value → List Value
  | c, _, [] => c
  | c, i, v :: vs => setAt (c.set i v) (i + 1) vs
def readN (c : List Value) (off n : Nat) : Option (List Value) := if off + n ≤ c.length then some ((c.drop off).take n) else none
def Heap.read (h : Heap) (a : Addr) (n : Nat) : Option (List Value) :=
  match h.get a.block with
  | some (.cells c _ _) => if a.spot.isNone then readN c a.off n else none
  | _ => none
def Heap.write (h : Heap) (a : Addr) (vs : List Value) : Option Heap :=
  match h.get a.block with
  | some (.cells c z t) => if a.spot.isNone ∧ a.off + vs.length ≤ c.length ∧ vs.all oneCell then h.put a.block (some (.cells (setAt c a.off vs) z t)) else none
  | _ => none
def asInt? : Value → Option Int
  | .int _ n => some n
  | _ => none
def cellEq : CK → Value → Value → Option Bool
  | .int, .int k a, .int k' b => if k = k' then some (a == b) else none
  | .bool, .bool a, .bool b => some (a == b)
  | .str, .string a, .string b => some (a.toList == b.toList)
  | _, _, _ => none
def cellsEq : List CK → List Value → List Value → Option Bool
  | [], [], [] => some true
  | c :: cs, x :: xs, y :: ys => match cellEq c x y with
    | some true => cellsEq cs xs ys
    | some false => some false
    | none => none
  | _, _, _ => none
def aggEq (ks : List CK) : Value → Value → Option Bool
  | .agg a, .agg b => cellsEq ks a.toList b.toList
  | _, _ => none
def keyEq : Option (List CK) → Value → Value → Option Bool
  | some ks, .agg a, .agg b => cellsEq ks a.toList b.toList
  | none, .int k a, .int k' b => if k = k' then some (a == b) else none
  | _, _, _ => none
def findEnt (agg : Option (List CK)) (k : Value) : List Ent → Nat → Option (Option (Nat × Value))
  | [], _ => some none
  | e :: es, i => match keyEq agg k e.key with
    | some true => some (some (i, e.val))
    | some false => findEnt agg k es (i + 1)
    | none => none
def ibin (op : BinOp) (x y : Value) : Option Value :=
  match op, x, y with
  | .shl, .int k a, .int _ b => if 0 ≤ b then some (.int k (k.wrap (a * 2 ^ min b.toNat k.bits))) else none
  | .shr, .int k a, .int _ b => if 0 ≤ b then some (.int k (a.fdiv (2 ^ min b.toNat k.bits))) else none
  | op, .int k a, .int k' b =>
    if k = k' then
      match op with
      | .add => some (.int k (k.wrap (a + b)))
      | .sub => some (.int k (k.wrap (a - b)))
      | .mul => some (.int k (k.wrap (a * b)))
      | .quo => if b = 0 then none else some (.int k (k.wrap (a.tdiv b)))
      | .rem => if b = 0 then none else some (.int k (a.tmod b))
      | .and => some (.int k (k.wrap (BitVec.ofInt k.bits a &&& BitVec.ofInt k.bits b).toNat))
      | .or => some (.int k (k.wrap (BitVec.ofInt k.bits a ||| BitVec.ofInt k.bits b).toNat))
      | .xor => some (.int k (k.wrap (BitVec.ofInt k.bits a ^^^ BitVec.ofInt k.bits b).toNat))
      | .andNot => some (.int k (k.wrap (BitVec.ofInt k.bits a &&& ~~~ BitVec.ofInt k.bits b).toNat))
      | .eql => some (.bool (a == b))
      | .neq => some (.bool (a != b))
      | .lss => some (.bool (a < b))
      | .leq => some (.bool (a ≤ b))
      | .gtr => some (.bool (a > b))
      | .geq => some (.bool (a ≥ b))
      | _ => none
    else none
  | .add, .string a, .string b => if ((a.size + b.size : Nat) : Int) ≤ IntKind.i64.max then some (.string (a ++ b)) else none
  | .eql, .string a, .string b => some (.bool (a.toList == b.toList))
  | .neq, .string a, .string b => some (.bool (!(a.toList == b.toList)))
  | _, _, _ => none
def iun (op : UnOp) (x : Value) : Option Value :=
  match op, x with
  | .not, .bool b => some (.bool (!b))
  | .neg, .int k n => some (.int k (k.wrap (0 - n)))
  | .xor, .int k n => some (.int k (k.wrap (BitVec.ofInt k.bits (if k.signed then -1 else k.max) ^^^ BitVec.ofInt k.bits n).toNat))
  | _, _ => none
def layAt : List Value → List (Nat × Nat × Value) → Option (List Value)
  | c, [] => some c
  | c, (off, n, v) :: r => if (cellsOf v).length = n ∧ off + n ≤ c.length then layAt (setAt c off (cellsOf v)) r else none
def bounds (len cap : Nat) (lo hi mx : Option Value) : Option (Nat × Nat × Nat) :=
  let at? (o : Option Value) (d : Nat) (most : Nat) : Option Nat := match o with
    | none => some d
    | some v => match asInt? v with
      | some i => if 0 ≤ i ∧ i ≤ most then some i.toNat else none
      | none => none
  match at? mx cap cap with
  | none => none
  | some m => match (match hi, mx with | none, some _ => none | _, _ => at? hi len m) with
    | none => none
    | some h => match at? lo 0 h with
      | none => none
      | some l => some (l, h, m)
def lenOf? : Value → Option Nat
  | .slice _ n _ => some n
  | .string s => some s.size
  | _ => none
def firstN (h : Heap) (z n : Nat) : Value → Option (List Value)
  | .slice (some a) _ _ => if n * z = 0 then some [] else h.read { a with spot := none } (n * z)
  | .slice none _ _ => some []
  | .string s => if z = 1 then some ((s.data.toList.take n).map fun b => .int .u8 b.toNat) else none
  | _ => none
def spotOk (z : Nat) (a : Addr) : Bool := a.spot == none || a.spot == some z
def isCells (h : Heap) (b : Nat) : Bool :=
  match h.get b with
  | some (.cells ..) => true
  | _ => false
def reaches (h : Heap) (z : Nat) (a : Addr) (cap : Nat) : Bool :=
  match h.get a.block with
  | some (.cells c _ t) => t && a.spot == some z && a.off + cap * z == c.length
  | _ => false
def roomMost : Nat := 140737488355328
def iappend (h : Heap) (z bytes : Nat) (s x : Value) : Option (Value × Heap) :=
  match s, lenOf? x with
  | .slice base len cap, some n =>
    if n = 0 then (match x with | .slice .. | .string _ => some (s, h) | _ => none)
    else match firstN h z n x with
      | none => none
      | some new =>
        if len + n ≤ cap then
          match base with
          | some a => match h.write { a with off := a.off + len * z, spot := none } new with
            | some h' => some (.slice base (len + n) cap, h')
            | none => none
          | none => none
        else if (len + n) * bytes ≤ roomMost ∧ len + n ≤ roomMost then
          match firstN h z len s with
          | none => none
          | some old =>
            let fresh (h : Heap) : Value × Heap := (.slice (some { block := 2 * h.next, off := 0, spot := some z }) (len + n) (len + n), h.alloc (.cells (old ++ new) z true))
            match base with
            | none => some (fresh h)
            | some a => if !spotOk z a || !isCells h a.block then none else if reaches h z a cap then (if !new.all oneCell then none else match h.put a.block none with | some h' => some (fresh h') | none => none) else some (fresh h)
        else none
  | _, _ => none
def icopy (h : Heap) (z : Nat) (d s : Value) : Option (Value × Heap) :=
  match d, lenOf? s with
  | .slice base dlen _, some slen =>
    let n := Nat.min slen dlen
    if n = 0 then (match s with | .slice .. | .string _ => some (.int .i64 0, h) | _ => none)
    else match firstN h z n s, base with
      | some cs, some a => match h.write { a with spot := none } cs with
        | some h' => some (.int .i64 n, h')
        | none => none
      | _, _ => none
  | _, _ => none
def getMap (h : Heap) : Value → Option (List Ent × Nat × Option Nat)
  | .map none => some ([], 0, none)
  | .map (some r) => match h.get r with
    | some (.map es c) => some (es, c, some r)
    | _ => none
  | _ => none
def setVal (es : List Ent) (i : Nat) (k v : Value) : List Ent := es.modify i fun e => { e with key := k, val := v }
def keyOk : Option (List CK) → Value → Bool
  | some ks, .agg a => a.size == ks.length
  | none, .int _ _ => true
  | _, _ => false
def imap (h : Heap) (agg : Option (List CK)) (m k : Value) : Option (List Ent × Nat × Option Nat × Option (Nat × Value)) :=
  if keyOk agg k then match getMap h m with
    | some (es, c, r) => match findEnt agg k es 0 with
      | some o => some (es, c, r, o)
      | none => none
    | none => none
  else none
def mostOf (isMax : Bool) (k : IntKind) : Int → List Value → Option Int
  | x, [] => some x
  | x, .int k' y :: r => if k = k' then mostOf isMax k (if isMax then (if y > x then y else x) else (if y < x then y else x)) r else none
  | _, _ => none
def cands (old new : List Ent) : List (Option Ent) := (if old.isEmpty then [none] else []) ++ (old ++ new).map some
def stepOf (h : Heap) (r m since : Nat) (seen : List Nat) (c : Nat) : Option (Option Ent) → T (Value × Heap)
  | some (some e) => match h.put r (some (.iter (some m) since (seen ++ [e.born]) c)) with
    | some h' => .ret (.tuple #[.bool true, e.key, e.val], h')
    | none => .fail
  | some none => .ret (.tuple #[.bool false], h)
  | none => .fail
def nextOf (h : Heap) (r m since : Nat) (seen : List Nat) (c : Nat) (old new : List Ent) : T (Value × Heap) :=
  if (cands old new).length ≤ 1 then stepOf h r m since seen c (cands old new)[0]?
  else .ask (cands old new).length fun i => stepOf h r m since seen c (cands old new)[i]?
def IOp.run (tm : List Value) (h : Heap) : IOp → T (Value × Heap)
  | .move x => .ret (x.eval tm, h)
  | .pick c a b => match c.eval tm with
    | .bool t => .ret (if t then a.eval tm else b.eval tm, h)
    | _ => .fail
  | .box x => .ret (.pointer (some ⟨2 * h.next, 0, none⟩), h.alloc (.cells (cellsOf (x.eval tm)) 1 false))
  | .build zero parts => match layAt zero (parts.map fun p => (p.1, p.2.1, p.2.2.eval tm)) with
    | some cs => .ret (.agg cs.toArray, h)
    | none => .fail
  | .buildSlice z len zero parts => match layAt (List.replicate len zero).flatten (parts.map fun p => (p.1 * z, z, p.2.eval tm)) with
    | some cs => .ret (.slice (some ⟨2 * h.next, 0, none⟩) len len, h.alloc (.cells cs z false))
    | none => .fail
  | .load n a => match a.eval tm with
    | .pointer (some p) => match n with
      | none => match h.read p 1 with
        | some [v] => .ret (v, h)
        | _ => .fail
      | some n => match h.read p n with
        | some cs => .ret (.agg cs.toArray, h)
        | none => .fail
    | _ => .fail
  | .store n a v => match a.eval tm with
    | .pointer (some p) => if (cellsOf (v.eval tm)).length = n then (match h.write p (cellsOf (v.eval tm)) with
        | some h' => .ret (undefV, h')
        | none => .fail) else .fail
    | _ => .fail
  | .nilCheck x => match x.eval tm with
    | .pointer (some a) => .ret (.pointer (some a), h)
    | .func (.func f) fs cs => .ret (.func (.func f) fs cs, h)
    | .func (.yield f) fs cs => .ret (.func (.yield f) fs cs, h)
    | _ => .fail
  | .bin op x y => .ofOpt ((ibin op (x.eval tm) (y.eval tm)).map fun v => (v, h))
  | .eqAgg neg n x y => .ofOpt ((aggEq n (x.eval tm) (y.eval tm)).map fun b => (.bool (b != neg), h))
  | .eqBool neg x y => match x.eval tm, y.eval tm with
    | .bool a, .bool b => .ret (.bool ((a == b) != neg), h)
    | _, _ => .fail
  | .eqPtr neg x y => match x.eval tm, y.eval tm with
    | .pointer none, .pointer b => .ret (.bool (b.isNone != neg), h)
    | .pointer (some _), .pointer none => .ret (.bool (false != neg), h)
    | _, _ => .fail
  | .eqSlice neg x y => match x.eval tm, y.eval tm with
    | .slice none _ _, .slice b _ _ => .ret (.bool (b.isNone != neg), h)
    | .slice (some _) _ _, .slice none _ _ => .ret (.bool (false != neg), h)
    | _, _ => .fail
  | .eqMap neg x y => match x.eval tm, y.eval tm with
    | .map none, .map b => .ret (.bool (b.isNone != neg), h)
    | .map (some _), .map none => .ret (.bool (false != neg), h)
    | _, _ => .fail
  | .eqFunc neg x y => match x.eval tm, y.eval tm with
    | .nilFunc, .nilFunc => .ret (.bool (true != neg), h)
    | .nilFunc, .func .. => .ret (.bool (false != neg), h)
    | .func .., .nilFunc => .ret (.bool (false != neg), h)
    | _, _ => .fail
  | .convStr x => match x.eval tm with
    | .string s => .ret (.string s, h)
    | _ => .fail
  | .un op x => .ofOpt ((iun op (x.eval tm)).map fun v => (v, h))
  | .conv k x => match x.eval tm with
    | .int _ n => .ret (.int k (k.wrap n), h)
    | _ => .fail
  | .strBytes x => match x.eval tm with
    | .string s => .ret (.slice (some ⟨2 * h.next, 0, some 1⟩) s.size s.size, h.alloc (.cells (s.data.toList.map fun b => .int .u8 b.toNat) 1 true))
    | _ => .fail
  | .bytesStr x => match x.eval tm with
    | .slice none _ _ => .ret (.string .empty, h)
    | .slice (some a) len _ => if len = 0 then .ret (.string .empty, h) else match h.read { a with spot := none } len with
      | some cs => if cs.all (fun c => match c with | .int .u8 _ => true | _ => false) then
          .ret (.string ⟨(cs.map fun c => match c with | .int _ n => UInt8.ofNat n.toNat | _ => 0).toArray⟩, h) else .fail
      | none => .fail
    | _ => .fail
  | .func fn first captured => .ret (.func fn (first.map (Opd.eval tm)).toArray (captured.map (Opd.eval tm)).toArray, h)
  | .makeMap => .ret (.map (some (2 * h.next)), h.alloc (.map [] 0))
  | .makeSlice z bytes zero len cap => match asInt? (len.eval tm), asInt? (cap.eval tm) with
    | some l, some c => if 0 ≤ l ∧ l ≤ c ∧ c * bytes ≤ roomMost ∧ c ≤ roomMost then
        .ret (.slice (some ⟨2 * h.next, 0, none⟩) l.toNat c.toNat, h.alloc (.cells (List.replicate c.toNat zero).flatten z false)) else .fail
    | _, _ => .fail
  | .sliceStr x lo hi => match x.eval tm with
    | .string s => match bounds s.size s.size (lo.map (Opd.eval tm)) (hi.map (Opd.eval tm)) none with
      | some (l, r, _) => .ret (.string (s.extract l r), h)
      | none => .fail
    | _ => .fail
  | .slice z x lo hi mx => match x.eval tm with
    | .slice a len cap => match bounds len cap (lo.map (Opd.eval tm)) (hi.map (Opd.eval tm)) (mx.map (Opd.eval tm)) with
      | some (l, r, m) => if a.all (spotOk z) then .ret (.slice (a.map fun a => { block := a.block, off := a.off + l * z, spot := if mx.isSome then none else a.spot }) (r - l) (m - l), h) else .fail
      | none => .fail
    | _ => .fail
  | .sliceArr n z x lo hi mx => match x.eval tm with
    | .pointer (some a) => match bounds n n (lo.map (Opd.eval tm)) (hi.map (Opd.eval tm)) (mx.map (Opd.eval tm)) with
      | some (l, r, m) => .ret (.slice (some { block := a.block, off := a.off + l * z, spot := none }) (r - l) (m - l), h)
      | none => .fail
    | _ => .fail
  | .fieldAddr off x => match x.eval tm with
    | .pointer (some a) => .ret (.pointer (some { block := a.block, off := a.off + off }), h)
    | _ => .fail
  | .field off n x => match x.eval tm with
    | .agg cs => match n with
      | none => match cs.toList[off]? with
        | some v => .ret (v, h)
        | none => .fail
      | some n => if off + n ≤ cs.size then .ret (.agg ((cs.toList.drop off).take n).toArray, h) else .fail
    | _ => .fail
  | .indexAddr z x i => match x.eval tm, asInt? (i.eval tm) with
    | .slice (some a) len _, some i => if 0 ≤ i ∧ i < len then .ret (.pointer (some { block := a.block, off := a.off + i.toNat * z }), h) else .fail
    | _, _ => .fail
  | .indexAddrArr n z x i => match x.eval tm, asInt? (i.eval tm) with
    | .pointer (some a), some i => if 0 ≤ i ∧ i < n then .ret (.pointer (some { block := a.block, off := a.off + i.toNat * z }), h) else .fail
    | _, _ => .fail
  | .indexStr x i => match x.eval tm, asInt? (i.eval tm) with
    | .string s, some i => if 0 ≤ i then (match s.data.toList[i.toNat]? with
        | some b => .ret (.int .u8 b.toNat, h)
        | none => .fail) else .fail
    | _, _ => .fail
  | .indexAgg n z m x i => match x.eval tm, asInt? (i.eval tm) with
    | .agg cs, some i => if 0 ≤ i ∧ i < n then (match m with
        | none => match cs.toList[i.toNat * z]? with
          | some v => .ret (v, h)
          | none => .fail
        | some m => if i.toNat * z + m ≤ cs.size then .ret (.agg ((cs.toList.drop (i.toNat * z)).take m).toArray, h) else .fail) else .fail
    | _, _ => .fail
  | .lookup agg zero ok m k => match imap h agg (m.eval tm) (k.eval tm) with
    | some (_, _, _, o) =>
      let v := (o.map (·.2)).getD zero
      .ret (if ok then .tuple #[v, .bool o.isSome] else v, h)
    | none => .fail
  | .mapUpdate agg m k v => match imap h agg (m.eval tm) (k.eval tm) with
    | some (es, c, some r, some (i, _)) => (match h.put r (some (.map (setVal es i (k.eval tm) (v.eval tm)) c)) with
      | some h' => .ret (undefV, h')
      | none => .fail)
    | some (es, c, some r, none) => (match h.put r (some (.map (es ++ [⟨k.eval tm, v.eval tm, c⟩]) (c + 1))) with
      | some h' => .ret (undefV, h')
      | none => .fail)
    | _ => .fail
  | .mapEntry agg zero m k => match imap h agg (m.eval tm) (k.eval tm) with
    | some (es, c, some r, some (i, v)) => (match h.put r (some (.map (setVal es i (k.eval tm) v) c)), es[i]? with
      | some h', some e => .ret (.tuple #[v, .int .i64 e.born], h')
      | _, _ => .fail)
    | some (es, c, some r, none) => (match h.put r (some (.map (es ++ [⟨k.eval tm, zero, c⟩]) (c + 1))) with
      | some h' => .ret (.tuple #[zero, .int .i64 c], h')
      | none => .fail)
    | _ => .fail
  | .entryStore m s v => match getMap h (m.eval tm), asInt? (s.eval tm) with
    | some (es, c, some r), some s => (match es.findIdx? (fun e => (e.born : Int) == s) with
      | some i => match h.put r (some (.map (es.modify i fun e => { e with val := v.eval tm }) c)) with
        | some h' => .ret (undefV, h')
        | none => .fail
      | none => .fail)
    | _, _ => .fail
  | .rangeMap m => match m.eval tm with
    | .map none => .ret (.pointer (some ⟨2 * h.next, 0, none⟩), h.alloc (.iter none 0 [] 0))
    | .map (some r) => match h.get r with
      | some (.map _ c) => .ret (.pointer (some ⟨2 * h.next, 0, none⟩), h.alloc (.iter (some r) c [] c))
      | _ => .fail
    | _ => .fail
  | .nextMap it => match it.eval tm with
    | .pointer (some ⟨r, 0, none⟩) => match h.get r with
      | some (.iter none _ _ _) => .ret (.tuple #[.bool false], h)
      | some (.iter (some m) since seen last) => match h.get m with
        | some (.map es c) =>
          if !seen.isEmpty && !es.isEmpty && es.all (fun e => decide (e.born ≥ last)) then .fail else
          let left := es.filter fun e => !seen.contains e.born
          nextOf h r m since seen c (left.filter fun e => decide (e.born < since)) (left.filter fun e => decide (e.born ≥ since))
        | _ => .fail
      | _ => .fail
    | _ => .fail
  | .entryMap it => match it.eval tm with
    | .pointer (some ⟨r, 0, none⟩) => match h.get r with
      | some (.iter (some m) _ seen last) => match seen.getLast?, h.get m with
        | some b, some (.map es c) => if c = last then (match es.find? (fun e => e.born == b) with
          | some e => .ret (.tuple #[e.key, e.val], h)
          | none => .fail) else .fail
        | _, _ => .fail
      | _ => .fail
    | _ => .fail
  | .convBytes x => match x.eval tm with
    | .slice (some a) n c => if c = 0 then .fail else match h.get a.block with
      | some (.cells cs z tl) => match h.put a.block (some (.cells cs z tl)) with
        | some h' => .ret (.slice (some a) n c, h')
        | none => .fail
      | _ => .fail
    | _ => .fail
  | .extract t i => match t.eval tm with
    | .tuple vs => match vs.toList[i]? with
      | some v => .ret (v, h)
      | none => .fail
    | _ => .fail
  | .append z bytes s x => .ofOpt (iappend h z bytes (s.eval tm) (x.eval tm))
  | .copy z d s => .ofOpt (icopy h z (d.eval tm) (s.eval tm))
  | .delete agg m k => match imap h agg (m.eval tm) (k.eval tm) with
    | some (_, _, none, _) => .ret (undefV, h)
    | some (es, c, some r, some (i, _)) => (match h.put r (some (.map (es.eraseIdx i) c)) with
      | some h' => .ret (undefV, h')
      | none => .fail)
    | some (es, c, some r, none) => (match h.put r (some (.map es c)) with
      | some h' => .ret (undefV, h')
      | none => .fail)
    | none => .fail
  | .lenStr x => match x.eval tm with
    | .string s => .ret (.int .i64 s.size, h)
    | _ => .fail
  | .lenSlice x => match x.eval tm with
    | .slice _ n _ => .ret (.int .i64 n, h)
    | _ => .fail
  | .lenMap x => match getMap h (x.eval tm) with
    | some (es, _, _) => .ret (.int .i64 es.length, h)
    | none => .fail
  | .minmax isMax args => match args.map (Opd.eval tm) with
    | .int k x :: r => .ofOpt ((mostOf isMax k x r).map fun a => (.int k a, h))
    | _ => .fail
  | .clearSlice z zero x => match x.eval tm with
    | .slice none _ _ => .ret (undefV, h)
    | .slice (some a) n _ => if n = 0 then .ret (undefV, h) else match h.write { a with spot := none } (List.replicate n zero).flatten with
      | some h' => if zero.length = z then .ret (undefV, h') else .fail
      | none => .fail
    | _ => .fail
  | .call _ _ | .bad => .fail
structure St where
  tmps : List Value
  defers : List Nat
  h : Heap
def putDst (tm : List Value) (dst : Option Nat) (v : Value) : List Value :=
  match dst with
  | some d => tm.set d v
  | none => tm
def wants (tm : List Value) : Option (Nat × Bool) → Bool
  | none => true
  | some (t, b) => match tm[t]? with
    | some (.bool c) => c == b
    | _ => false
abbrev Caller := Value → List Value → Heap → T (Value × Heap)
def IOp.exec (call : Caller) (tm : List Value) (h : Heap) : IOp → T (Value × Heap)
  | .call f args => call (f.eval tm) (args.map (Opd.eval tm)) h
  | o => o.run tm h
def execOps (call : Caller) : List IOper → List Value → Heap → T (List Value × Heap)
  | [], tm, h => .ret (tm, h)
  | o :: r, tm, h =>
    if wants tm o.guard then (o.op.exec call tm h).bind fun p => execOps call r (putDst tm o.dst p.1) p.2
    else execOps call r (putDst tm o.dst undefV) h
def IOp.isPure : IOp → Bool
  | .move _ | .pick .. | .build .. | .nilCheck _ | .bin .. | .eqAgg .. | .eqBool .. | .eqPtr .. | .eqSlice .. | .eqMap .. | .eqFunc .. | .convStr _ | .un .. | .conv .. | .func .. | .sliceStr .. | .slice .. | .sliceArr ..
  | .fieldAddr .. | .field .. | .indexAddr .. | .indexAddrArr .. | .indexStr .. | .indexAgg .. | .extract .. | .lenStr _ | .lenSlice _ | .minmax .. => true
  | _ => false
def T.out {α : Type} : T α → Option α
  | .ret a => some a
  | _ => none
def blocks1 : Value → List Nat
  | .pointer (some a) => if a.block % 2 = 0 then [a.block / 2] else []
  | .slice (some a) _ _ => if a.block % 2 = 0 then [a.block / 2] else []
  | .map (some r) => if r % 2 = 0 then [r / 2] else []
  | _ => []
def blocksOf : Value → List Nat
  | .agg cs => cs.toList.flatMap blocks1
  | .func _ fs cs => fs.toList.flatMap blocks1 ++ cs.toList.flatMap blocks1
  | v => blocks1 v
def unord (as : List (List Nat)) (i k : Nat) : Bool := i != k && !(as.getD i []).contains k && !(as.getD k []).contains i
def seenBy (as plan : List (List Nat)) (i : Nat) (fr : List (Nat × Nat × Nat)) (h : Heap) : Heap :=
  { h with floor := h.next, may := (plan.getD i []).filter fun x => decide (h.floor ≤ x) || h.may.contains x,
           hid := ((fr.filter fun x => !(as.getD i []).contains x.1).map (·.2)) ++ ((List.range plan.length).flatMap fun k => if unord as i k then ((plan.getD k []).filter fun x => decide (x < h.next)).map fun x => (x, x + 1) else []) ++ h.hid }
def execDrawn (call : Caller) (as plan : List (List Nat)) : List IOper → Nat → List (Nat × Nat × Nat) → List Value → Heap → Except (Nat × List Nat) (List Value × Heap)
  | [], _, _, tm, h => .ok (tm, h)
  | o :: r, i, fr, tm, h =>
    if wants tm o.guard then
      if o.op.isPure then
        match (o.op.run tm h).out with
        | some p => execDrawn call as plan r (i + 1) fr (putDst tm o.dst p.1) h
        | none => .error (i, [])
      else if o.bar then
        match (o.op.exec call tm h).out with
        | some p => execDrawn call as plan r (i + 1) [] (putDst tm o.dst p.1) p.2
        | none => .error (i, [])
      else
        match (o.op.exec call tm (seenBy as plan i fr h)).out with
        | some p => execDrawn call as plan r (i + 1) (if h.next < p.2.next then (i, h.next, p.2.next) :: fr else fr) (putDst tm o.dst p.1) { p.2 with floor := h.floor, may := h.may, hid := h.hid }
        | none => .error (i, o.op.opds.flatMap fun x => blocksOf (x.eval tm))
    else execDrawn call as plan r (i + 1) fr (putDst tm o.dst undefV) h
def drawnLoop (call : Caller) (ops : List IOper) (tm : List Value) (h : Heap) : Nat → List (List Nat) → Option (List Value × Heap)
  | 0, _ => none
  | n + 1, plan => match execDrawn call (ops.map (·.anc)) plan ops 0 [] tm h with
    | .ok p => some p
    | .error (i, bs) => if bs.isEmpty || !(plan.getD i []).isEmpty then none else drawnLoop call ops tm h n (plan.set i bs)
noncomputable def drawnRun (call : Caller) (ops : List IOper) (tm : List Value) (h : Heap) : Option (List Value × Heap) :=
  match drawnLoop call ops tm h (ops.length + 1) (ops.map fun _ => []) with
  | some p => some p
  | none => open Classical in if hx : ∃ q : List (List Nat) × (List Value × Heap), execDrawn call (ops.map (·.anc)) q.1 ops 0 [] tm h = .ok q.2 then some (Classical.choose hx).2 else none
def iter (f : St → T (IExit × St)) : Nat → St → T (IExit × St)
  | 0, _ => .fail
  | n + 1, s => (f s).bind fun
    | (.normal, s') => iter f n s'
    | r => .ret r
noncomputable def exec (call : Caller) (fuel : Nat) (around : Option Nat) : ICode → St → T (IExit × St)
  | .skip, s => .ret (.normal, s)
  | .region ops, s => (execOps call ops s.tmps s.h).bind fun p => .ret (.normal, { s with tmps := p.1, h := p.2 })
  | .drawn ops, s => match drawnRun call ops s.tmps s.h with
    | some p => .ret (.normal, { s with tmps := p.1, h := p.2 })
    | none => .fail
  | .seq a b, s => (exec call fuel around a s).bind fun
    | (.normal, s') => exec call fuel around b s'
    | r => .ret r
  | .cond c t e, s => match c.eval s.tmps with
    | .bool true => exec call fuel around t s
    | .bool false => exec call fuel around e s
    | _ => .fail
  | .block id b, s => (exec call fuel around b s).bind fun
    | (.exit j, s') => .ret (if j = id then .normal else .exit j, s')
    | r => .ret r
  | .loop b, s => iter (exec call fuel around b) fuel s
  | .rangeFunc f ps asg body, s =>
    let run (h : Heap) (d : Nat) (marks : List Nat) : T (IExit × St) :=
      let l := 2 * h.next
      match f.eval s.tmps with
      | .func (.func g) first cap =>
        (call (.func (.func g) first cap) [.func (.yield l) #[] #[]] (h.alloc (.loop { state := .ready, pending := .normal, tmps := s.tmps, params := ps, assign := asg, body := body, defers := d }))).bind fun p =>
          match p.2.get l with
          | some (.loop lp) => if lp.state = .busy then .fail else
            match p.2.put l (some (.loop { lp with state := .exhausted })) with
            | some h' => .ret (lp.pending, { tmps := s.tmps, defers := marks ++ s.defers, h := h' })
            | none => .fail
          | _ => .fail
      | _ => .fail
    match around with
    | some l => match s.h.get l with
      | some (.loop lp) => run s.h lp.defers []
      | _ => .fail
    | none => run (s.h.alloc (.deferred true)) (2 * s.h.next) [2 * s.h.next]
  | .exit id, s => .ret (.exit id, s)
  | .ret, s => .ret (.ret, s)
  | .bad, _ => .fail
def shutMarks : List Nat → Heap → Option Heap
  | [], h => some h
  | r :: rs, h => match h.get r with
    | some (.deferred true) => match h.put r (some (.deferred false)) with
      | some h' => shutMarks rs h'
      | none => none
    | _ => none
def IResult.val (tm : List Value) (h : Heap) : IResult → Option Value
  | .tmp t => some (tm.getD t undefV)
  | .cell a n => match tm.getD a undefV with
    | .pointer (some p) => match n with
      | none => match h.read p 1 with
        | some [v] => some v
        | _ => none
      | some n => (h.read p n).map fun cs => .agg cs.toArray
    | _ => none
def answer (rs : List IResult) (tm : List Value) (h : Heap) : Option Value :=
  match rs.mapM (IResult.val tm h) with
  | some [v] => some v
  | some vs => some (.tuple vs.toArray)
  | none => none
abbrev Env := Nat → Option IFunc
noncomputable def enter (call : Caller) (fuel : Nat) (F : IFunc) (args : List Value) (h : Heap) : T (Value × Heap) :=
  (exec call fuel none F.body { tmps := args ++ List.replicate (F.ntmps - args.length) undefV, defers := [], h := h }).bind fun
    | (.exit _, _) => .fail
    | (_, s) => match shutMarks s.defers s.h with
      | some h' => .ofOpt ((answer F.results s.tmps h').map fun v => (v, h'))
      | none => .fail
def setParams : List Value → List Nat → List Value → List Value
  | tm, t :: ts, a :: as => setParams (tm.set t a) ts as
  | tm, _, _ => tm
noncomputable def round (call : Caller) (fuel : Nat) (l : Nat) (args : List Value) (h : Heap) : T (Value × Heap) :=
  match h.get l with
  | some (.loop lp) =>
    if args.length = lp.params.length then
      (exec call fuel (some l) lp.assign { tmps := setParams lp.tmps lp.params args, defers := [], h := h }).bind fun
        | (.normal, s1) => match s1.h.get l with
          | some (.loop lp1) => if lp1.state = .ready then
              match s1.h.put l (some (.loop { lp1 with state := .busy })) with
              | some h2 => (exec call fuel (some l) lp.body { s1 with h := h2 }).bind fun (e, s3) =>
                match s3.h.get l with
                | some (.loop lp3) =>
                  let go := match e with | .normal => true | _ => false
                  match s3.h.put l (some (.loop { lp3 with state := if go then .ready else .done, pending := e })) with
                  | some h4 => .ret (.bool go, h4)
                  | none => .fail
                | _ => .fail
              | none => .fail
            else .fail
          | _ => .fail
        | _ => .fail
    else .fail
  | _ => .fail
noncomputable def callV (env : Env) : Nat → Caller
  | 0, _, _, _ => .fail
  | n + 1, f, args, h => match f with
    | .func (.func g) first cap => match env g with
      | some F => enter (callV env n) n F (first.toList ++ args ++ cap.toList) h
      | none => .fail
    | .func (.yield l) first _ => round (callV env n) n l (first.toList ++ args) h
    | _ => .fail
noncomputable def run (env : Env) (n : Nat) (g : Nat) (args : List Value) (h : Heap) : T (Value × Heap) := callV env n (.func (.func g) #[] #[]) args h
end Go.Ideal
namespace Go.Ideal
open Go
def cleanV : Nat → Value → Bool
  | _, .bool _ | _, .int _ _ | _, .string _ | _, .pointer none | _, .slice none 0 0 | _, .map none | _, .nilFunc | _, .nilIface => true
  | n + 1, .agg cs => cs.toList.all (cleanV n)
  | n + 1, .func (.func _) fs cs => fs.isEmpty && cs.isEmpty && decide (0 ≤ n)
  | _, _ => false
def Opd.of : Operand → Opd
  | .tmp t => .tmp t
  | .const v => .const v
  | .global g => .const (.pointer (some ⟨2 * g + 1, 0, none⟩))
  | .func f => .const (.func (.func f) #[] #[])
def okOpd (P : Program) : Operand → Bool
  | .const v => cleanV 8 v
  | .global g => decide (g < P.globals.size)
  | _ => true
section
variable (P : Program)
def sz (t : TypeId) : Option Nat := (P.info? t).map (·.size)
def bytesOf? (t : TypeId) : Option Nat := (P.info? t).map (·.bytes)
def isAgg? (t : TypeId) : Option Bool :=
  match P.underlying t with
  | some (.struct _) | some (.array ..) => some true
  | some _ => some false
  | none => none
def ld (t : TypeId) : Option (Option Nat) :=
  match isAgg? P t, sz P t with
  | some true, some n => some (some n)
  | some false, some _ => some none
  | _, _ => none
def zero? (t : TypeId) : Option Value := (P.info? t).bind fun i => i.zero.bind fun v => if cleanV 8 v then some v else none
def kind? (t : TypeId) : Option CK :=
  match P.underlying t with
  | some (.int _) => some .int
  | some .bool => some .bool
  | some .string => some .str
  | _ => none
def flat? (t : TypeId) : Option (List CK) :=
  match P.underlying t with
  | some (.struct fs) =>
    if !P.stoodInHeld t && !P.eqGuardType P.depth t && fs.toList.zipIdx.all (fun (f, i) => f.name != "_" && f.offset == i && sz P f.type == some 1) then fs.toList.mapM fun f => kind? P f.type else none
  | _ => none
def keyKind? (t : TypeId) : Option (Option (List CK)) :=
  match P.underlying t with
  | some (.int _) => some none
  | some (.struct _) => (flat? P t).map some
  | _ => none
def structField? (t : TypeId) (f : Nat) : Option Field :=
  match P.underlying t with
  | some (.struct fs) => fs[f]?
  | _ => none
def mapKind? (t : TypeId) : Option (Option (List CK) × Option Value) :=
  match P.underlying t with
  | some (.map k e) => (keyKind? P k).map fun b => (b, zero? P e)
  | _ => none
def elem? (t : TypeId) : Option (Nat × Nat × List Value) :=
  match P.underlying t with
  | some (.slice e) => match sz P e, bytesOf? P e, zero? P e with
    | some z, some b, some v => if z == 0 || (cellsOf v).length != z || b == 0 then none else some (z, b, cellsOf v)
    | _, _, _ => none
  | _ => none
def arr? (t : TypeId) : Option (Nat × Nat × Option Nat) :=
  match P.underlying t with
  | some (.array n e) => match sz P e, ld P e with
    | some z, some m => if z == 0 then none else some (n, z, m)
    | _, _ => none
  | _ => none
def binC (op : BinOp) (t : TypeId) (x y : Opd) : IOp :=
  match op with
  | .eql | .neq =>
    let neg := match op with | .neq => true | _ => false
    match P.underlying t with
    | some .bool => .eqBool neg x y
    | some (.pointer _) => .eqPtr neg x y
    | some (.slice _) => .eqSlice neg x y
    | some (.map ..) => .eqMap neg x y
    | some (.func ..) => .eqFunc neg x y
    | some (.struct _) => match flat? P t with
      | some n => .eqAgg neg n x y
      | none => .bad
    | some (.int _) | some .string => .bin op x y
    | _ => .bad
  | _ => .bin op x y
def convC (src dst : TypeId) (x : Opd) : IOp :=
  match P.underlying src, P.underlying dst with
  | some (.int _), some (.int k) => .conv k x
  | some .string, some .string => .convStr x
  | some .string, some (.slice e) => match P.underlying e with
    | some (.int .u8) => .strBytes x
    | _ => .bad
  | some (.slice e), some .string => match P.underlying e with
    | some (.int .u8) => .bytesStr x
    | _ => .bad
  | some (.slice _), some (.slice e) => match src == dst, P.underlying e with
    | true, some (.int .u8) => .convBytes x
    | _, _ => .bad
  | _, _ => .bad
def sliceC (t : TypeId) (x : Opd) (lo hi mx : Option Opd) : IOp :=
  match P.underlying t with
  | some (.array ..) => match arr? P t with
    | some (n, z, _) => .sliceArr n z x lo hi mx
    | none => .bad
  | some .string => match mx with
    | none => .sliceStr x lo hi
    | some _ => .bad
  | some (.slice _) => match elem? P t with
    | some (z, _, _) => .slice z x lo hi mx
    | none => .bad
  | _ => .bad
def builtinC (b : Builtin) (ts : Array TypeId) (args : List Opd) : IOp :=
  match b, args with
  | .append, [s, x] => match ts[0]?, ts[1]? with
    | some t, some u => match elem? P t, P.underlying u with
      | some (z, bytes, _), some (.slice _) => .append z bytes s x
      | some (z, bytes, _), some .string => .append z bytes s x
      | _, _ => .bad
    | _, _ => .bad
  | .copy, [d, s] => match (ts[0]?).bind (elem? P) with
    | some (z, _, _) => .copy z d s
    | none => .bad
  | .delete, [m, k] => match (ts[0]?).bind (mapKind? P) with
    | some (b, _) => .delete b m k
    | none => .bad
  | .len, [x] => match (ts[0]?).bind P.underlying with
    | some .string => .lenStr x
    | some (.slice _) => .lenSlice x
    | some (.map ..) => .lenMap x
    | some (.array n _) => .move (.const (.int .i64 n))
    | _ => .bad
  | .min, xs => .minmax false xs
  | .max, xs => .minmax true xs
  | .clear, [x] => match (ts[0]?).bind (elem? P) with
    | some (z, _, zero) => .clearSlice z zero x
    | none => .bad
  | _, _ => .bad
def opC (o : Op) : IOp :=
  if !o.operands.toList.all (okOpd P) then .bad else
  match o with
  | .move x | .assign x => .move (.of x)
  | .pick c a b => .pick (.of c) (.of a) (.of b)
  | .alloc e => match zero? P e with
    | some v => .box (.const v)
    | none => .bad
  | .box _ x => .box (.of x)
  | .build t parts => match zero? P t, P.underlying t with
    | some v, some (.struct fs) =>
      if fs.toList.all (fun f => (sz P f.type).isSome) && parts.toList.all (fun p => (fs[p.1]?).isSome) then
        .build (cellsOf v) (parts.toList.map fun p => (((fs[p.1]?).map (·.offset)).getD 0, ((fs[p.1]?).bind fun f => sz P f.type).getD 0, .of p.2)) else .bad
    | some v, some (.array ..) => match arr? P t with
      | some (_, z, _) => .build (cellsOf v) (parts.toList.map fun p => (p.1 * z, z, .of p.2))
      | none => .bad
    | _, _ => .bad
  | .buildSlice t len parts => match elem? P t with
    | some (z, _, zero) => if len * z ≤ 2 ^ 24 then .buildSlice z len zero (parts.toList.map fun p => (p.1, .of p.2)) else .bad
    | none => .bad
  | .insert t m k v | .mapUpdate t m k v => match mapKind? P t with
    | some (b, _) => .mapUpdate b (.of m) (.of k) (.of v)
    | none => .bad
  | .load t a => match ld P t with
    | some n => .load n (.of a)
    | none => .bad
  | .store t a v => match sz P t with
    | some n => .store n (.of a) (.of v)
    | none => .bad
  | .nilCheck x => .nilCheck (.of x)
  | .binOp op t x y _ => binC P op t (.of x) (.of y)
  | .unOp op _ x => .un op (.of x)
  | .convert s d x => convC P s d (.of x)
  | .makeFunc (.func f) fs cs => .func (.func f) (fs.toList.map .of) (cs.toList.map .of)
  | .makeMap _ none => .makeMap
  | .makeMap t (some (.const (.int _ _))) => match P.underlying t with
    | some (.map ..) => .makeMap
    | _ => .bad
  | .makeSlice t l c => match elem? P t with
    | some (z, b, zero) => .makeSlice z b zero (.of l) (.of c)
    | none => .bad
  | .slice t x lo hi mx => sliceC P t (.of x) (lo.map .of) (hi.map .of) (mx.map .of)
  | .fieldAddr t x f => match structField? P t f with
    | some fd => match sz P fd.type with
      | some (_ + 1) => .fieldAddr fd.offset (.of x)
      | _ => .bad
    | none => .bad
  | .field t x f => match structField? P t f with
    | some fd => match ld P fd.type with
      | some n => .field fd.offset n (.of x)
      | none => .bad
    | none => .bad
  | .indexAddr t x i => match P.underlying t with
    | some (.slice _) => match elem? P t with
      | some (z, _, _) => .indexAddr z (.of x) (.of i)
      | none => .bad
    | some (.array ..) => match arr? P t with
      | some (n, z, _) => .indexAddrArr n z (.of x) (.of i)
      | none => .bad
    | _ => .bad
  | .index t x i => match P.underlying t with
    | some .string => .indexStr (.of x) (.of i)
    | some (.array ..) => match arr? P t with
      | some (n, z, m) => .indexAgg n z m (.of x) (.of i)
      | none => .bad
    | _ => .bad
  | .lookup t m k ok => match mapKind? P t with
    | some (b, some v) => .lookup b v ok (.of m) (.of k)
    | _ => .bad
  | .mapEntry t m k => match mapKind? P t with
    | some (b, some v) => .mapEntry b v (.of m) (.of k)
    | _ => .bad
  | .entryStore _ m s v => .entryStore (.of m) (.of s) (.of v)
  | .range t x => match P.underlying t with
    | some (.map ..) => .rangeMap (.of x)
    | _ => .bad
  | .next it false => .nextMap (.of it)
  | .entry it => .entryMap (.of it)
  | .extract t i => .extract (.of t) i
  | .call { callee := .builtin b, args := as, argTypes := ts } => builtinC P b ts (as.toList.map .of)
  | .call { callee := .value f, args := as, argTypes := _ } => .call (.of f) (as.toList.map .of)
  | _ => .bad
def direct (o : Oper) : List Nat := (o.after.toList.filter (Region.binds .any)).map (·.on)
def ancs : List Oper → List (List Nat) → List (List Nat)
  | [], acc => acc
  | o :: r, acc => ancs r (acc ++ [(direct o ++ (direct o).flatMap fun j => acc.getD j []).eraseDups])
def guardC (ops : Array Oper) : Option (Nat × Bool) → Option (Option (Nat × Bool))
  | none => some none
  | some (j, b) => match (ops[j]?).bind (·.dst) with
    | some d => some (some (d, b))
    | none => none
def operC (ops : Array Oper) (anc : List Nat) (bar : Bool) (o : Oper) : IOper :=
  match guardC ops o.guard with
  | some g => { dst := o.dst, op := opC P o.op, guard := g, anc := anc, bar := bar }
  | none => { dst := o.dst, op := .bad, guard := none, anc := anc, bar := bar }
def fixed (as : List (List Nat)) (i j : Nat) : Bool := (as.getD i []).contains j || (as.getD j []).contains i
def barOf (ops : List Oper) (as : List (List Nat)) (i : Nat) : Bool := ops.zipIdx.all fun (o, j) => i == j || (opC P o.op).isPure || fixed as i j
def operTmps (o : Oper) : List Nat := o.op.operands.toList.filterMap fun x => match x with | .tmp t => some t | _ => none
def namesAt (ops : List Oper) (os : List IOper) (j : Nat) : List Nat :=
  (match os[j]? with | some p => p.names | none => []) ++ (match ops[j]? with | some q => operTmps q | none => [])
def ancAt (os : List IOper) (i : Nat) : List Nat := match os[i]? with | some o => o.anc | none => []
def dstAt (os : List IOper) (i : Nat) : Option Nat := (os[i]?).bind (·.dst)
def barAt (os : List IOper) (i : Nat) : Bool := match os[i]? with | some o => o.bar | none => false
def pureAt (os : List IOper) (i : Nat) : Bool := match os[i]? with | some o => o.op.isPure | none => true
def dirAt (ops : List Oper) (i : Nat) : List Nat := match ops[i]? with | some o => direct o | none => []
def drawnOk (ops : List Oper) (os : List IOper) : Bool :=
  (List.range ops.length).all fun i =>
    (dirAt ops i).all (fun d => decide (d < i)) &&
    (ancAt os i).all (fun j => decide (j < i) && (ancAt os j).all (fun k => (ancAt os i).contains k) && ((dirAt ops i).contains j || (dirAt ops i).any (fun d => (ancAt os d).contains j))) &&
    (List.range ops.length).all fun j => i == j || (ancAt os i).contains j || (ancAt os j).contains i ||
      ((match dstAt os i with | some d => !(namesAt ops os j).contains d | none => true) && (!barAt os i || pureAt os j))
def drawnC (ops : Array Oper) : List IOper :=
  let as := ancs ops.toList []
  ops.toList.zipIdx.map fun (o, i) => operC P ops (as.getD i []) (barOf P ops.toList as i) o
def regionC (ops : Array Oper) (draw : Bool) : ICode :=
  if draw then (if drawnOk ops.toList (drawnC P ops) then .drawn (drawnC P ops) else .bad)
  else .region (ops.toList.map fun o => operC P ops [] true o)
def codeC : Code → ICode
  | .skip | .label _ => .skip
  | .region _ ops draw => regionC P ops draw
  | .seq a b => .seq (codeC a) (codeC b)
  | .cond c a b => if okOpd P c then .cond (.of c) (codeC a) (codeC b) else .bad
  | .block id b => .block id (codeC b)
  | .loop b => .loop (codeC b)
  | .rangeFunc f ps a b => if okOpd P f then .rangeFunc (.of f) ps.toList (codeC a) (codeC b) else .bad
  | .exit id => .exit id
  | .scope b => codeC b
  | .ret => .ret
  | .goto _ | .refuse _ => .bad
def resultC : ResultVar → Option IResult
  | .tmp t => some (.tmp t)
  | .cell a t => (ld P t).map (.cell a)
def funcC (f : Nat) : Option IFunc :=
  match P.funcs[f]? with
  | some fn => if fn.name == "runtime.NumGoroutine" then none else match fn.body, fn.results.toList.mapM (resultC P) with
    | some c, some rs => some { ntmps := fn.ntmps, results := rs, body := codeC P c }
    | _, _ => none
  | none => none
end
def oO (k : Nat) : Opd := .tmp k
def oM (d k : Nat) : IOper := ⟨some d, .move (.tmp k), none, [], true⟩
def oN (d k : Nat) : IOper := ⟨some d, .move (.tmp k), none, [], false⟩
def oL (d k : Nat) : IOper := ⟨some d, .load none (.tmp k), none, [], true⟩
def oF (d i k : Nat) : IOper := ⟨some d, .fieldAddr i (.tmp k), none, [], true⟩
def oI (d : Nat) (n : Int) : IOper := ⟨some d, .move (.const (.int .i64 n)), none, [], true⟩
def oK (d n k : Nat) : IOper := ⟨some d, .load (some n) (.tmp k), none, [], true⟩
def oE (d k i : Nat) : IOper := ⟨some d, .extract (.tmp k) i, none, [], true⟩
def oS (n a b : Nat) : IOper := ⟨none, .store n (.tmp a) (.tmp b), none, [], true⟩
def oC (d k : Nat) : IOper := ⟨some d, .nilCheck (.tmp k), none, [], true⟩
def oB (d k : Nat) : IOper := ⟨some d, .box (.tmp k), none, [], true⟩
def oX (d f : Nat) (l : List Nat) : IOper := ⟨some d, .call (.const (.func (.func f) #[] #[])) (l.map .tmp), none, [], true⟩
def oA (d n a b : Nat) : IOper := ⟨some d, .indexAddr n (.tmp a) (.tmp b), none, [], true⟩
def oP (d g : Nat) (c : Bool) (k : Nat) : IOper := ⟨some d, .move (.tmp k), some (g, c), [], true⟩
def oQ (d g : Nat) (c : Bool) (k : Nat) : IOper := ⟨some d, .load none (.tmp k), some (g, c), [], true⟩
def oR (d g : Nat) (c : Bool) (i k : Nat) : IOper := ⟨some d, .fieldAddr i (.tmp k), some (g, c), [], true⟩
def oT (d : Nat) (x : IOp) : IOper := ⟨some d, x, none, [], true⟩
def oU (d : Nat) (x : IOp) : IOper := ⟨some d, x, none, [], false⟩
def oG (d g : Nat) (c : Bool) (x : IOp) : IOper := ⟨some d, x, some (g, c), [], true⟩
def oH (d : Nat) (x : IOp) (l : List Nat) (b : Bool) : IOper := ⟨some d, x, none, l, b⟩
def oJ (d g : Nat) (c : Bool) (x : IOp) (l : List Nat) (b : Bool) : IOper := ⟨some d, x, some (g, c), l, b⟩
def oY (x : IOp) : IOper := ⟨none, x, none, [], true⟩
end Go.Ideal
