/- The symbolic evaluator: abstract values, a heap kept as a log, trees of cases, and the evaluation of operations, code and calls. It is plain Lean, made to be run by the kernel; its soundness is proved in the texts behind it. Conditions: none. -/
import Derived.Orders
import Derived.LoopN
import Derived.Laws.AppendOwn
import Derived.Below
namespace Go.Sx
noncomputable section

/-- Abstract values: concrete, symbolic (the constructor is seen, what stands in it is not looked at), a pointer into a tracked block, a slice at the head of a tracked row, a function, an aggregate by its cells, a tuple. -/
inductive AV where
  | c (v : Value)
  | s (v : Value)
  | ptr (i off : Nat)
  | slc (i len : Nat)
  | mp (i : Nat)
  | fn (f : Fn) (first cap : List AV)
  | agg (cs : List AV)
  | tup (vs : List AV)
  deriving Inhabited

inductive T (α : Type) where
  | ret (a : α)
  | br (b : Bool) (t e : T α)
  | bad (why : String)

/- (By the recursors themselves, here and at the other functions that are run often: the kernel takes one step where the compiled recursion takes many.) -/
def T.bind {α β : Type} (t : T α) (k : α → T β) : T β :=
  T.rec (motive := fun _ => T β) (fun a => k a) (fun b _ _ x y => .br b x y) (fun y => .bad y) t

/-- 'xs ++ ys', by the recursor. -/
def app {α : Type} (xs ys : List α) : List α := List.rec (motive := fun _ => List α) ys (fun a _ ih => a :: ih) xs

def mapL {α β : Type} (f : α → β) (xs : List α) : List β := List.rec (motive := fun _ => List β) [] (fun a _ ih => f a :: ih) xs

def allL {α : Type} (f : α → Bool) (xs : List α) : Bool := List.rec (motive := fun _ => Bool) true (fun a _ ih => Bool.rec false ih (f a)) xs

def lenL {α : Type} (xs : List α) : Nat := List.rec (motive := fun _ => Nat) 0 (fun _ _ ih => ih + 1) xs

/-- The element at a place. -/
def nthL {α : Type} (xs : List α) : Nat → Option α := List.rec (motive := fun _ => Nat → Option α) (fun _ => none) (fun a _ ih k => Bool.rec (ih (Nat.pred k)) (some a) (Nat.beq k 0)) xs

def T.run {α : Type} : T α → Option α
  | .ret a => some a
  | .br b t e => bif b then t.run else e.run
  | .bad _ => none

def T.opt {α : Type} : Option α → T α
  | some a => .ret a
  | none => .bad ""

/-- Where a walk stood when it could not go on (for whoever looks; nothing hangs on it). -/
def T.at {α : Type} (y : String) : T α → T α
  | .bad z => .bad (y ++ " " ++ z)
  | t => t

def T.map {α β : Type} (f : α → β) (t : T α) : T β := t.bind fun a => .ret (f a)

mutual
def AV.val : AV → Option Value
  | .c v => some v
  | .s v => some v
  | .ptr _ _ => none
  | .slc _ _ => none
  | .mp _ => none
  | .fn f first cap => (AV.vals first).bind fun a => (AV.vals cap).bind fun b => some (.func f a.toArray b.toArray)
  | .agg cs => (AV.vals cs).bind fun a => some (.agg a.toArray)
  | .tup vs => (AV.vals vs).bind fun a => some (.tuple a.toArray)
def AV.vals : List AV → Option (List Value)
  | [] => some []
  | v :: r => v.val.bind fun a => (AV.vals r).bind fun b => some (a :: b)
end

mutual
/-- Is nothing in it symbolic? -/
def AV.con : AV → Bool
  | .c _ => true
  | .s _ => false
  | .ptr _ _ => true
  | .slc _ _ => true
  | .mp _ => true
  | .fn _ first cap => AV.cons first && AV.cons cap
  | .agg cs => AV.cons cs
  | .tup vs => AV.cons vs
def AV.cons : List AV → Bool
  | [] => true
  | v :: r => v.con && AV.cons r
end

mutual
/-- Does it speak of blocks below n alone? -/
def AV.under (n : Nat) : AV → Bool
  | .c _ => true
  | .s _ => true
  | .ptr i _ => Nat.blt i n
  | .slc i _ => Nat.blt i n
  | .mp i => Nat.blt i n
  | .fn _ first cap => AV.unders n first && AV.unders n cap
  | .agg cs => AV.unders n cs
  | .tup vs => AV.unders n vs
def AV.unders (n : Nat) : List AV → Bool
  | [] => true
  | v :: r => v.under n && AV.unders n r
end

/-- A value as an abstract one: aggregates by their cells. -/
def AV.of (sym : Bool) : Value → AV
  | .agg cs => .agg (cs.toList.map fun v => bif sym then .s v else .c v)
  | .tuple vs => .tup (vs.toList.map fun v => bif sym then .s v else .c v)
  | v => bif sym then .s v else .c v

/-- One cell? -/
def AV.one : AV → Bool
  | .c v => v.oneCell'
  | .s v => v.oneCell'
  | .agg _ => false
  | .tup _ => false
  | _ => true

def vCells (sym : Bool) : Value → List AV
  | .agg a => mapL (fun v => Bool.rec (.c v) (.s v) sym) a.toList
  | v => [Bool.rec (.c v) (.s v) sym]

def AV.cells : AV → List AV
  | .agg cs => cs
  | .c v => vCells false v
  | .s v => vCells true v
  | v => [v]

/-- What a temporary holds: a value, nothing yet, or something that is not known. -/
inductive EV where
  | val (v : AV)
  | undef
  | unk

abbrev Env := List (Nat × EV)

def Env.get (env : Env) (t : Nat) : EV :=
  List.rec (motive := fun _ => EV) .undef (fun p _ ih => Bool.rec ih p.2 (Nat.beq p.1 t)) env

def Env.val? (env : Env) (t : Nat) : Option AV :=
  match env.get t with
  | .val v => some v
  | _ => none

def ev (env : Env) : Operand → Option AV
  | .tmp t => env.val? t
  | .const v => some (AV.of false v)
  | .func f => some (.fn (.func f) [] [])
  | .global _ => none

def EV.onVal {β : Type} (d : β) (f : AV → β) : EV → β
  | .val v => f v
  | .undef => d
  | .unk => d

def onEv {β : Type} (env : Env) (x : Operand) (d : β) (f : AV → β) : β :=
  match x with
  | .tmp t => (env.get t).onVal d f
  | .const v => f (AV.of false v)
  | .func g => f (.fn (.func g) [] [])
  | .global _ => d

def vInt {β : Type} (d : β) (f : IntKind → Int → β) : Value → β
  | .int k n => f k n
  | _ => d

def AV.onInt {β : Type} (d : β) (f : Bool → IntKind → Int → β) : AV → β
  | .c v => vInt d (f false) v
  | .s v => vInt d (f true) v
  | _ => d

def vStr {β : Type} (d : β) (f : ByteArray → β) : Value → β
  | .string b => f b
  | _ => d

def AV.onStr {β : Type} (d : β) (f : Bool → ByteArray → β) : AV → β
  | .c v => vStr d (f false) v
  | .s v => vStr d (f true) v
  | _ => d

def vBool {β : Type} (d : β) (f : Bool → β) : Value → β
  | .bool b => f b
  | _ => d

def AV.onBool {β : Type} (d : β) (f : Bool → Bool → β) : AV → β
  | .c v => vBool d (f false) v
  | .s v => vBool d (f true) v
  | _ => d

def AV.onAgg {β : Type} (d : β) (f : List AV → β) : AV → β
  | .agg cs => f cs
  | _ => d

def AV.onPtr {β : Type} (d : β) (f : Nat → Nat → β) : AV → β
  | .ptr i o => f i o
  | _ => d

def AV.onSlc {β : Type} (d : β) (f : Nat → Nat → β) : AV → β
  | .slc i l => f i l
  | _ => d

def tag (sym : Bool) (v : Value) : AV := Bool.rec (.c v) (.s v) sym

/-- The heap's log, the newest entry first: a cell written, a new block (k: none: just these cells; some es: a row of elements of es cells, of which these are known), a block given up, a cell that is not to be looked at, a map's entries. -/
inductive LE where
  | wr (i off : Nat) (v : AV)
  | new (i : Nat) (ty : TypeId) (k : Option Nat) (cells : List AV)
  | kill (i : Nat)
  | hide (i off : Nat)
  | map (i : Nat) (es : List (Value × AV))

abbrev Log := List LE

def cellOf (L : Log) (i off : Nat) : Option AV :=
  List.rec (motive := fun _ => Option AV) none
    (fun e _ ih => LE.rec (motive := fun _ => Option AV)
      (fun j o v => Bool.rec ih (Bool.rec ih (some v) (Nat.beq o off)) (Nat.beq j i))
      (fun j _ _ cells => Bool.rec ih (nthL cells off) (Nat.beq j i))
      (fun j => Bool.rec ih none (Nat.beq j i))
      (fun j o => Bool.rec ih (Bool.rec ih none (Nat.beq o off)) (Nat.beq j i))
      (fun _ _ => ih) e) L

structure Meta where
  ty : TypeId
  k : Option Nat
  len : Nat

def metaOf (L : Log) (i : Nat) : Option Meta :=
  List.rec (motive := fun _ => Option Meta) none
    (fun e _ ih => LE.rec (motive := fun _ => Option Meta)
      (fun _ _ _ => ih)
      (fun j ty k cells => Bool.rec ih (some ⟨ty, k, lenL cells⟩) (Nat.beq j i))
      (fun j => Bool.rec ih none (Nat.beq j i))
      (fun _ _ => ih) (fun _ _ => ih) e) L

/-- A map's entries. -/
def mapOf (L : Log) (i : Nat) : Option (List (Value × AV)) :=
  List.rec (motive := fun _ => Option (List (Value × AV))) none
    (fun e _ ih => LE.rec (motive := fun _ => Option (List (Value × AV)))
      (fun _ _ _ => ih) (fun _ _ _ _ => ih)
      (fun j => Bool.rec ih none (Nat.beq j i))
      (fun _ _ => ih)
      (fun j es => Bool.rec ih (some es) (Nat.beq j i)) e) L

def obind {α β : Type} (o : Option α) (f : α → Option β) : Option β := Option.rec none f o

/-- The cells from off on, so many. -/
def cellsOf (L : Log) (i off n : Nat) : Option (List AV) :=
  Nat.rec (motive := fun _ => Nat → Option (List AV)) (fun _ => some []) (fun _ ih off => obind (cellOf L i off) fun v => obind (ih (off + 1)) fun r => some (v :: r)) n off

def writes (i off : Nat) (vs : List AV) : Log :=
  List.rec (motive := fun _ => Nat → Log) (fun _ => []) (fun v _ ih off => .wr i off v :: ih (off + 1)) vs off

/-- Are all these cells known? -/
def known (L : Log) (i off n : Nat) : Bool := (cellsOf L i off n).isSome

section
variable (P : Program)

def pureRun {α : Type} : Sem α → Option α
  | .pure a => some a
  | .program k => pureRun (k P)
  | _ => none

def size? (t : TypeId) : Option Nat := (P.info? t).map (·.size)

def agg? (t : TypeId) : Option Bool :=
  match P.underlying t with
  | some (.struct _) => some true
  | some (.array _ _) => some true
  | some _ => some false
  | none => none

def zero? (t : TypeId) : Option (List AV) :=
  ((P.info? t).bind (·.zero)).map fun v => v.cells.toList.map .c

def field? (t : TypeId) (f : Nat) : Option Field :=
  match P.underlying t with
  | some (.struct fs) => fs[f]?
  | _ => none

/-- The cells of part number i of a struct or an array: where they begin, how many. -/
def place? (t : TypeId) (i : Nat) : Option (Nat × Nat) :=
  match P.underlying t with
  | some (.struct fs) => (fs[i]?).bind fun f => (size? P f.type).map fun n => (f.offset, n)
  | some (.array _ e) => (size? P e).map fun n => (i * n, n)
  | _ => none

def setAt : List AV → Nat → List AV → List AV
  | xs, _, [] => xs
  | xs, o, v :: r => setAt (xs.set o v) (o + 1) r

def fillA (place : Nat → Option (Nat × Nat)) (cells : List AV) : List (Nat × AV) → Option (List AV)
  | [] => some cells
  | (i, v) :: rest =>
    (place i).bind fun p =>
      bif Nat.beq v.cells.length p.2 && Nat.ble (p.1 + v.cells.length) cells.length then fillA place (setAt cells p.1 v.cells) rest else none

def evAll (env : Env) (xs : List Operand) : Option (List AV) :=
  List.rec (motive := fun _ => Option (List AV)) (some []) (fun x _ ih => obind (ev env x) fun v => obind ih fun l => some (v :: l)) xs

def evParts (env : Env) : List (Nat × Operand) → Option (List (Nat × AV))
  | [] => some []
  | (i, x) :: r => (ev env x).bind fun v => (evParts env r).bind fun l => some ((i, v) :: l)

/-- Whatever the model reckons without memory. -/
def evPure (env : Env) (o : Oper) : Option AV :=
  obind (evAll env o.op.operands.toList) fun vs =>
    obind (AV.vals vs) fun _ =>
      match pureRun P (execOp (fun x => (((ev env x).bind AV.val).getD undef)) o) with
      | some (.value v) => some (AV.of (!AV.cons vs) v)
      | _ => none

def kidx (k : IntKind) : Nat := IntKind.rec 0 1 2 3 4 5 6 7 k

def keq (k j : IntKind) : Bool := Nat.beq (kidx k) (kidx j)

/-- A known number, wrapped: nothing to do where it is small. -/
def wrapC (k : IntKind) (n : Int) : Int :=
  Int.rec (fun m => Bool.rec (k.wrap n) n (Nat.blt m 128)) (fun _ => k.wrap n) n

def wrapT (sym : Bool) (k : IntKind) (n : Int) : Int := Bool.rec (wrapC k n) (k.wrap n) sym

/-- Two numbers of one kind. -/
def binInt (sym : Bool) (op : BinOp) (k : IntKind) (a b : Int) : Option Value :=
  match op with
  | .add => some (.int k (wrapT sym k (a + b)))
  | .sub => some (.int k (wrapT sym k (a - b)))
  | .mul => some (.int k (wrapT sym k (a * b)))
  | .quo => bif decide (b = 0) then none else some (.int k (k.wrap (a.tdiv b)))
  | .rem => bif decide (b = 0) then none else some (.int k (a.tmod b))
  | .and => some (.int k (k.wrap ((BitVec.ofInt k.bits a &&& BitVec.ofInt k.bits b).toNat : Int)))
  | .or => some (.int k (k.wrap ((BitVec.ofInt k.bits a ||| BitVec.ofInt k.bits b).toNat : Int)))
  | .xor => some (.int k (k.wrap ((BitVec.ofInt k.bits a ^^^ BitVec.ofInt k.bits b).toNat : Int)))
  | .andNot => some (.int k (k.wrap ((BitVec.ofInt k.bits a &&& ~~~(BitVec.ofInt k.bits b)).toNat : Int)))
  | .eql => some (.bool (a == b))
  | .neq => some (.bool (a != b))
  | .lss => some (.bool (a < b))
  | .leq => some (.bool (a ≤ b))
  | .gtr => some (.bool (a > b))
  | .geq => some (.bool (a ≥ b))
  | .shl => none
  | .shr => none

def shInt (op : BinOp) (k : IntKind) (a b : Int) : Option Value :=
  match op with
  | .shl => bif decide (b < 0) then none else some (.int k (k.wrap (a * 2 ^ (min b.toNat k.bits))))
  | .shr => bif decide (b < 0) then none else some (.int k (a.fdiv (2 ^ (min b.toNat k.bits))))
  | _ => none

def BinOp.shifts : BinOp → Bool
  | .shl => true
  | .shr => true
  | _ => false

def BinOp.eqs : BinOp → Bool
  | .eql => true
  | .neq => true
  | _ => false

def isNeq : BinOp → Bool
  | .neq => true
  | _ => false

def binStr (op : BinOp) (a b : ByteArray) : Option Value :=
  match op with
  | .eql => some (.bool (a.data.toList == b.data.toList))
  | .neq => some (.bool !(a.data.toList == b.data.toList))
  | _ => none

/-- Two values, one of which it is. -/
def mix1 (b : Bool) : AV → AV → Option AV
  | .c (.bool true), .c (.bool true) => some (.c (.bool true))
  | .c (.bool false), .c (.bool false) => some (.c (.bool false))
  | .c (.bool true), .c (.bool false) => some (.s (.bool b))
  | .c (.bool false), .c (.bool true) => some (.s (.bool !b))
  | .c (.bool x), .s (.bool y) => some (.s (.bool (bif b then x else y)))
  | .s (.bool x), .c (.bool y) => some (.s (.bool (bif b then x else y)))
  | .s (.bool x), .s (.bool y) => some (.s (.bool (bif b then x else y)))
  | .c (.int k x), .c (.int j y) => bif keq k j then bif decide (x = y) then some (.c (.int k x)) else some (.s (.int k (bif b then x else y))) else none
  | .c (.int k x), .s (.int j y) => bif keq k j then some (.s (.int k (bif b then x else y))) else none
  | .s (.int k x), .c (.int j y) => bif keq k j then some (.s (.int k (bif b then x else y))) else none
  | .s (.int k x), .s (.int j y) => bif keq k j then some (.s (.int k (bif b then x else y))) else none
  | .tup [], .tup [] => some (.tup [])
  | .ptr i o, .ptr j p => bif Nat.beq i j && Nat.beq o p then some (.ptr i o) else none
  | .s (.string x), .s (.string y) => some (.s (.string (bif b then x else y)))
  | .c (.string x), .s (.string y) => some (.s (.string (bif b then x else y)))
  | .s (.string x), .c (.string y) => some (.s (.string (bif b then x else y)))
  | _, _ => none

def mixL (b : Bool) : List AV → List AV → Option (List AV)
  | [], [] => some []
  | x :: r, y :: q => (mix1 b x y).bind fun v => (mixL b r q).bind fun l => some (v :: l)
  | _, _ => none

def mix (b : Bool) (x y : AV) : Option AV :=
  match x, y with
  | .agg xs, .agg ys => (mixL b xs ys).map .agg
  | .tup xs, .tup ys => (mixL b xs ys).map .tup
  | x, y => mix1 b x y

/-- A bool that is known, or one that is not. -/
inductive TB where
  | c (b : Bool)
  | s (b : Bool)

def TB.av : TB → AV
  | .c b => .c (.bool b)
  | .s b => .s (.bool b)

def TB.and : TB → TB → TB
  | .c true, y => y
  | .c false, _ => .c false
  | .s x, .c true => .s x
  | .s _, .c false => .c false
  | .s x, .s y => .s (x && y)

def TB.not : TB → TB
  | .c b => .c (!b)
  | .s b => .s (!b)

def TB.mk (sym b : Bool) : TB := Bool.rec (.c b) (.s b) sym

def eqBool (x y : AV) : Option TB := x.onBool none fun s p => y.onBool none fun r q => some (.mk (s || r) (p == q))
def eqInt (x y : AV) : Option TB := x.onInt none fun s k p => y.onInt none fun r j q => bif keq k j then some (.mk (s || r) (p == q)) else none
def eqStr (x y : AV) : Option TB := x.onStr none fun s p => y.onStr none fun r q => some (.mk (s || r) (p.data.toList == q.data.toList))

/-- '==' of two bools, numbers, strings. -/
def eqAt (d : TypeDesc) (x y : AV) : Option TB :=
  match d with
  | .bool => eqBool x y
  | .int _ => eqInt x y
  | .string => eqStr x y
  | _ => none

def eqPart (xs ys : List AV) (f : Field) (d : TypeDesc) : Option TB :=
  obind (nthL xs f.offset) fun x => obind (nthL ys f.offset) fun y => eqAt d x y

/-- '==' of the fields of a struct of bools, numbers and strings. -/
def eqFlat (xs ys : List AV) : List Field → Option TB
  | [] => some (.c true)
  | f :: fs =>
    bif f.name == "_" then eqFlat xs ys fs else
      obind (P.underlying f.type) fun d => obind (eqPart xs ys f d) fun b => obind (eqFlat xs ys fs) fun r => some (b.and r)

def eqSub (xs ys : List AV) (f : Field) (gs : Array Field) : Option TB :=
  bif P.stoodInHeld f.type then none else
    obind (size? P f.type) fun n => eqFlat P ((xs.drop f.offset).take n) ((ys.drop f.offset).take n) gs.toList

/-- The same, some of the fields structs of that kind themselves. -/
def eqFieldsA (xs ys : List AV) : List Field → Option TB
  | [] => some (.c true)
  | f :: fs =>
    bif f.name == "_" then eqFieldsA xs ys fs else
      obind (match P.underlying f.type with
        | some (.struct gs) => eqSub P xs ys f gs
        | some d => eqPart xs ys f d
        | none => none) fun b => obind (eqFieldsA xs ys fs) fun r => some (b.and r)

def eqAgg (t : TypeId) (xs ys : List AV) : Option TB :=
  match P.underlying t with
  | some (.struct fs) => bif P.stoodInHeld t || P.eqGuardType P.depth t then none else eqFieldsA P xs ys fs.toList
  | _ => none

def bytesA : List AV → Option (Bool × List UInt8)
  | [] => some (false, [])
  | .c (.int .u8 n) :: r => (bytesA r).bind fun p => some (p.1, UInt8.ofNat n.toNat :: p.2)
  | .s (.int .u8 n) :: r => (bytesA r).bind fun p => some (true, UInt8.ofNat n.toNat :: p.2)
  | _ => none

/-- What a map holds at a key: known or not, what is held. -/
def lookA (d : TypeDesc) (k : AV) (zero : AV) : List (Value × AV) → Option (AV × TB)
  | [] => some (zero, .c false)
  | (x, v) :: r =>
    obind (eqAt d k (.c x)) fun e =>
      match e with
      | .c true => some (v, .c true)
      | .c false => lookA d k zero r
      | .s b => obind (lookA d k zero r) fun p => obind (mix b v p.1) fun m => some (m, TB.s (b || (match p.2 with | .c y => y | .s y => y)))

abbrev Out := Option AV × Nat × Log

def one (v : Option AV) (n : Nat) : T Out :=
  match v with
  | some v => .ret (some v, n, [])
  | none => .bad ""

/-- A choice among so many values by a number. -/
def pickAt (x : Int) : List AV → Int → Option AV
  | [], _ => none
  | [v], _ => some v
  | v :: w :: r, k => (pickAt x (w :: r) (k + 1)).bind fun e => mix1 (x == k) v e

end
end
end Go.Sx
