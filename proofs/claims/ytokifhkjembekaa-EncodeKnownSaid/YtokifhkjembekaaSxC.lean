/- The symbolic evaluator, third part: a region whose order is open: each operation is evaluated in a state in which nothing is known that an operation beside it (neither ahead of it nor behind it by the edges) may write. Conditions: none. -/
import Derived.Test.YtokifhkjembekaaSxB
namespace Go.Sx
noncomputable section

/-- The blocks that a log touches. -/
def locs : Log → List Nat
  | [] => []
  | .wr i _ _ :: L => i :: locs L
  | .new i _ _ _ :: L => i :: locs L
  | .kill i :: L => i :: locs L
  | .hide i _ :: L => i :: locs L
  | .map i _ :: L => i :: locs L

def memN (x : Nat) (l : List Nat) : Bool := l.any fun y => Nat.beq x y
def joinN (a b : List Nat) : List Nat := a ++ b.filter fun x => !memN x a
def subN (a b : List Nat) : Bool := a.all fun x => memN x b
def apartN (a b : List Nat) : Bool := a.all fun x => !memN x b

/-- What the leaves touch, together. -/
def T.allLocs : T Out → List Nat
  | .ret r => joinN [] (locs r.2.2)
  | .br _ t e => joinN (allLocs t) (allLocs e)
  | .bad _ => []

def T.first {α : Type} : T α → Option α
  | .ret a => some a
  | .br _ t e => match t.first with | some a => some a | none => e.first
  | .bad _ => none

def evOf : Option AV → EV
  | some v => .val v
  | none => .undef

section
variable (P : Program)

/-- What each operation touches, by one walk in the order of the text (a guess: it is checked). -/
def declare (call : CallF) (base : Log) : List Oper → St → List (List Nat)
  | [], _ => []
  | o :: rest, (env, n, D) =>
    match (evAny P call env n (app D base) o).first with
    | some (v, n', D') => (evAny P call env n (app D base) o).allLocs :: declare call base rest (put env o.dst (evOf v), n', app D' D)
    | none => [] :: declare call base rest (env, n, D)

def isAhead (bs : List Nat) (j i : Nat) : Bool := (bs.getD i 0).testBit j

def edgeBits (bs : List Nat) : List Edge → Nat
  | [] => 0
  | e :: es => bif Region.binds .any e then (2 ^ e.on ||| bs.getD e.on 0) ||| edgeBits bs es else edgeBits bs es

/-- The bits hold all that is ahead. -/
def edgesOK (bs : List Nat) : Nat → List Oper → Bool
  | _, [] => true
  | i, o :: os => ((o.after.toList.all fun e => !Region.binds .any e || Nat.blt e.on i) && Nat.beq (bs.getD i 0) (edgeBits bs o.after.toList)) && edgesOK bs (i + 1) os

/-- j and i may come in either order. -/
def beside (bs : List Nat) (i j : Nat) : Bool := !(Nat.beq i j || (isAhead bs j i || isAhead bs i j))

/-- What those beside i write is not known. -/
def hideEnv (bs : List Nat) (i : Nat) : Nat → List Oper → Env → Env
  | _, [], e => e
  | k, o :: os, e => bif beside bs i k then put (hideEnv bs i (k + 1) os e) o.dst .unk else hideEnv bs i (k + 1) os e

def kills : List Nat → Log → Log
  | [], L => L
  | x :: xs, L => .kill x :: kills xs L

def hideLog (bs : List Nat) (i : Nat) : Nat → List (List Nat) → Log → Log
  | _, [], L => L
  | k, d :: ds, L => bif beside bs i k then kills d (hideLog bs i (k + 1) ds L) else hideLog bs i (k + 1) ds L

/-- One operation, evaluated in what is sure of its state. -/
def drawDo (call : CallF) (nt : Nat) (bs : List Nat) (ds : List (List Nat)) (all : List Oper) (be : Env) (base : Log) (o : Oper) (i : Nat) (st : St) : T St :=
  bif (match o.dst with | some d => Nat.blt d nt | none => true) then
    ((evAny P call (hideEnv bs i 0 all (app st.1 be)) st.2.1 (hideLog bs i 0 ds (app st.2.2 base)) o).at o.pos).bind fun r =>
      bif subN (locs r.2.2) (ds.getD i []) then .ret (put st.1 o.dst (evOf r.1), r.2.1, app r.2.2 st.2.2) else .bad "draw"
  else .bad ""

def drawGo (call : CallF) (nt : Nat) (bs : List Nat) (ds : List (List Nat)) (all : List Oper) (be : Env) (base : Log) : List Oper → Nat → St → T St
  | [], _, st => .ret st
  | o :: rest, i, st =>
    let go (st : St) : T St := (drawDo P call nt bs ds all be base o i st).bind (drawGo call nt bs ds all be base rest (i + 1))
    let no (st : St) : T St := drawGo call nt bs ds all be base rest (i + 1) (put st.1 o.dst .undef, st.2)
    match o.guard with
    | none => go st
    | some (j, want) =>
      match obind (nthL all j) (·.dst) with
      | none => .bad "guard"
      | some t =>
        match Env.get (hideEnv bs i 0 all (app st.1 be)) t with
        | .val v => v.onBool (.bad "guard") fun sym b => Bool.rec
            (Bool.rec (no st) (go st) (b == want))
            (.br (b == want) (go ((t, .val (.c (.bool want))) :: st.1, st.2)) (no ((t, .val (.c (.bool !want))) :: st.1, st.2))) sym
        | .undef => no st
        | .unk => .bad "guard"

def pairsApart (bs : List Nat) (ds : List (List Nat)) (all : List Oper) : Bool :=
  (List.range all.length).all fun i => (List.range i).all fun k => isAhead bs k i ||
    (apartN (ds.getD i []) (ds.getD k []) &&
      (match (all.getD i default).dst, (all.getD k default).dst with | some a, some b => !Nat.beq a b | _, _ => true))

def drawEv (call : CallF) : DrawF := fun nt _ be base ops n =>
  let all := ops.toList
  let bs := (Region.before ops).toList
  let ds := declare P call base all (be, n, [])
  bif edgesOK bs 0 all && (Nat.beq (lenL ds) (lenL all) && pairsApart bs ds all) then
    drawGo P call nt bs ds all be base all 0 ([], n, [])
  else .bad "draw"

end
end
end Go.Sx
