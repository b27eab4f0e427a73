/- The symbolic evaluator, second part: operations, regions, code, calls. Conditions: none. -/
import Derived.Test.YtokifhkjembekaaSxA
namespace Go.Sx
noncomputable section

abbrev CallF := FuncId → List AV → Nat → Log → T (AV × Nat × Log)

section
variable (P : Program)

/-- The number of cells of an element, its bytes. -/
def info3? (e : TypeId) : Option (Nat × Nat × Value) := (P.info? e).bind fun i => i.zero.map fun z => (i.size, i.bytes, z)

def appendA (sT xT : TypeId) (s x : AV) (n : Nat) (L : Log) : Option Out :=
  bif !Nat.beq sT xT then none else
  match P.underlying sT with
  | some (.slice e) =>
    (info3? P e).bind fun (es, by', z) =>
      bif !(Nat.beq z.cells.size es && Nat.ble 1 es) then none else
      match s, x with
      | .c (.slice none 0 0), .c (.slice none 0 0) => some (some (.c (.slice none 0 0)), n, [])
      | .c (.slice none 0 0), .slc j m =>
        bif Nat.beq m 0 then some (some (.c (.slice none 0 0)), n, []) else
        (cellsOf L j 0 (m * es)).bind fun new =>
          bif (Nat.ble (m * by') 1000000000000 && Nat.ble m 1000000000000) && allL AV.one new && rowLike L j e es then
            some (some (.slc n m), n + 1, [.new n e (some es) new]) else none
      | .slc i l, .c (.slice none 0 0) =>
        match (bif rowLike L i e es then cellsOf L i 0 (l * es) else none) with
        | some _ => some (some (.slc i l), n, [])
        | none => none
      | .slc i l, .slc j m =>
        (cellsOf L i 0 (l * es)).bind fun old => (cellsOf L j 0 (m * es)).bind fun new =>
          bif Nat.ble ((l + m) * by') 1000000000000 && (Nat.ble (l + m) 1000000000000 && allL AV.one new && (rowLike L i e es && rowLike L j e es)) then
            some (some (.slc n (l + m)), n + 1, [.new n e (some es) (app old new), .kill i]) else none
      | _, _ => none
  | _ => none
where
  rowLike (L : Log) (i : Nat) (e es : Nat) : Bool :=
    match metaOf L i with
    | some ⟨ty, some k, _⟩ => Nat.beq ty e && Nat.beq k es
    | _ => false

def evPick (env : Env) (n : Nat) (c a b : Operand) : T Out :=
  onEv env c (.bad "") fun c => c.onBool (.bad "") fun sym t =>
    Bool.rec (one (Bool.rec (ev env b) (ev env a) t) n) (one ((ev env a).bind fun x => (ev env b).bind fun y => mix t x y) n) sym

def evAlloc (n : Nat) (t : TypeId) : T Out := .opt ((zero? P t).map fun cs => (some (.ptr n 0), n + 1, [.new n t none cs]))

def evBox (env : Env) (n : Nat) (t : TypeId) (x : Operand) : T Out := onEv env x (.bad "") fun v => .ret (some (.ptr n 0), n + 1, [.new n t none v.cells])

def placesOf : List Field → Option (List (Nat × Nat))
  | [] => some []
  | f :: r => obind (size? P f.type) fun k => obind (placesOf r) fun l => some ((f.offset, k) :: l)

def evBuild (env : Env) (n : Nat) (t : TypeId) (parts : Array (Nat × Operand)) : T Out :=
  one (obind (zero? P t) fun z => obind (evParts env parts.toList) fun ps =>
    match P.underlying t with
    | some (.struct fs) => obind (placesOf P fs.toList) fun pl => (fillA (nthL pl) z ps).map .agg
    | some (.array _ e) => obind (size? P e) fun k => (fillA (fun i => some (i * k, k)) z ps).map .agg
    | _ => none) n

def evBuildSlice (env : Env) (n : Nat) (t : TypeId) (len : Nat) (parts : Array (Nat × Operand)) : T Out :=
  .opt (match P.underlying t with
    | some (.slice e) => (info3? P e).bind fun (es, _, z) =>
      bif Nat.beq z.cells.size es && (Nat.ble 1 es && Nat.ble (len * es) 100000) then
        (evParts env parts.toList).bind fun ps =>
          (fillA (fun i => some (i * es, es)) (mapL (fun j => AV.c (z.cells[j % z.cells.size]!)) (List.range (len * es))) ps).bind fun cs =>
            bif allL AV.one cs then some (some (.slc n len), n + 1, [.new n e (some es) cs]) else none
      else none
    | _ => none)

def loadA (L : Log) (t : TypeId) (i off : Nat) : Option AV :=
  (agg? P t).bind fun b => Bool.rec (cellOf L i off) ((size? P t).bind fun k => (cellsOf L i off k).map .agg) b

def evLoad (env : Env) (n : Nat) (L : Log) (t : TypeId) (a : Operand) : T Out :=
  onEv env a (.bad "") fun a => a.onPtr (.bad "") fun i off => one (loadA P L t i off) n

def evStore (env : Env) (n : Nat) (L : Log) (t : TypeId) (a x : Operand) : T Out :=
  onEv env a (.bad "") fun a => a.onPtr (.bad "") fun i off => onEv env x (.bad "") fun v =>
    .opt ((size? P t).bind fun k =>
      bif Nat.beq (lenL v.cells) k && (known L i off k && allL AV.one v.cells) then some (none, n, writes i off v.cells) else none)

def evNilCheck (env : Env) (n : Nat) (x : Operand) : T Out :=
  onEv env x (.bad "") fun v => match v with
    | .ptr i off => .ret (some (.ptr i off), n, [])
    | .fn (.func f) first cap => .ret (some (.fn (.func f) first cap), n, [])
    | _ => .bad ""

def evFieldAddr (env : Env) (n : Nat) (t : TypeId) (x : Operand) (f : Nat) : T Out :=
  onEv env x (.bad "") fun a => a.onPtr (.bad "") fun i off =>
    one ((field? P t f).bind fun fd => (size? P fd.type).bind fun k => bif Nat.beq k 0 then none else some (.ptr i (off + fd.offset))) n

def partA (t : TypeId) (cs : List AV) (off : Nat) : Option AV :=
  (agg? P t).bind fun b => Bool.rec (nthL cs off) ((size? P t).map fun k => .agg ((cs.drop off).take k)) b

def evField (env : Env) (n : Nat) (t : TypeId) (x : Operand) (f : Nat) : T Out :=
  onEv env x (.bad "") fun a => a.onAgg (.bad "") fun cs => one ((field? P t f).bind fun fd => partA P fd.type cs fd.offset) n

def evIndexAddr (env : Env) (n : Nat) (t : TypeId) (x ix : Operand) : T Out :=
  onEv env x (.bad "") fun x => onEv env ix (.bad "") fun ix => ix.onInt (.bad "") fun sym _ k => Bool.rec
    (match P.underlying t with
    | some (.slice e) => x.onSlc (.bad "") fun i len =>
      one ((size? P e).bind fun es => bif decide (0 ≤ k) && decide (k < (len : Int)) then some (.ptr i (k.toNat * es)) else none) n
    | some (.array len e) => x.onPtr (.bad "") fun i off =>
      one ((size? P e).bind fun es => bif decide (0 ≤ k) && decide (k < (len : Int)) then some (.ptr i (off + k.toNat * es)) else none) n
    | _ => .bad "") (.bad "") sym

def evIndex (env : Env) (n : Nat) (o : Oper) (t : TypeId) (x ix : Operand) : T Out :=
  match P.underlying t with
  | some (.array len e) => onEv env x (.bad "") fun x => x.onAgg (.bad "") fun cs => onEv env ix (.bad "") fun ix => ix.onInt (.bad "") fun sym _ k =>
    Bool.rec
      (one (bif decide (0 ≤ k) && decide (k < (len : Int)) then (size? P e).bind fun es => partA P e cs (k.toNat * es) else none) n)
      (bif (agg? P e).getD true || !((size? P e) == some 1) || !Nat.beq len cs.length then .bad "" else
        .br (decide (0 ≤ k) && decide (k < (len : Int))) (one (pickAt k cs 0) n) (.bad "index")) sym
  | _ => one (evPure P env o) n

/-- So many elements of a row are known. -/
def capOK (L : Log) (i len : Nat) : Bool :=
  match metaOf L i with
  | some ⟨_, some es, _⟩ => Nat.ble 1 es && known L i 0 (len * es)
  | _ => false

def evSlice (env : Env) (n : Nat) (L : Log) (o : Oper) (t : TypeId) (x : Operand) (lo hi mx : Option Operand) : T Out :=
  match P.underlying t with
  | some (.slice e) => onEv env x (.bad "") fun x => x.onSlc (.bad "") fun i len =>
    match lo, mx with
    | none, none =>
      match hi with
      | none => bif capOK L i len && (size? P e).isSome then .ret (some (.slc i len), n, []) else .bad "slice"
      | some h => onEv env h (.bad "") fun h => h.onInt (.bad "") fun sym _ k =>
        Bool.rec (bif decide (0 ≤ k) && (decide (k ≤ (len : Int)) && (capOK L i len && (size? P e).isSome)) then .ret (some (.slc i k.toNat), n, []) else .bad "slice") (.bad "") sym
    | _, _ => .bad ""
  | _ => one (evPure P env o) n

def evMakeFunc (env : Env) (n : Nat) (f : Fn) (first cap : Array Operand) : T Out :=
  one ((evAll env first.toList).bind fun a => (evAll env cap.toList).bind fun b => some (.fn f a b)) n

def evExtract (env : Env) (n : Nat) (x : Operand) (k : Nat) : T Out :=
  onEv env x (.bad "") fun v => match v with
    | .tup vs => one (nthL vs k) n
    | _ => .bad ""

def evBin (env : Env) (n : Nat) (o : Oper) (op : BinOp) (t : TypeId) (x y : Operand) : T Out :=
  onEv env x (.bad "") fun a => onEv env y (.bad "") fun b =>
    a.onInt
      (a.onAgg (a.onStr (one (evPure P env o) n) fun s p => b.onStr (.bad "") fun r q =>
          match binStr op p q with
          | some v => .ret (some (tag (s || r) v), n, [])
          | none => one (evPure P env o) n)
        fun xs => b.onAgg (.bad "") fun ys => bif BinOp.eqs op then one ((eqAgg P t xs ys).map fun e => Bool.rec e.av e.not.av (isNeq op)) n else .bad "")
      fun s k p => b.onInt (.bad "") fun r j q =>
        bif BinOp.shifts op then one ((shInt op k p q).map (tag (s || r))) n
        else bif keq k j then one ((binInt (s || r) op k p q).map (tag (s || r))) n else .bad ""

def evConvert (env : Env) (n : Nat) (L : Log) (o : Oper) (src dst : TypeId) (x : Operand) : T Out :=
  match P.underlying src, P.underlying dst with
  | some _, some (.int k) => onEv env x (.bad "") fun v => v.onInt (one (evPure P env o) n) fun s _ q => .ret (some (tag s (.int k (k.wrap q))), n, [])
  | some (.slice e), some .string => onEv env x (.bad "") fun v => v.onSlc (one (evPure P env o) n) fun i len =>
      match P.underlying e with
      | some (.int .u8) => one ((cellsOf L i 0 len).bind fun cs => (bytesA cs).map fun p => tag p.1 (.string ⟨p.2.toArray⟩)) n
      | _ => .bad ""
  | _, _ => one (evPure P env o) n

def evUn (env : Env) (n : Nat) (o : Oper) (op : UnOp) (x : Operand) : T Out :=
  match op with
  | .not => onEv env x (.bad "") fun v => v.onBool (.bad "") fun s b => .ret (some (tag s (.bool !b)), n, [])
  | _ => one (evPure P env o) n

/-- The type of a map's keys: bools, numbers, strings. -/
def keyD (t : TypeId) : Option TypeDesc :=
  match P.underlying t with
  | some .bool => some .bool
  | some (.int k) => some (.int k)
  | some .string => some .string
  | _ => none

def evInsert (env : Env) (n : Nat) (L : Log) (t : TypeId) (m k x : Operand) : T Out :=
  match P.underlying t, ev env m, ev env k, ev env x with
  | some (.map kt _), some (.mp i), some (.c key), some v =>
    .opt (obind (keyD P kt) fun d => obind (mapOf L i) fun es => obind (lookA d (.c key) v es) fun p =>
      match p.2 with
      | .c false => some (none, n, [.map i (es ++ [(key, v)])])
      | _ => none)
  | _, _, _, _ => .bad ""

def zeroV? (t : TypeId) : Option Value := (P.info? t).bind (·.zero)

def evLookup (env : Env) (n : Nat) (L : Log) (t : TypeId) (m k : Operand) (ok : Bool) : T Out :=
  match P.underlying t, ev env m, ev env k with
  | some (.map kt e), some (.mp i), some key =>
    one (obind (keyD P kt) fun d => obind (mapOf L i) fun es => obind (zeroV? P e) fun z =>
      (lookA d key (AV.of false z) es).map fun p => bif ok then .tup [p.1, p.2.av] else p.1) n
  | _, _, _ => .bad ""

def evLen (env : Env) (n : Nat) (o : Oper) (t : TypeId) (x : Operand) : T Out :=
  onEv env x (.bad "") fun v => v.onSlc (one (evPure P env o) n) fun _ len =>
    match P.underlying t with
    | some (.slice _) => .ret (some (.c (.int .i64 len)), n, [])
    | _ => .bad ""

def evBuiltin (env : Env) (n : Nat) (L : Log) (o : Oper) (b : Builtin) (args : List Operand) (ts : List TypeId) : T Out :=
  match b with
  | .append =>
    match args, ts with
    | [s, x], [sT, xT] => onEv env s (.bad "") fun s => onEv env x (.bad "") fun x => .opt (appendA P sT xT s x n L)
    | _, _ => .bad ""
  | .len =>
    match args, ts with
    | [x], [t] => evLen P env n o t x
    | _, _ => .bad ""
  | _ => one (evPure P env o) n

def AV.onFn {β : Type} (d : β) (f : FuncId → List AV → List AV → β) : AV → β
  | .fn (.func g) first cap => f g first cap
  | .c (.func (.func g) first cap) => f g (first.toList.map (AV.of false)) (cap.toList.map (AV.of false))
  | _ => d

def hasBody (f : FuncId) : Bool :=
  match P.funcs[f]? with
  | some fn => fn.body.isSome
  | none => false

def evCallee (call : CallF) (env : Env) (n : Nat) (L : Log) (o : Oper) (c : Call) : T Out :=
  match c.callee with
  | .value f => onEv env f (.bad "") fun f => f.onFn (.bad "") fun g first cap =>
    match evAll env c.args.toList with
    | some vs => bif hasBody P g then (call g (app first (app vs cap)) n L).bind fun r => .ret (some r.1, r.2) else .bad "no body"
    | none => .bad ""
  | .builtin b => evBuiltin P env n L o b c.args.toList c.argTypes.toList
  | .invoke _ _ => .bad ""

def evAny (call : CallF) (env : Env) (n : Nat) (L : Log) (o : Oper) : T Out :=
  match o.op with
  | .move x => one (ev env x) n
  | .assign x => one (ev env x) n
  | .pick c a b => evPick env n c a b
  | .alloc t => evAlloc P n t
  | .box t x => evBox env n t x
  | .build t parts => evBuild P env n t parts
  | .buildSlice t len parts => evBuildSlice P env n t len parts
  | .load t a => evLoad P env n L t a
  | .store t a x => evStore P env n L t a x
  | .nilCheck x => evNilCheck env n x
  | .fieldAddr t x f => evFieldAddr P env n t x f
  | .field t x f => evField P env n t x f
  | .indexAddr t x ix => evIndexAddr P env n t x ix
  | .index t x ix => evIndex P env n o t x ix
  | .slice t x lo hi mx => evSlice P env n L o t x lo hi mx
  | .makeFunc f first cap => evMakeFunc env n f first cap
  | .extract x k => evExtract env n x k
  | .binOp op t x y _ => evBin P env n o op t x y
  | .unOp op _ x => evUn P env n o op x
  | .convert src dst x => evConvert P env n L o src dst x
  | .makeMap _ none => .ret (some (.mp n), n + 1, [.map n []])
  | .insert t m k x => evInsert P env n L t m k x
  | .lookup t m k ok => evLookup P env n L t m k ok
  | .call c => evCallee P call env n L o c
  | _ => .bad ""

def put (env : Env) (dst : Option Tmp) (v : EV) : Env :=
  match dst with
  | some d => (d, v) :: env
  | none => env

/-- Where a walk stands: what it has set of the temporaries, the next block's number, what it has written; all three over a ground that stays. -/
abbrev St := Env × Nat × Log

def evDo (call : CallF) (nt : Nat) (be : Env) (base : Log) (o : Oper) (st : St) : T St :=
  bif (match o.dst with | some d => Nat.blt d nt | none => true) then
    ((evAny P call (app st.1 be) st.2.1 (app st.2.2 base) o).at o.pos).bind fun r =>
      .ret (put st.1 o.dst (match r.1 with | some v => .val v | none => .undef), r.2.1, app r.2.2 st.2.2)
  else .bad ""

/-- An operation under a guard, or none; k: how it goes on. -/
def evGuard (call : CallF) (nt : Nat) (be : Env) (base : Log) (all : List Oper) (o : Oper) (k : St → T St) (st : St) : T St :=
  match o.guard with
  | none => (evDo P call nt be base o st).bind k
  | some (j, want) =>
    match obind (nthL all j) (·.dst) with
    | none => .bad "guard"
    | some t =>
      match Env.get (app st.1 be) t with
      | .val v => v.onBool (.bad "guard") fun sym b => Bool.rec
          (Bool.rec (k (put st.1 o.dst .undef, st.2)) ((evDo P call nt be base o st).bind k) (b == want))
          (.br (b == want) ((evDo P call nt be base o ((t, .val (.c (.bool want))) :: st.1, st.2)).bind k)
            (k (put ((t, .val (.c (.bool !want))) :: st.1) o.dst .undef, st.2))) sym
      | .undef => k (put st.1 o.dst .undef, st.2)
      | .unk => .bad "guard"

/-- The operations of a region, in the order of the text. -/
def evOps (call : CallF) (nt : Nat) (be : Env) (base : Log) (all ops : List Oper) : St → T St :=
  List.rec (motive := fun _ => St → T St) (fun st => .ret st) (fun o _ ih st => evGuard P call nt be base all o ih st) ops

inductive Ex where
  | normal
  | exit (id : Nat)
  | ret

abbrev R := Ex × St

/-- The cells of elder blocks that a log writes (its own are those from n on to n'); none: it does something else to an elder block. -/
def touched (n n' : Nat) : Log → Option (List (Nat × Nat))
  | [] => some []
  | .wr i off _ :: L => obind (touched n n' L) fun l => bif Nat.blt i n then some ((i, off) :: l) else bif Nat.blt i n' then some l else none
  | .new i _ _ _ :: L => bif Nat.ble n i && Nat.blt i n' then touched n n' L else none
  | .kill i :: L => bif Nat.ble n i && Nat.blt i n' then touched n n' L else none
  | .hide _ _ :: _ => none
  | .map i _ :: L => bif Nat.ble n i && Nat.blt i n' then touched n n' L else none

/-- The elder cells that the leaves write; none if a leaf does not end as it is asked. -/
def touchedT {α : Type} (n : Nat) (f : α → Option (Nat × Log)) : T α → Option (List (Nat × Nat))
  | .ret r => obind (f r) fun p => touched n p.1 p.2
  | .br _ t e => obind (touchedT n f t) fun a => obind (touchedT n f e) fun b => some (a ++ b.filter fun x => !a.any fun y => Nat.beq x.1 y.1 && Nat.beq x.2 y.2)
  | .bad _ => none

def maxT {α : Type} (f : α → Nat) : T α → Nat
  | .ret r => f r
  | .br _ t e => Nat.max (maxT f t) (maxT f e)
  | .bad _ => 0

def mixV {α : Type} (n : Nat) (f : α → Option AV) : T α → Option AV
  | .ret r => (f r).bind fun v => bif v.under n then some v else none
  | .br b t e => (mixV n f t).bind fun x => (mixV n f e).bind fun y => mix b x y
  | .bad _ => none

def mixCells {α : Type} (n : Nat) (L : Log) (f : α → Log) (t : T α) : List (Nat × Nat) → Option Log
  | [] => some []
  | (i, off) :: r => (mixV n (fun x => cellOf (app (f x) L) i off) t).bind fun v => (mixCells n L f t r).bind fun D => some (.wr i off v :: D)

/-- Two unlike known numbers: ways that part on them are better walked apart. -/
def unlike : AV → AV → Bool
  | .c (.int _ x), .c (.int _ y) => !decide (x = y)
  | _, _ => false

def mixEV (n : Nat) (b : Bool) : EV → EV → Option EV
  | .val x, .val y => bif x.under n && (y.under n && !unlike x y) then (mix b x y).map .val else none
  | .undef, .undef => some .undef
  | _, _ => some .unk

def mixE {α : Type} (n : Nat) (f : α → EV) : T α → Option EV
  | .ret r => some (f r)
  | .br b t e => (mixE n f t).bind fun x => (mixE n f e).bind fun y => mixEV n b x y
  | .bad _ => none

def tmpsOf {α : Type} (f : α → Env) : T α → List Nat
  | .ret r => (f r).map (·.1)
  | .br _ t e => let a := tmpsOf f t; a ++ (tmpsOf f e).filter fun x => !a.any fun y => Nat.beq x y
  | .bad _ => []

def mixEnv {α : Type} (n : Nat) (be : Env) (f : α → Env) (t : T α) : List Nat → Option Env
  | [] => some []
  | u :: r => (mixE n (fun x => Env.get (app (f x) be) u) t).bind fun v => (mixEnv n be f t r).bind fun E => some ((u, v) :: E)

abbrev CR := AV × Nat × Log

/-- Several ways out of a call that end alike, but for what a scalar is, made one. -/
def merge (n : Nat) (L : Log) (t : T CR) : T CR :=
  match t with
  | .br b x y =>
    match obind (touchedT n (fun r => some (r.2.1, r.2.2)) (.br b x y)) fun ws => obind (mixV n (fun r => some r.1) (.br b x y)) fun v => obind (mixCells n L (fun r => r.2.2) (.br b x y) ws) fun D => some (v, maxT (fun r => r.2.1) (.br b x y), D) with
    | some r => .ret r
    | none => .br b x y
  | .ret r => .ret r
  | .bad s => .bad s

def isNormal : R → Option (Nat × Log)
  | (.normal, st) => some (st.2.1, st.2.2)
  | _ => none

/-- The same of ways through a piece of code that all go on behind it. -/
def mergeSt (n : Nat) (be : Env) (L : Log) (t : T R) : T R :=
  match t with
  | .br b x y =>
    match obind (touchedT n isNormal (.br b x y)) fun ws =>
        obind (mixEnv n be (fun r => r.2.1) (.br b x y) (tmpsOf (fun r => r.2.1) (.br b x y))) fun E =>
          obind (mixCells n L (fun r => r.2.2.2) (.br b x y) ws) fun D => some (E, maxT (fun r => r.2.2.1) (.br b x y), D) with
    | some st => .ret (.normal, st)
    | none => .br b x y
  | .ret r => .ret r
  | .bad s => .bad s

def thenDo (k : St → T R) : R → T R
  | (.normal, st) => k st
  | r => .ret r

/-- What was done over a ground, laid upon what had been done before it. -/
def upon (st : St) : R → R
  | (e, E, n, D) => (e, app E st.1, n, app D st.2.2)

def loopN (body : St → T R) (k : Nat) : St → T R :=
  Nat.rec (motive := fun _ => St → T R) (fun _ => .bad "rounds") (fun _ ih st => (body st).bind (thenDo ih)) k

abbrev DrawF := Nat → Nat → Env → Log → Array Oper → Nat → T St

def outOf (id : Nat) : R → R
  | (.exit j, st) => Bool.rec (.exit j, st) (.normal, st) (Nat.beq j id)
  | r => r

abbrev CodeF := Env → Log → St → T R

def regionOps (call : CallF) (draw : DrawF) (nt id : Nat) (ops : Array Oper) (d : Bool) (be : Env) (base : Log) (n : Nat) : T St :=
  Bool.rec (motive := fun _ => T St) (evOps P call nt be base ops.toList ops.toList ([], n, [])) (draw nt id be base ops n) d

def evRegion (call : CallF) (draw : DrawF) (nt id : Nat) (ops : Array Oper) (d : Bool) : CodeF := fun be base st =>
  (mergeSt st.2.1 (app st.1 be) (app st.2.2 base)
    ((regionOps P call draw nt id ops d (app st.1 be) (app st.2.2 base) st.2.1).bind fun s => .ret (.normal, s))).bind fun r => .ret (upon st r)

def evCond (t : Nat) (x y : CodeF) : CodeF := fun be base st =>
  (Env.get (app st.1 be) t).onVal (T.bad "cond") fun v => v.onBool (T.bad "cond") fun sym b => Bool.rec (motive := fun _ => T R)
    (Bool.rec (motive := fun _ => T R) (y be base st) (x be base st) b)
    ((mergeSt st.2.1 (app st.1 be) (app st.2.2 base)
      (.br b (x (app st.1 be) (app st.2.2 base) ([(t, .val (.c (.bool true)))], st.2.1, []))
        (y (app st.1 be) (app st.2.2 base) ([(t, .val (.c (.bool false)))], st.2.1, [])))).bind fun r => .ret (upon st r)) sym

def condOf (c : Operand) (x y : CodeF) : CodeF :=
  match c with
  | .tmp t => evCond t x y
  | .const v => fun be base st => vBool (.bad "cond") (fun b => Bool.rec (y be base st) (x be base st) b) v
  | _ => fun _ _ _ => .bad "cond"

/-- Code, over a ground of temporaries and of memory. -/
def evCode (call : CallF) (draw : DrawF) (nt lf : Nat) (c : Code) : CodeF :=
  Code.rec (motive := fun _ => CodeF)
    (fun _ _ st => .ret (.normal, st))
    (fun id ops d => evRegion P call draw nt id ops d)
    (fun _ _ x y be base st => (x be base st).bind (thenDo (y be base)))
    (fun c _ _ x y => condOf c x y)
    (fun id _ x be base st => (x be base st).bind fun r => .ret (outOf id r))
    (fun _ x be base st => loopN (x be base) lf st)
    (fun _ _ _ _ _ _ _ _ _ => .bad "rangeFunc")
    (fun id _ _ st => .ret (.exit id, st))
    (fun _ _ _ _ _ => .bad "scope")
    (fun _ _ _ _ => .bad "label")
    (fun _ _ _ _ => .bad "goto")
    (fun _ _ st => .ret (.ret, st))
    (fun _ _ _ _ => .bad "refuse") c

/-- The results of a function, behind its body. -/
def resA (L : Log) (env : Env) : List ResultVar → Option (List AV)
  | [] => some []
  | .tmp t :: r => (env.val? t).bind fun v => (resA L env r).bind fun l => some (v :: l)
  | .cell t ty :: r =>
    (match env.val? t with
      | some (.ptr i off) => match agg? P ty with
        | some true => (size? P ty).bind fun k => (cellsOf L i off k).map AV.agg
        | some false => cellOf L i off
        | none => none
      | _ => none).bind fun v => (resA L env r).bind fun l => some (v :: l)

def resV (L : Log) (env : Env) (rs : List ResultVar) : Option AV :=
  (resA P L env rs).map fun l => match l with | [v] => v | l => .tup l

def argsEnv : Nat → List AV → Env
  | _, [] => []
  | k, v :: r => (k, .val v) :: argsEnv (k + 1) r

def evBody (call : CallF) (draw : DrawF) (lf : Nat) (fn : Func) (c : Code) (args : List AV) (n : Nat) (L : Log) : T CR :=
  bif Nat.ble (lenL args) fn.ntmps then
    (evCode P call draw fn.ntmps lf c [] L (argsEnv 0 args, n, [])).bind fun r =>
      match r with
      | (.exit _, _) => .bad ""
      | (_, env, n', D) => .opt ((resV P (app D L) env fn.results.toList).map fun v => (v, n', D))
  else .bad ""

/-- What is known of functions ahead of their bodies. -/
abbrev Book := FuncId → List AV → Nat → Log → Option (T CR)

def evCall (Γ : Book) (draw : CallF → DrawF) (lf : Nat) : Nat → CallF
  | 0, _, _, _, _ => .bad "depth"
  | k + 1, f, args, n, L =>
    match Γ f args n L with
    | some t => t
    | none =>
      match P.funcs[f]? with
      | some fn => match fn.body with
        | some c => merge n L (evBody P (evCall Γ draw lf k) (draw (evCall Γ draw lf k)) lf fn c args n L)
        | none => .bad "no body"
      | none => .bad ""

end
end
end Go.Sx
