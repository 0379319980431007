/- The evaluator: operations, the abstract machine's step. Definitions alone. -/
import Derived.Test.YtcpffiihdnecjaaEv0
namespace Go.Proofs.Ytcpffiihdnecjaa.Ev
set_option linter.unusedSectionVars false
set_option linter.unusedSimpArgs false
set_option linter.unusedVariables false
open Go

structure PStep where
  op : Oper
  float : Bool
  re : List Oper
  deriving Inhabited

inductive AItem where
  | code (c : Code)
  | inBlock (id : Nat)
  | inLoop (body : Code)
  | inScope (body : Code)
  | ops (all rest : List Oper)
  | plan (all : List Oper) (steps : List PStep)
  | inRangeFunc (l : Nat)
  | endRangeFunc (l : Nat)
  | beginRound

inductive ADef where
  | collected (b : Nat)
  | fn (f : FuncId) (args : List AV)

structure APan where
  v : AV
  recovered : Bool

inductive AMode where
  | run
  | ret
  | pan (chain : List APan)

/-- What seldom turns in a frame. -/
structure ACtx where
  fn : FuncId
  nt : Nat
  defers : List ADef
  mode : AMode
  kind : CallKind
  round : Option Nat

structure AFrame where
  ctx : ACtx
  tmps : T AV
  todo : List AItem

structure St where
  fr : AFrame
  stk : List AFrame
  mem : Mem

/-- What is known besides: answers of functions without a body, of functions whose contracts are proved. -/
abbrev Ans := T (List AV → Mem → Option (AV × Mem))

structure Env where
  P : Program
  E : Tab
  G : Nat
  ext : Ans
  sum : Ans

-- operands

noncomputable def evalA (tm : T AV) : Operand → Option AV
  | .tmp t => tm.get t
  | .const v => ofVal 4 v
  | .global g => some (.gptr g)
  | .func f => some (.func (.func f) [] [])

/-- A package-level variable's address, as a block's, where it is known. -/
noncomputable def deg (V : Env) (M : Mem) (v : AV) : AV :=
  match v with
  | .gptr g => bif Nat.blt g V.E.ng then (match M.heap.get g with
    | some _ => .ptr g 0
    | none => .gptr g) else .gptr g
  | v => v

noncomputable def degO (V : Env) (M : Mem) (v : Option AV) : Option AV :=
  match v with
  | some v => some (deg V M v)
  | none => none

noncomputable def evalsA (tm : T AV) : List Operand → Option (List AV)
  | [] => some []
  | x :: r => match evalA tm x with
    | some v => (match evalsA tm r with | some l => some (v :: l) | none => none)
    | none => none

noncomputable def boundI (v : AV) (y : Nat) : Option Nat :=
  match v with
  | .int _ (.ofNat i) => bif Nat.ble i y then some i else none
  | _ => none

noncomputable def optI (tm : T AV) (o : Option Operand) (y d : Nat) : Option Nat :=
  match o with
  | none => some d
  | some x => match evalA tm x with
    | some v => boundI v y
    | none => none

/-- The cells of a struct or array, with parts laid in. -/
noncomputable def layCells (cs : List AV) (off : Nat) (vs : List AV) : List AV := cs.take off ++ vs ++ cs.drop (off + vs.length)

noncomputable def fillA (tm : T AV) (place : Nat → Option (Nat × Nat)) (cells : List AV) : List (Nat × Operand) → Option (List AV)
  | [] => some cells
  | (i, x) :: r => match place i with
    | some (off, size) => (match evalA tm x with
      | some v =>
        let vs := v.cells
        bif Nat.beq vs.length size && Nat.ble (off + size) cells.length then fillA tm place (layCells cells off vs) r else none
      | none => none)
    | none => none

noncomputable def repeatL (n : Nat) (z : List AV) : List AV := match n with
  | 0 => []
  | n + 1 => z ++ repeatL n z

/-- A value; a value and a row that is made for it. -/
inductive FRes where
  | no
  | val (v : AV)
  | row (v : AV) (r : Row)

noncomputable def fV (v : Option AV) : FRes := match v with
  | some v => .val v
  | none => .no

/-- A pointer to a new row. -/
noncomputable def fP (M : Mem) (r : Option Row) : FRes := match r with
  | some r => .row (.ptr M.next 0) r
  | none => .no

-- slicing

noncomputable def sliceStr (tm : T AV) (l n : Nat) (lo hi mx : Option Operand) : Option AV :=
  match mx with
  | some _ => none
  | none => match optI tm hi l l with
    | some h => (match optI tm lo h 0 with
      | some a => some (.str (h - a) (sExt n a h))
      | none => none)
    | none => none

/-- Of a slice whose capacity is known to be c. -/
noncomputable def sliceKnown (tm : T AV) (size b i len c : Nat) (lo hi mx : Option Operand) : Option AV :=
  match mx with
  | none => (match optI tm hi c len with
    | some h => (match optI tm lo h 0 with
      | some a => some (.slice b (bif Nat.beq a c then i else i + a * size) (h - a) (c - a))
      | none => none)
    | none => none)
  | some _ => (match hi with
    | some _ => (match optI tm mx c c with
      | some m => (match optI tm hi m 0 with
        | some h => (match optI tm lo h 0 with
          | some a => some (.slice b (bif Nat.beq a m then i else i + a * size) (h - a) (m - a))
          | none => none)
        | none => none)
      | none => none)
    | none => none)

/-- Of a slice whose capacity is at least c. -/
noncomputable def sliceLoose (tm : T AV) (size b i len c : Nat) (lo hi mx : Option Operand) : Option AV :=
  match mx with
  | none => (match optI tm hi c len with
    | some h => (match optI tm lo h 0 with
      | some a => some (.slice b (i + a * size) (h - a) (unk + (c - a)))
      | none => none)
    | none => none)
  | some _ => (match hi with
    | some _ => (match optI tm mx c c with
      | some m => (match optI tm hi m 0 with
        | some h => (match optI tm lo h 0 with
          | some a => bif Nat.beq a m then none else some (.slice b (i + a * size) (h - a) (m - a))
          | none => none)
        | none => none)
      | none => none)
    | none => none)

noncomputable def sliceNil (tm : T AV) (lo hi mx : Option Operand) : Option AV :=
  match mx, hi with
  | some _, none => none
  | _, _ => match optI tm mx 0 0 with
    | some _ => (match optI tm hi 0 0 with
      | some _ => (match optI tm lo 0 0 with
        | some _ => some .snil
        | none => none)
      | none => none)
    | none => none

/-- Is a block a row of elements of a type? -/
noncomputable def isRowOf (M : Mem) (b : Nat) (e : TypeId) : Bool :=
  match M.heap.get b with
  | some (.row r) => Nat.beq r.elem e
  | _ => false

noncomputable def sliceSl (V : Env) (tm : T AV) (M : Mem) (e : TypeId) (x : AV) (lo hi mx : Option Operand) : Option AV :=
  match V.E.size e with
  | some size => (match x with
    | .slice b i len cap => bif Nat.blt cap unk then sliceKnown tm size b i len cap lo hi mx
      else bif isRowOf M b e && Nat.blt (cap - unk) unk then sliceLoose tm size b i len (cap - unk) lo hi mx else none
    | .snil => sliceNil tm lo hi mx
    | _ => none)
  | none => none

noncomputable def sliceArr (V : Env) (tm : T AV) (n : Nat) (e : TypeId) (x : AV) (lo hi mx : Option Operand) : Option AV :=
  match mx with
  | some _ => none
  | none => (match V.E.size e with
    | some size => (match x with
      | .ptr b i => bif Nat.blt n unk then sliceKnown tm size b i n n lo hi none else none
      | _ => none)
    | none => none)

noncomputable def sliceA (V : Env) (tm : T AV) (M : Mem) (t : TypeId) (x : Operand) (lo hi mx : Option Operand) : Option AV :=
  match degO V M (evalA tm x) with
  | some v => (match V.E.und t with
    | some .string => (match v with
      | .str l n => sliceStr tm l n lo hi mx
      | _ => none)
    | some (.slice e) => sliceSl V tm M e v lo hi mx
    | some (.array n e) => sliceArr V tm n e v lo hi mx
    | _ => none)
  | none => none

-- conversions

noncomputable def toStr (V : Env) (M : Mem) (e : TypeId) (x : AV) : FRes :=
  match V.E.und e with
  | some (.int .u8) => (match x with
    | .snil => .val (.str 0 0)
    | .slice b i len _ => (match M.loads b i len with
      | some cs => (match packA cs with | some n => .val (.str len n) | none => .no)
      | none => .no)
    | _ => .no)
  | _ => .no

/-- A pointer as an unsafe pointer, where it stays as it is. -/
noncomputable def toUnsafe (V : Env) (M : Mem) (t : TypeId) (x : AV) : FRes :=
  match x with
  | .pnil => .val (.pnil)
  | .ptr b i => (match M.row b, V.E.size t with
    | some r, some n => bif Nat.blt i r.len && !Nat.beq n 0 then .val (.ptr b i) else .no
    | _, _ => .no)
  | _ => .no

/-- an unsafe pointer as a pointer, where just such a variable lies. -/
noncomputable def fromUnsafe (V : Env) (M : Mem) (u : TypeId) (x : AV) : FRes :=
  match x with
  | .pnil => .val (.pnil)
  | .ptr b i => (match M.row b, V.E.size u with
    | some r, some _ => bif r.whole && liesAt V.P V.P.depth r.elem (r.len / V.P.cellsOf r.elem) i u 1 then .val (.ptr b i) else .no
    | _, _ => .no)
  | _ => .no

noncomputable def convA (V : Env) (M : Mem) (src dst : TypeId) (x : AV) : FRes :=
  match V.E.und dst with
  | some (.int k) => (match V.E.und src, x with
    | some _, .int _ n => .val (.int k (wr k n))
    | _, _ => .no)
  | some .string => (match V.E.und src, x with
    | some .string, .str l n => .val (.str l n)
    | some (.slice e), x => toStr V M e x
    | _, _ => .no)
  | some .unsafePointer => (match V.E.und src with
    | some (.pointer t) => toUnsafe V M t x
    | _ => .no)
  | some (.pointer u) => (match V.E.und src with
    | some .unsafePointer => fromUnsafe V M u x
    | _ => .no)
  | _ => .no

noncomputable def lenA (V : Env) (t : TypeId) (x : AV) : Option AV :=
  match V.E.und t with
  | some .string => (match x with
    | .str l _ => some (.int .i64 (.ofNat l))
    | _ => none)
  | some (.array n _) => some (.int .i64 (.ofNat n))
  | some (.slice _) => (match x with
    | .slice _ _ l _ => some (.int .i64 (.ofNat l))
    | .snil => some (.int .i64 (.ofNat 0))
    | _ => none)
  | _ => none

noncomputable def capA (V : Env) (t : TypeId) (x : AV) : Option AV :=
  match V.E.und t with
  | some (.slice _) => (match x with
    | .slice _ _ _ c => bif Nat.blt c unk then some (.int .i64 (.ofNat c)) else none
    | .snil => some (.int .i64 (.ofNat 0))
    | _ => none)
  | _ => none

noncomputable def mm2 (mx : Bool) (x y : AV) : Option AV :=
  match x, y with
  | .int k a, .int _ b => some (.int k (bif mx then (bif decide (b > a) then b else a) else (bif decide (b < a) then b else a)))
  | _, _ => none

-- operations that only compute, read, or make a row of their own

noncomputable def fMove (tm : T AV) (x : Operand) : FRes := fV (evalA tm x)
noncomputable def fPick (tm : T AV) (c a b : Operand) : FRes :=
  match evalA tm c with
  | some (.bool t) => fV (bif t then evalA tm a else evalA tm b)
  | _ => .no
noncomputable def fAlloc (V : Env) (M : Mem) (e : TypeId) : FRes :=
  match V.E.zero e with
  | some z => fP M (rowOf e true z.cells)
  | none => .no
noncomputable def fBox (tm : T AV) (M : Mem) (e : TypeId) (x : Operand) : FRes :=
  match evalA tm x with
  | some v => fP M (rowOf e true v.cells)
  | none => .no
noncomputable def fieldAt (V : Env) (fs : Array Field) (i : Nat) : Option (Nat × Nat) :=
  match fs[i]? with
  | some f => (match V.E.size f.type with | some n => some (f.offset, n) | none => none)
  | none => none
/-- Are all fields' sizes known? -/
noncomputable def sizesOk (V : Env) : List Field → Bool
  | [] => true
  | f :: r => (match V.E.size f.type with
    | some _ => sizesOk V r
    | none => false)
noncomputable def fAgg (cs : Option (List AV)) : FRes := match cs with
  | some cs => .val (.agg cs)
  | none => .no
noncomputable def fBuild (V : Env) (tm : T AV) (t : TypeId) (parts : Array (Nat × Operand)) : FRes :=
  match V.E.zero t with
  | some z => (match V.E.und t with
    | some (.struct fs) => bif sizesOk V fs.toList then fAgg (fillA tm (fieldAt V fs) z.cells parts.toList) else .no
    | some (.array _ e) => (match V.E.size e with
      | some n => fAgg (fillA tm (fun i => some (i * n, n)) z.cells parts.toList)
      | none => .no)
    | _ => .no)
  | none => .no
noncomputable def fBuildSlice1 (tm : T AV) (M : Mem) (e : TypeId) (n : Nat) (z : List AV) (len : Nat) (parts : Array (Nat × Operand)) : FRes :=
  bif Nat.ble (len * n) 65536 && Nat.beq z.length n && !Nat.beq n 0 then (match fillA tm (fun i => some (i * n, n)) (repeatL len z) parts.toList with
    | some cs => (match rowOf e true cs with | some r => .row (.slice M.next 0 len len) r | none => .no)
    | none => .no) else .no
noncomputable def fBuildSlice (V : Env) (tm : T AV) (M : Mem) (t : TypeId) (len : Nat) (parts : Array (Nat × Operand)) : FRes :=
  match V.E.und t with
  | some (.slice e) => (match V.E.size e with
    | some n => (match V.E.zero e with
      | some z => fBuildSlice1 tm M e n z.cells len parts
      | none => .no)
    | none => .no)
  | _ => .no
noncomputable def loadA (V : Env) (M : Mem) (t : TypeId) (b i : Nat) : Option AV :=
  match V.E.isAgg t with
  | some true => (match V.E.size t with
    | some n => (match M.loads b i n with | some cs => some (.agg cs) | none => none)
    | none => none)
  | some false => M.load b i
  | none => none
noncomputable def fLoad (V : Env) (tm : T AV) (M : Mem) (t : TypeId) (a : Operand) : FRes :=
  match degO V M (evalA tm a) with
  | some (.ptr b i) => fV (loadA V M t b i)
  | _ => .no
noncomputable def fNilCheck (tm : T AV) (x : Operand) : FRes :=
  match evalA tm x with
  | some v => (match v with
    | .ptr _ _ => .val (v)
    | .gptr _ => .val (v)
    | .func (.func _) _ _ => .val (v)
    | .yield _ => .val (v)
    | .iface _ _ => .val (v)
    | _ => .no)
  | none => .no
noncomputable def fBin (V : Env) (tm : T AV) (op : BinOp) (t : TypeId) (x y : Operand) : FRes :=
  match evalA tm x with
  | some a => (match evalA tm y with
    | some b => fV (binA V.E V.P op t x y a b)
    | none => .no)
  | none => .no
noncomputable def fUn (tm : T AV) (op : UnOp) (x : Operand) : FRes :=
  match evalA tm x with
  | some a => fV (unA op a)
  | none => .no
noncomputable def fConv (V : Env) (tm : T AV) (M : Mem) (src dst : TypeId) (x : Operand) : FRes :=
  match evalA tm x with
  | some v => convA V M src dst v
  | none => .no
noncomputable def fIface (V : Env) (tm : T AV) (t : TypeId) (x : Operand) : FRes :=
  match V.E.und t with
  | some (.interface _) => .no
  | some _ => (match evalA tm x with
    | some v => .val (.iface t v)
    | none => .no)
  | none => .no
noncomputable def fFunc (tm : T AV) (f : Fn) (xs ys : Array Operand) : FRes :=
  match f with
  | .func f => (match evalsA tm xs.toList with
    | some xs => (match evalsA tm ys.toList with
      | some ys => .val (.func (.func f) xs ys)
      | none => .no)
    | none => .no)
  | _ => .no
noncomputable def fFieldAddr (V : Env) (tm : T AV) (M : Mem) (s : TypeId) (x : Operand) (f : Nat) : FRes :=
  match degO V M (evalA tm x) with
  | some (.ptr b i) => (match V.E.und s with
    | some (.struct fs) => (match fieldAt V fs f with
      | some (off, n) => bif Nat.beq n 0 then .no else .val (.ptr b (i + off))
      | none => .no)
    | _ => .no)
  | _ => .no
noncomputable def fField (V : Env) (tm : T AV) (t : TypeId) (x : Operand) (f : Nat) : FRes :=
  match evalA tm x with
  | some (.agg cs) => (match V.E.und t with
    | some (.struct fs) => (match fs[f]? with
      | some f => fV (partA V.E f.type cs f.offset)
      | none => .no)
    | _ => .no)
  | _ => .no
noncomputable def fIndexAddr1 (V : Env) (t : TypeId) (x : AV) (k : Nat) : FRes :=
  match V.E.und t with
  | some (.slice e) => (match x with
    | .slice b i len _ => (match V.E.size e with
      | some s => bif Nat.blt k len then .val (.ptr b (i + k * s)) else .no
      | none => .no)
    | _ => .no)
  | some (.array n e) => (match x with
    | .ptr b i => (match V.E.size e with
      | some s => bif Nat.blt k n then .val (.ptr b (i + k * s)) else .no
      | none => .no)
    | _ => .no)
  | _ => .no
noncomputable def natOf (v : Option AV) : Option Nat := match v with
  | some (.int _ (.ofNat k)) => some k
  | _ => none
noncomputable def fIndexAddr (V : Env) (tm : T AV) (M : Mem) (t : TypeId) (x ix : Operand) : FRes :=
  match degO V M (evalA tm x) with
  | some v => (match natOf (evalA tm ix) with
    | some k => fIndexAddr1 V t v k
    | none => .no)
  | none => .no
noncomputable def fIndex1 (V : Env) (t : TypeId) (x : AV) (k : Nat) : FRes :=
  match V.E.und t with
  | some (.array n e) => (match x with
    | .agg cs => (match V.E.size e with
      | some s => bif Nat.blt k n then fV (partA V.E e cs (k * s)) else .no
      | none => .no)
    | _ => .no)
  | some .string => (match x with
    | .str l n => bif Nat.blt k l then .val (.int .u8 (.ofNat (sIdx n k))) else .no
    | _ => .no)
  | _ => .no
noncomputable def fIndex (V : Env) (tm : T AV) (t : TypeId) (x ix : Operand) : FRes :=
  match evalA tm x with
  | some v => (match natOf (evalA tm ix) with
    | some k => fIndex1 V t v k
    | none => .no)
  | none => .no
noncomputable def fExtract (tm : T AV) (t : Operand) (ix : Nat) : FRes :=
  match evalA tm t with
  | some (.tuple vs) => fV vs[ix]?
  | _ => .no
noncomputable def one1 (tm : T AV) (args : List Operand) : Option AV := match args with
  | [x] => evalA tm x
  | _ => none
noncomputable def two2 (tm : T AV) (args : List Operand) : Option (AV × AV) := match args with
  | [x, y] => (match evalA tm x with
    | some a => (match evalA tm y with | some b => some (a, b) | none => none)
    | none => none)
  | _ => none
noncomputable def fBuiltin (V : Env) (tm : T AV) (b : Builtin) (args : Array Operand) (tys : Array TypeId) : FRes :=
  match b with
  | .len => (match one1 tm args.toList, tys[0]? with | some v, some t => fV (lenA V t v) | _, _ => .no)
  | .cap => (match one1 tm args.toList, tys[0]? with | some v, some t => fV (capA V t v) | _, _ => .no)
  | .max => (match two2 tm args.toList with | some (a, b) => fV (mm2 true a b) | none => .no)
  | .min => (match two2 tm args.toList with | some (a, b) => fV (mm2 false a b) | none => .no)
  | _ => .no
noncomputable def fCall (V : Env) (tm : T AV) (c : Call) : FRes := match c.callee with
  | .builtin b => fBuiltin V tm b c.args c.argTypes
  | _ => .no

/-- An operation that only computes, reads or makes a row of its own: its value, the row. -/
noncomputable def fA (V : Env) (tm : T AV) (M : Mem) (o : Op) : FRes :=
  match o with
  | .move x => fMove tm x
  | .assign x => fMove tm x
  | .pick c a b => fPick tm c a b
  | .alloc e => fAlloc V M e
  | .box e x => fBox tm M e x
  | .build t parts => fBuild V tm t parts
  | .buildSlice t len parts => fBuildSlice V tm M t len parts
  | .load t a => fLoad V tm M t a
  | .nilCheck x => fNilCheck tm x
  | .binOp op t x y _ => fBin V tm op t x y
  | .unOp op _ x => fUn tm op x
  | .convert src dst x => fConv V tm M src dst x
  | .makeInterface t x => fIface V tm t x
  | .makeFunc f xs ys => fFunc tm f xs ys
  | .slice t x lo hi mx => fV (sliceA V tm M t x lo hi mx)
  | .fieldAddr s x f => fFieldAddr V tm M s x f
  | .field t x f => fField V tm t x f
  | .indexAddr t x ix => fIndexAddr V tm M t x ix
  | .index t x ix => fIndex V tm t x ix
  | .extract t ix => fExtract tm t ix
  | .call c => fCall V tm c
  | _ => .no

noncomputable def isFloat : Op → Bool
  | .move _ | .pick .. | .alloc _ | .box .. | .build .. | .buildSlice .. | .load .. | .nilCheck _ | .binOp .. | .unOp .. | .convert .. | .makeInterface .. | .makeFunc ..
  | .slice .. | .fieldAddr .. | .field .. | .indexAddr .. | .index .. | .extract .. => true
  | .call c => (match c.callee with
    | .builtin b => (match b with
      | .len | .cap | .max | .min => true
      | _ => false)
    | _ => false)
  | _ => false

/-- One whose value hangs on what the memory holds. -/
noncomputable def isRead : Op → Bool
  | .load .. | .convert .. | .slice .. | .fieldAddr .. | .indexAddr .. => true
  | _ => false

-- a region that draws its order: its plan

/-- Number i: the numbers that come before it (as bits), how many anchored ones must have been. -/
noncomputable def infos : List Oper → List (Nat × Nat × Bool) → List (Nat × Nat × Bool)
  | [], acc => acc.reverse
  | o :: r, acc =>
    let at_ (i : Nat) : Nat × Nat × Bool := (acc[acc.length - 1 - i]?).getD (0, 0, true)
    let bits := o.after.toList.foldl (fun s e => if Region.binds .any e then s ||| 2 ^ e.on ||| (at_ e.on).1 else s) 0
    let lvl := o.after.toList.foldl (fun s e => if Region.binds .any e then max s ((at_ e.on).2.1 + (if (at_ e.on).2.2 then 0 else 1)) else s) 0
    infos r ((bits, lvl, isFloat o.op) :: acc)

noncomputable def planAt (ops : List Oper) (inf : List (Nat × Nat × Bool)) : (fuel lvl : Nat) → List (Oper × Nat × Bool × Nat)
  | 0, _ => []
  | k + 1, lvl =>
    let here := (ops.zip inf).zipIdx.filter fun (x, _) => Nat.beq x.2.2.1 lvl
    let fl := here.filter fun (x, _) => x.2.2.2
    let an := here.filter fun (x, _) => !x.2.2.2
    (fl ++ an).map (fun (x, i) => (x.1, i, x.2.2.2, x.2.1)) ++ planAt ops inf k (lvl + 1)

noncomputable def mkPlanGo (done : List (Oper × Nat × Bool × Nat)) : List (Oper × Nat × Bool × Nat) → List PStep
  | [] => []
  | (o, i, f, bits) :: r =>
    { op := o, float := f, re := if f then [] else done.filterMap fun (p, j, g, _) => if g && isRead p.op && !bits.testBit j then some p else none }
      :: mkPlanGo ((o, i, f, bits) :: done) r

noncomputable def mkPlan (ops : List Oper) : List PStep := mkPlanGo [] (planAt ops (infos ops []) (ops.length + 1) 0)


/-- The slots that an operation looks at. -/
noncomputable def looks (all : List Oper) (o : Oper) : List Tmp :=
  (o.op.operands.toList.filterMap fun x => match x with
    | .tmp t => some t
    | _ => none) ++
  (match o.guard with
  | some (g, _) => (match all[g]? with
    | some p => p.dst.toList
    | none => [])
  | none => [])

/-- x is a float one, y comes later in the plan; x need not have been carried out before y's turn (free): then each leaves the other's slots alone. -/
noncomputable def apartA (all : List Oper) (x y : Oper) : Bool :=
  (match y.dst with
  | some d => !(looks all x).contains d && x.dst != some d
  | none => true) &&
  (match x.dst with
  | some d => !(looks all y).contains d
  | none => true)

/-- y may read what x leaves, and write nothing that x looks at or writes. -/
noncomputable def behindA (all : List Oper) (x y : Oper) : Bool :=
  match y.dst with
  | some d => !(looks all x).contains d && x.dst != some d
  | none => true

/-- It leaves what it looks at alone. -/
noncomputable def selfOk (all : List Oper) (x : Oper) : Bool :=
  match x.dst with
  | some d => !(looks all x).contains d
  | none => true

noncomputable def pairsOk (all : List Oper) : List (Oper × Nat × Bool × Nat) → Bool
  | [] => true
  | (x, i, f, _) :: r => (!f || selfOk all x) && (!f || r.all fun (y, _, g, bits) => (bits.testBit i && (!g || behindA all x y)) || apartA all x y) && pairsOk all r

/-- From what has been listed on: each float one may come up; where an anchored one's turn is, nothing else may. -/
noncomputable def orderOk (n : Nat) (ops : List Oper) : List (Oper × Nat × Bool × Nat) → List Nat → Bool
  | [], done => (List.range n).all fun i => done.contains i
  | (o, i, f, bits) :: r, done =>
    !done.contains i && decide (i < n) && (o.after.toList.all fun e => !Region.binds .any e || (decide (e.on < i) && done.contains e.on)) &&
    (f || r.all fun (y, _, _, b) => b.testBit i && !Nat.beq b bits) && orderOk n ops r (i :: done)

/-- The numbers that a mode's edges ask for, as bits. -/
noncomputable def maskOf (md : Region.Mode) (o : Oper) : Nat := o.after.toList.foldl (fun s e => if Region.binds md e then s ||| 2 ^ e.on else s) 0

/-- Whoever has all that he asks for is taken; a round, rounds. -/
noncomputable def peel1 : List Nat → Nat → Nat → Nat
  | [], _, d => d
  | m :: r, i, d => peel1 r (i + 1) (bif Nat.beq (m &&& d) m then d ||| 2 ^ i else d)

noncomputable def peelN (ms : List Nat) : Nat → Nat → Nat
  | 0, d => d
  | k + 1, d => peelN ms k (peel1 ms 0 d)

/-- No circle among a mode's edges. -/
noncomputable def peelOk (md : Region.Mode) (ops : List Oper) : Bool :=
  let d := peelN (ops.map (maskOf md)) ops.length 0
  (List.range ops.length).all fun i => d.testBit i

noncomputable def planOk (ops : List Oper) : Bool :=
  let l := planAt ops (infos ops []) (ops.length + 1) 0
  (ops.all (fun o => o.after.toList.all (Region.binds .any)) || (peelOk .text ops && peelOk .gc ops)) && pairsOk ops l && orderOk ops.length ops l []

-- steps

noncomputable def wantedA1 (tm : T AV) (d : Option Tmp) (want : Bool) : Option Bool :=
  match d with
  | some d => (match tm.get d with
    | some (.bool b) => some (b == want)
    | some (.tuple []) => some false
    | _ => none)
  | none => none

noncomputable def wantedA (all : List Oper) (tm : T AV) (o : Oper) : Option Bool :=
  match o.guard with
  | none => some true
  | some (j, want) => match all[j]? with
    | some p => wantedA1 tm p.dst want
    | none => none

noncomputable def undefA : AV := .tuple []

/-- A slot written. -/
noncomputable def putT (nt : Nat) (tm : T AV) (d : Option Tmp) (v : AV) : Option (T AV) :=
  match d with
  | none => some tm
  | some d => bif Nat.blt d nt then tm.set d (some v) else none

noncomputable def recheck1 (V : Env) (tm : T AV) (M : Mem) (all : List Oper) (o : Oper) : Bool :=
  match wantedA all tm o with
  | some true => (match fA V tm M o.op with
    | .val v => (match o.dst with
      | some d => (match tm.get d with
        | some u => AV.same u v
        | none => false)
      | none => true)
    | _ => false)
  | some false => true
  | none => false

noncomputable def recheckA (V : Env) (tm : T AV) (M : Mem) (all : List Oper) : List Oper → Bool
  | [] => true
  | o :: r => bif recheck1 V tm M all o then recheckA V tm M all r else false

noncomputable def putFr (c : ACtx) (tm : Option (T AV)) (todo : List AItem) : Option AFrame :=
  match tm with
  | some tm => some ⟨c, tm, todo⟩
  | none => none

noncomputable def finPlan (V : Env) (c : ACtx) (tm : Option (T AV)) (M : Mem) (all : List Oper) (re : List Oper) (ss : List PStep) (k : List AItem) : Option AFrame :=
  match tm with
  | some tm => bif recheckA V tm M all re then some ⟨c, tm, .plan all ss :: k⟩ else none
  | none => none

/-- The frame behind its operation's end with a value. -/
noncomputable def finishA (V : Env) (M : Mem) (v : AV) : AFrame → Option AFrame
  | ⟨c, tm, todo⟩ => match todo with
    | .ops all (o :: rest) :: k => putFr c (putT c.nt tm o.dst v) (.ops all rest :: k)
    | .plan all (s :: ss) :: k => finPlan V c (putT c.nt tm s.op.dst v) M all s.re ss k
    | .inRangeFunc l :: k => some ⟨c, tm, .endRangeFunc l :: k⟩
    | _ => none

noncomputable def exitA (id : Nat) : List AItem → Option (List AItem)
  | .inBlock id' :: k => bif Nat.beq id' id then some k else exitA id k
  | _ :: k => exitA id k
  | [] => none

noncomputable def gotoA (l : Nat) : List AItem → Option (List AItem)
  | .inScope body :: k => (match findLabel body l with
    | some rest => some (.code rest :: .inScope body :: k)
    | none => gotoA l k)
  | _ :: k => gotoA l k
  | [] => none

/-- What an anchored operation comes to. -/
inductive ARes where
  | no
  | val (v : AV) (M : Mem)
  | enter (f : FuncId) (args : List AV) (M : Mem)
  | round (b : Nat) (args : List AV) (M : Mem)
  | defer (d : ADef)
  | recover
  | panic (v : AV)

noncomputable def rVal (x : Option (AV × Mem)) : ARes := match x with
  | some (v, M) => .val v M
  | none => .no
noncomputable def rMem (v : AV) (x : Option Mem) : ARes := match x with
  | some M => .val v M
  | none => .no

noncomputable def needCells (V : Env) (size : Nat) (x : AV) (M : Mem) : Option (Nat × List AV) :=
  match x with
  | .slice b i len _ => (match M.loads b i (len * size) with | some cs => some (len, cs) | none => none)
  | .snil => some (0, [])
  | .str l n => bif Nat.beq size 1 then some (l, unpackA l n) else none
  | _ => none

noncomputable def pushSl (M : Mem) (ub : Bool) (r : Option Row) (n : Nat) : Option (AV × Mem) :=
  match r with
  | some r => (match M.push (.row { r with ub }) with
    | some M' => some (.slice M.next 0 n (unk + n), M')
    | none => none)
  | none => none

/-- append in a new row. -/
noncomputable def appendNew (M : Mem) (ub : Bool) (e : TypeId) (bytes need : Nat) (old : Option (List AV)) (new : List AV) : Option (AV × Mem) :=
  bif Nat.blt (2 * need * bytes) 140737488355328 then (match old with
    | some old => pushSl M ub (rowOf e false (old ++ new)) need
    | none => none) else none

/-- append where the room's end is not known: in place or anew. The old row goes stale: only its last slice may be used further. -/
noncomputable def appendLoose1 (M : Mem) (r : Row) (b need : Nat) (new : List AV) (cells : T AV) (cls ep : Nat) : Option (AV × Mem) :=
  match M.heap.set b (some (.row { r with cls, ep })) with
  | some heap => (match M.eps.set cls (some (ep + 1)) with
    | some eps => (match Mem.push ⟨M.next, heap, eps⟩ (.row { cells, len := r.len + new.length, cls, ep := ep + 1, fr := r.fr, elem := r.elem, whole := false, sh := r.sh, ub := r.ub }) with
      | some M' => some (.slice M.next 0 need (unk + need), M')
      | none => none)
    | none => none)
  | none => none

noncomputable def appendLoose (G : Nat) (M : Mem) (e : TypeId) (size bytes b i len cap n : Nat) (new : List AV) : Option (AV × Mem) :=
  bif Nat.beq n 0 then some (.slice b i len cap, M)
  else bif Nat.blt (2 * (len + n) * bytes) 140737488355328 && Nat.beq i 0 then (match M.row b with
    | some r => bif Nat.beq r.elem e && Nat.beq r.len (len * size) && Nat.ble r.fr r.len && new.all AV.one && !Nat.blt b G then (match setsFrom r.cells r.len new with
        | some cells => bif Nat.beq r.cls 0 then appendLoose1 M r b (len + n) new cells M.next 0 else appendLoose1 M r b (len + n) new cells r.cls r.ep
        | none => none) else none
    | none => none) else none

noncomputable def withSl (s : AV) (x : Option Mem) : Option (AV × Mem) := match x with
  | some M => some (s, M)
  | none => none

/-- Is the zero of a type the byte 0? -/
noncomputable def ubOf (V : Env) (e : TypeId) : Bool := match V.E.zero e with
  | some (.int .u8 0) => true
  | _ => false

/-- append(s, x): in the room that is known; at the end of what may have room; anew. -/
noncomputable def appendA1 (V : Env) (M : Mem) (e : TypeId) (size bytes : Nat) (s : AV) (n : Nat) (new : List AV) : Option (AV × Mem) :=
  match s with
  | .snil => bif Nat.beq n 0 then some (.snil, M) else appendNew M (ubOf V e) e bytes n (some []) new
  | .slice b i len cap =>
    bif Nat.blt cap unk then
      (bif Nat.ble (len + n) cap then withSl (.slice b i (len + n) cap) (M.stores V.G b (i + len * size) new)
      else appendNew M (ubOf V e) e bytes (len + n) (M.loads b i (len * size)) new)
    else bif Nat.beq len 0 && Nat.beq cap unk then (bif Nat.beq n 0 then some (.slice b i len cap, M) else none)
    else bif Nat.ble (unk + (len + n)) cap then withSl (.slice b i (len + n) cap) (M.stores V.G b (i + len * size) new)
    else appendLoose V.G M e size bytes b i len cap n new
  | _ => none

noncomputable def appendA (V : Env) (M : Mem) (e : TypeId) (s x : AV) : Option (AV × Mem) :=
  match V.E.tys.get e, V.E.zero e with
  | some ti, some z => bif Nat.beq ti.size 0 || Nat.beq ti.bytes 0 || !Nat.beq z.cells.length ti.size then none else (match needCells V ti.size x M with
    | some (n, new) => appendA1 V M e ti.size ti.bytes s n new
    | none => none)
  | _, _ => none

noncomputable def copyA (V : Env) (M : Mem) (e : TypeId) (d x : AV) : Option (AV × Mem) :=
  match V.E.size e with
  | some size => (match d with
    | .slice b i len _ => (match x with
      | .slice b' i' len' _ => (match M.loads b' i' (Nat.min len' len * size) with
        | some cs => withSl (.int .i64 (.ofNat (Nat.min len' len))) (M.stores V.G b i cs)
        | none => none)
      | .snil => some (.int .i64 (.ofNat 0), M)
      | .str l m => bif Nat.beq size 1 then withSl (.int .i64 (.ofNat (Nat.min l len))) (M.stores V.G b i (unpackA (Nat.min l len) m)) else none
      | _ => none)
    | .snil => (match x with
      | .slice .. | .snil | .str .. => some (.int .i64 (.ofNat 0), M)
      | _ => none)
    | _ => none)
  | none => none

/-- A key's type: one whose values are compared at once. -/
noncomputable def plainD (d : TypeDesc) : Bool :=
  match d with
  | .int _ => true
  | .string => true
  | .bool => true
  | _ => false

noncomputable def sameKey (d : TypeDesc) (k k' : AV) : Option Bool :=
  match d with
  | .int _ => (match k, k' with
    | .int a m, .int b n => if a = b then some (decide (m = n)) else none
    | _, _ => none)
  | .string => (match k, k' with
    | .str l m, .str l' n => some (bif Nat.beq l l' then Nat.beq m n else false)
    | _, _ => none)
  | .bool => (match k, k' with
    | .bool a, .bool b => some (a == b)
    | _, _ => none)
  | _ => none

noncomputable def keyIdx (d : TypeDesc) (k : AV) : List (AV × AV × Nat) → Nat → Option (Option (Nat × AV))
  | [], _ => some none
  | (k', v, _) :: r, i => match sameKey d k k' with
    | some true => some (some (i, v))
    | some false => keyIdx d k r (i + 1)
    | none => none

noncomputable def modifyL (i : Nat) (f : AV × AV × Nat → AV × AV × Nat) : List (AV × AV × Nat) → List (AV × AV × Nat)
  | [] => []
  | x :: r => match i with
    | 0 => f x :: r
    | i + 1 => x :: modifyL i f r

/-- A block of the call's own in another state. -/
noncomputable def putG (V : Env) (M : Mem) (b : Nat) (o : Blk) : Option Mem := bif Nat.blt b V.G then none else M.put b o

noncomputable def mapSet1 (V : Env) (M : Mem) (b : Nat) (k v : AV) (es : List (AV × AV × Nat)) (clock : Nat) (r : Option (Option (Nat × AV))) : Option Mem :=
  match r with
  | some (some (i, _)) => putG V M b (.map (modifyL i (fun e => (k, v, e.2.2)) es) clock)
  | some none => putG V M b (.map (es ++ [(k, v, clock)]) (clock + 1))
  | none => none

noncomputable def keyD (V : Env) (kt : TypeId) : Option TypeDesc :=
  match V.E.und kt with
  | some d => bif plainD d then some d else none
  | none => none

noncomputable def mapSetA (V : Env) (M : Mem) (t : TypeId) (m k v : AV) : Option Mem :=
  match m with
  | .map b => (match V.E.und t with
    | some (.map kt _) => (match keyD V kt with
      | some d => (match M.heap.get b with
        | some (.map es clock) => mapSet1 V M b k v es clock (keyIdx d k es 0)
        | _ => none)
      | none => none)
    | _ => none)
  | _ => none

noncomputable def sumCall (V : Env) (M : Mem) (f : FuncId) (args : List AV) : ARes :=
  match V.sum.get f with
  | some g => (match g args M with
    | some (v, M') => .val v M'
    | none => .enter f args M)
  | none => .enter f args M

noncomputable def fnCall (V : Env) (M : Mem) (f : FuncId) (args : List AV) : ARes :=
  match V.ext.get f with
  | some g => rVal (g args M)
  | none => sumCall V M f args

noncomputable def callA (V : Env) (M : Mem) (fv : AV) (args : List AV) : ARes :=
  match fv with
  | .func (.func f) xs ys => fnCall V M f (xs ++ args ++ ys)
  | .yield b => .round b args M
  | _ => .no

/-- An operation that only computes, reads or makes a row, carried out at once. -/
noncomputable def viaF (M : Mem) (r : FRes) : ARes :=
  match r with
  | .val v => .val v M
  | .row v r => rMem v (M.push (.row r))
  | .no => .no

noncomputable def oStore (V : Env) (tm : T AV) (M : Mem) (t : TypeId) (a x : Operand) : ARes :=
  match degO V M (evalA tm a) with
  | some (.ptr b i) => (match evalA tm x with
    | some v => (match V.E.size t with
      | some n => bif Nat.beq v.cells.length n then rMem undefA (M.stores V.G b i v.cells) else .no
      | none => .no)
    | none => .no)
  | _ => .no
noncomputable def oMakeSlice1 (M : Mem) (e : TypeId) (ti : TypeInfo) (z : List AV) (l c : Nat) : ARes :=
  bif Nat.ble l c && Nat.blt (c * ti.size) 1048576 && Nat.blt (c * ti.bytes) 1073741824 && Nat.beq z.length ti.size && !Nat.beq ti.size 0 then (match rowOf e true (repeatL c z) with
    | some r => rMem (.slice M.next 0 l c) (M.push (.row r))
    | none => .no) else .no
noncomputable def oMakeSlice (V : Env) (tm : T AV) (M : Mem) (t : TypeId) (l c : Operand) : ARes :=
  match V.E.und t with
  | some (.slice e) => (match V.E.tys.get e, V.E.zero e with
    | some ti, some z => (match natOf (evalA tm l), natOf (evalA tm c) with
      | some l, some c => oMakeSlice1 M e ti z.cells l c
      | _, _ => .no)
    | _, _ => .no)
  | _ => .no
noncomputable def oMakeMap (V : Env) (M : Mem) (t : TypeId) (r : Option Operand) : ARes :=
  match r with
  | none => rMem (.map M.next) (M.push (.map [] 0))
  | some _ => .no
noncomputable def oMapUpdate (V : Env) (tm : T AV) (M : Mem) (t : TypeId) (m k x : Operand) : ARes :=
  match evalA tm m with
  | some m => (match two2 tm [k, x] with
    | some (k, v) => rMem undefA (mapSetA V M t m k v)
    | none => .no)
  | none => .no
noncomputable def lookMap (d : TypeDesc) (M : Mem) (m k : AV) : Option (Option (Nat × AV)) :=
  match m with
  | .mnil => some none
  | .map b => (match M.heap.get b with
    | some (.map es _) => keyIdx d k es 0
    | _ => none)
  | _ => none
noncomputable def oLookup1 (M : Mem) (z : AV) (ok : Bool) (r : Option (Option (Nat × AV))) : ARes :=
  match r with
  | some (some (_, v)) => .val (bif ok then .tuple [v, .bool true] else v) M
  | some none => .val (bif ok then .tuple [z, .bool false] else z) M
  | none => .no
noncomputable def oLookup (V : Env) (tm : T AV) (M : Mem) (t : TypeId) (x k : Operand) (ok : Bool) : ARes :=
  match V.E.und t with
  | some (.map kt et) => (match two2 tm [x, k] with
    | some (m, k) => (match keyD V kt with
      | some d => (match V.E.zero et with
        | some z => oLookup1 M z ok (lookMap d M m k)
        | none => .no)
      | none => .no)
    | none => .no)
  | _ => .no
noncomputable def oAssertNot (V : Env) (M : Mem) (t : TypeId) (ok : Bool) : ARes :=
  bif ok then (match V.E.zero t with | some z => .val (.tuple [z, .bool false]) M | none => .no) else .no
noncomputable def oAssert (V : Env) (tm : T AV) (M : Mem) (x : Operand) (t : TypeId) (ok : Bool) : ARes :=
  match V.E.und t with
  | some (.interface _) => .no
  | some _ => (match evalA tm x with
    | some .inil => oAssertNot V M t ok
    | some (.iface u v) => bif Nat.beq u t then .val (bif ok then .tuple [v, .bool true] else v) M else oAssertNot V M t ok
    | _ => .no)
  | none => .no
/-- append(s, make([]T, n)...) -/
noncomputable def appendZ (V : Env) (M : Mem) (e : TypeId) (s : AV) (n : Option Nat) : Option (AV × Mem) :=
  match V.E.tys.get e, V.E.zero e, n with
  | some ti, some z, some n => bif Nat.beq ti.size 0 || Nat.beq ti.bytes 0 || !Nat.beq z.cells.length ti.size || !Nat.blt (n * ti.bytes) 65536 then none
    else appendA1 V M e ti.size ti.bytes s n (repeatL n z.cells)
  | _, _, _ => none
noncomputable def oAppend (V : Env) (tm : T AV) (M : Mem) (args : List Operand) (tys : Array TypeId) : ARes :=
  match two2 tm args with
  | some (s, x) => (match tys[0]?, tys[1]? with
    | some t, some t' => (match V.E.und t, V.E.und t' with
      | some (.slice e), some u => (match u with
        | .int _ => .no -- later: rVal (appendZ V M e s (natOf (some x)))
        | _ => rVal (appendA V M e s x))
      | _, _ => .no)
    | _, _ => .no)
  | none => .no
noncomputable def oCopy (V : Env) (tm : T AV) (M : Mem) (args : List Operand) (tys : Array TypeId) : ARes :=
  match two2 tm args with
  | some (d, x) => (match tys[0]? with
    | some t => (match V.E.und t with
      | some (.slice e) => rVal (copyA V M e d x)
      | _ => .no)
    | none => .no)
  | none => .no
/-- strings of bytes: the bytes, which are frozen. -/
noncomputable def oUnsafeString2 (M : Mem) (r : Row) (b i n : Nat) : ARes :=
  match getsFrom r.cells i n with
  | some cs => (match packA cs with
    | some m => rMem (.str n m) (M.put b (.row { r with fr := Nat.max r.fr (i + n) }))
    | none => .no)
  | none => .no
noncomputable def oUnsafeString1 (V : Env) (M : Mem) (u : TypeId) (b i n : Nat) : ARes :=
  match M.row b, V.E.size u with
  | some r, some 1 => bif Nat.beq r.elem u && Nat.ble (i + n) r.len && !Nat.blt b V.G && !r.sh && Nat.blt n 9223372036854775808 then oUnsafeString2 M r b i n else .no
  | _, _ => .no
noncomputable def oUnsafeString (V : Env) (tm : T AV) (M : Mem) (args : List Operand) (tys : Array TypeId) : ARes :=
  match two2 tm args with
  | some (p, n) => (match natOf (some n) with
    | some n => (match p with
      | .pnil => bif Nat.beq n 0 && tys[0]?.isSome then .val (.str 0 0) M else .no
      | .ptr b i => bif Nat.beq n 0 && tys[0]?.isSome then .val (.str 0 0) M else (match tys[0]? with
        | some t => (match V.E.und t with
          | some (.pointer u) => oUnsafeString1 V M u b i n
          | _ => .no)
        | none => .no)
      | _ => .no)
    | none => .no)
  | none => .no
noncomputable def oSliceData (tm : T AV) (M : Mem) (args : List Operand) : ARes :=
  match one1 tm args with
  | some .snil => .val .pnil M
  | some (.slice b i _ c) => bif (bif Nat.blt c unk then Nat.beq c 0 else Nat.beq c unk) then .no else .val (.ptr b i) M
  | _ => .no
noncomputable def oLenMap (tm : T AV) (M : Mem) (args : List Operand) : ARes :=
  match one1 tm args with
  | some .mnil => .val (.int .i64 (.ofNat 0)) M
  | some (.map b) => (match M.heap.get b with
    | some (.map es _) => .val (.int .i64 (.ofNat es.length)) M
    | _ => .no)
  | _ => .no
noncomputable def oLen (V : Env) (tm : T AV) (M : Mem) (args : Array Operand) (tys : Array TypeId) : ARes :=
  match tys[0]? with
  | some t => (match V.E.und t with
    | some (.map _ _) => oLenMap tm M args.toList
    | _ => viaF M (fBuiltin V tm .len args tys))
  | none => .no
noncomputable def oBuiltin (V : Env) (tm : T AV) (M : Mem) (b : Builtin) (args : Array Operand) (tys : Array TypeId) : ARes :=
  match b with
  | .append => oAppend V tm M args.toList tys
  | .copy => oCopy V tm M args.toList tys
  | .unsafeString => oUnsafeString V tm M args.toList tys
  | .unsafeSliceData => oSliceData tm M args.toList
  -- later: recover
  | .len => oLen V tm M args tys
  | .cap | .max | .min => viaF M (fBuiltin V tm b args tys)
  | _ => .no

/-- A method of a value in an interface, by its row, where the receiver is that value. -/
noncomputable def oInvoke (V : Env) (tm : T AV) (M : Mem) (r : Operand) (name : String) (args : List Operand) : ARes :=
  match evalA tm r with
  | some (.iface t v) => (match V.E.tys.get t, V.E.und t with
    | some ti, some d => (match d with
      | .pointer _ => .no
      | _ => (match ti.methods.find? (·.name == name) with
        | some m => (match m.func, m.path.toList with
          | some (f, false), [] => (match evalsA tm args with
            | some args => fnCall V M f (v :: args)
            | none => .no)
          | _, _ => .no)
        | none => .no))
    | _, _ => .no)
  | _ => .no

noncomputable def oCall (V : Env) (tm : T AV) (M : Mem) (c : Call) : ARes :=
  match c.callee with
  | .builtin b => oBuiltin V tm M b c.args c.argTypes
  | .value f => (match evalA tm f with
    | some fv => (match evalsA tm c.args.toList with
      | some args => callA V M fv args
      | none => .no)
    | none => .no)
  | .invoke _ _ => .no -- later: oInvoke V tm M r name c.args.toList
noncomputable def oDefer (tm : T AV) (c : Call) : ARes :=
  match c.callee with
  | .value f => (match evalA tm f with
    | some (.func (.func f) xs ys) => (match evalsA tm c.args.toList with
      | some args => .defer (.fn f (xs ++ args ++ ys))
      | none => .no)
    | _ => .no)
  | _ => .no
noncomputable def oPanic (tm : T AV) (x : Operand) : ARes :=
  match evalA tm x with
  | some (.iface t v) => .panic (.iface t v)
  | _ => .no

/-- []byte(s) -/
noncomputable def toBytes (V : Env) (M : Mem) (e : TypeId) (l n : Nat) : ARes :=
  match V.E.und e with
  | some (.int .u8) => (match V.E.size e with
    | some 1 => (match rowOf e false (unpackA l n) with
      | some r => rMem (.slice M.next 0 l (unk + l)) (M.push (.row { r with sh := true }))
      | none => .no)
    | _ => .no)
  | _ => .no
noncomputable def oConv (V : Env) (tm : T AV) (M : Mem) (src dst : TypeId) (x : Operand) : ARes :=
  match evalA tm x with
  | some (.str l n) => (match V.E.und dst with
    | some (.slice e) => (match V.E.und src with
      | some .string => .no -- later: toBytes V M e l n
      | _ => .no)
    | _ => viaF M (fConv V tm M src dst x))
  | _ => viaF M (fConv V tm M src dst x)

noncomputable def opA (V : Env) (tm : T AV) (M : Mem) (o : Op) : ARes :=
  match o with
  | .store t a x => oStore V tm M t a x
  | .makeSlice t l c => oMakeSlice V tm M t l c
  | .makeMap t r => oMakeMap V M t r
  | .mapUpdate t m k x => oMapUpdate V tm M t m k x
  | .insert t m k x => oMapUpdate V tm M t m k x
  | .lookup t x k ok => oLookup V tm M t x k ok
  | .typeAssert x _ t ok => oAssert V tm M x t ok
  | .call c => oCall V tm M c
  -- later: defer (oDefer tm c), panic (oPanic tm x)
  | .move x => viaF M (fMove tm x)
  | .assign x => viaF M (fMove tm x)
  | .pick c a b => viaF M (fPick tm c a b)
  | .alloc e => viaF M (fAlloc V M e)
  | .box e x => viaF M (fBox tm M e x)
  | .build t parts => viaF M (fBuild V tm t parts)
  | .buildSlice t len parts => viaF M (fBuildSlice V tm M t len parts)
  | .load t a => viaF M (fLoad V tm M t a)
  | .nilCheck x => viaF M (fNilCheck tm x)
  | .binOp op t x y _ => viaF M (fBin V tm op t x y)
  | .unOp op _ x => viaF M (fUn tm op x)
  | .convert src dst x => oConv V tm M src dst x
  | .makeInterface t x => viaF M (fIface V tm t x)
  | .makeFunc f xs ys => viaF M (fFunc tm f xs ys)
  | .slice t x lo hi mx => viaF M (fV (sliceA V tm M t x lo hi mx))
  | .fieldAddr s x f => viaF M (fFieldAddr V tm M s x f)
  | .field t x f => viaF M (fField V tm t x f)
  | .indexAddr t x ix => viaF M (fIndexAddr V tm M t x ix)
  | .index t x ix => viaF M (fIndex V tm t x ix)
  | .extract t ix => viaF M (fExtract tm t ix)
  | _ => .no

noncomputable def enterB (f : FuncId) (nt : Nat) (c : Code) (kind : CallKind) (args : List AV) : Option AFrame :=
  match setsFrom .nil 0 args with
  | some tmps => some ⟨⟨f, Nat.max nt args.length, [], .run, kind, none⟩, tmps, [.code c]⟩
  | none => none

noncomputable def enterA (V : Env) (f : FuncId) (args : List AV) (kind : CallKind) : Option AFrame :=
  match V.E.fns.get f with
  | some fn => (match fn.body with
    | some c => enterB f fn.ntmps c kind args
    | none => none)
  | none => none

noncomputable def recoverA (c : ACtx) (stk : List AFrame) : Option (AV × List AFrame) :=
  match c.kind with
  | .deferred => (match stk with
    | ⟨d, tm, todo⟩ :: rest => (match d.mode with
      | .pan (p :: older) => bif p.recovered then none else some (p.v, ⟨{ d with mode := .pan (⟨p.v, true⟩ :: older) }, tm, todo⟩ :: rest)
      | _ => none)
    | [] => none)
  | _ => none

noncomputable def mkSt (fr : Option AFrame) (stk : List AFrame) (M : Mem) : Option St :=
  match fr with
  | some fr => some ⟨fr, stk, M⟩
  | none => none

noncomputable def setPairs (nt : Nat) : List (Tmp × AV) → T AV → Option (T AV)
  | [], t => some t
  | (i, v) :: r, t => bif Nat.blt i nt then (match t.set i (some v) with
    | some t => setPairs nt r t
    | none => none) else setPairs nt r t

noncomputable def roundA (l : ALoop) (b : Nat) (args : List AV) (fr : AFrame) (stk : List AFrame) (M : Mem) : Option St :=
  bif Nat.beq args.length l.params.size then (match setPairs l.nt (l.params.toList.zip args) l.tmps with
    | some tmps => some ⟨⟨⟨l.fn, l.nt, [], .run, .normal, some b⟩, tmps, [.code l.assign, .beginRound, .code l.body]⟩, fr :: stk, M⟩
    | none => none) else none

noncomputable def askRecover (V : Env) (c : ACtx) (tm : T AV) (todo : List AItem) (stk : List AFrame) (M : Mem) : Option St :=
  match c.round with
  | some _ => none
  | none => match recoverA c stk with
    | some (v, stk) => mkSt (finishA V M v ⟨c, tm, todo⟩) stk M
    | none => (match c.kind with
      | .normal => mkSt (finishA V M .inil ⟨c, tm, todo⟩) stk M
      | .deferred => mkSt (finishA V M .inil ⟨c, tm, todo⟩) stk M
      | _ => none)

/-- The next state behind an operation's answer. (Later: defer, recover, panic.) -/
noncomputable def afterA (V : Env) (c : ACtx) (tm : T AV) (todo : List AItem) (stk : List AFrame) (M : Mem) (r : ARes) : Option St :=
  match r with
  | .enter f args M' => mkSt (enterA V f args .normal) (⟨c, tm, todo⟩ :: stk) M'
  | .round b args M' => (match M'.heap.get b with
    | some (.loop l) => roundA l b args ⟨c, tm, todo⟩ stk M'
    | _ => none)
  | _ => none

noncomputable def goA (c : ACtx) (tm : T AV) (stk : List AFrame) (M : Mem) (todo : List AItem) : Option St := some ⟨⟨c, tm, todo⟩, stk, M⟩

/-- The caller's mode behind a deferred call that recovered. -/
noncomputable def recovered (c : ACtx) : ACtx := match c.mode with
  | .pan (p :: _) => bif p.recovered then { c with mode := .ret } else c
  | _ => c

noncomputable def doRetA (V : Env) (kind : CallKind) (stk : List AFrame) (M : Mem) (v : AV) : Option St :=
  match stk with
  | [] => none
  | d :: rest => (match kind with
    | .normal => mkSt (finishA V M v d) rest M
    | .deferred => (match d with | ⟨c, tm, todo⟩ => some ⟨⟨recovered c, tm, todo⟩, rest, M⟩)
    | _ => none)

noncomputable def endRoundA (V : Env) (c : ACtx) (l : Nat) (stk : List AFrame) (M : Mem) (jump : Option Code) : Option St :=
  match M.heap.get l with
  | some (.loop r) => (match putG V M l (.loop { r with state := (match jump with | none => .ready | some _ => .done), pending := jump }) with
    | some M' => doRetA V c.kind stk M' (.bool jump.isNone)
    | none => none)
  | _ => none

noncomputable def leaveA (V : Env) (c : ACtx) (tm : T AV) (todo : List AItem) (stk : List AFrame) (M : Mem) (jump : Option Code) : Option St :=
  match c.round with
  | none => (match jump with
    | none => some ⟨⟨{ c with mode := .ret }, tm, todo⟩, stk, M⟩
    | some .ret => some ⟨⟨{ c with mode := .ret }, tm, todo⟩, stk, M⟩
    | _ => none)
  | some l => endRoundA V c l stk M jump

noncomputable def result1 (V : Env) (tm : T AV) (M : Mem) (r : ResultVar) : Option AV :=
  match r with
  | .tmp t => tm.get t
  | .cell a t => (match tm.get a with
    | some (.ptr b i) => loadA V M t b i
    | _ => none)

noncomputable def resultsA (V : Env) (tm : T AV) (M : Mem) : List ResultVar → Option (List AV)
  | [] => some []
  | r :: l => match result1 V tm M r with
    | some v => (match resultsA V tm M l with | some vs => some (v :: vs) | none => none)
    | none => none

noncomputable def resultA (V : Env) (fn : FuncId) (tm : T AV) (M : Mem) : Option AV :=
  match V.E.fns.get fn with
  | some fn => (match resultsA V tm M fn.results.toList with
    | some [v] => some v
    | some vs => some (.tuple vs)
    | none => none)
  | none => none

noncomputable def rangeFuncB (V : Env) (c : ACtx) (tm : T AV) (stk : List AFrame) (M : Mem) (f : Operand) (params : Array Tmp) (assign body : Code) (k : List AItem) (defers : Nat) (mark : List ADef) : Option St :=
  match M.push (.loop { state := .ready, pending := none, fn := c.fn, tmps := tm, nt := c.nt, params, assign, body, defers }) with
  | some M' => (match evalA tm f with
    | some fv => (match callA V M' fv [.yield M.next] with
      | .enter f args M'' => mkSt (enterA V f args .normal) (⟨{ c with defers := mark ++ c.defers }, tm, .inRangeFunc M.next :: k⟩ :: stk) M''
      | _ => none)
    | none => none)
  | none => none

noncomputable def rangeFuncA (V : Env) (c : ACtx) (tm : T AV) (stk : List AFrame) (M : Mem) (f : Operand) (params : Array Tmp) (assign body : Code) (k : List AItem) : Option St :=
  match c.round with
  | none => (match M.push (.deferred true) with
    | some M' => rangeFuncB V c tm stk M' f params assign body k M.next [ADef.collected M.next]
    | none => none)
  | some l => (match M.heap.get l with
    | some (.loop r) => rangeFuncB V c tm stk M f params assign body k r.defers []
    | _ => none)

noncomputable def exitOr (V : Env) (c : ACtx) (tm : T AV) (todo : List AItem) (stk : List AFrame) (M : Mem) (k : Option (List AItem)) (j : Code) : Option St :=
  match k with
  | some k => goA c tm stk M k
  | none => leaveA V c tm todo stk M (some j)

/-- A region in the text's order, from an operation on, up to its end or a call. -/
noncomputable def opsA (V : Env) (c : ACtx) (stk : List AFrame) (all : List Oper) (k : List AItem) : List Oper → T AV → Mem → Option St
  | [], tm, M => goA c tm stk M k
  | o :: rest, tm, M => match wantedA all tm o with
    | some true => (match opA V tm M o.op with
      | .val v M' => (match putT c.nt tm o.dst v with
        | some tm' => opsA V c stk all k rest tm' M'
        | none => none)
      | r => afterA V c tm (.ops all (o :: rest) :: k) stk M r)
    | some false => (match putT c.nt tm o.dst undefA with
      | some tm' => opsA V c stk all k rest tm' M
      | none => none)
    | none => none

/-- A drawn region by its plan, likewise. -/
noncomputable def planA (V : Env) (c : ACtx) (stk : List AFrame) (all : List Oper) (k : List AItem) : List PStep → T AV → Mem → Option St
  | [], tm, M => goA c tm stk M k
  | s :: ss, tm, M => match s.float with
    | true => (match wantedA all tm s.op with
      | some true => (match viaF M (fA V tm M s.op.op) with
        | .val v M' => (match putT c.nt tm s.op.dst v with
          | some tm' => planA V c stk all k ss tm' M'
          | none => none)
        | _ => none)
      | some false => (match putT c.nt tm s.op.dst undefA with
        | some tm' => planA V c stk all k ss tm' M
        | none => none)
      | none => none)
    | false => (match wantedA all tm s.op with
      | some true => (match opA V tm M s.op.op with
        | .val v M' => (match putT c.nt tm s.op.dst v with
          | some tm' => (match recheckA V tm' M' all s.re with
            | true => planA V c stk all k ss tm' M'
            | false => none)
          | none => none)
        | r => afterA V c tm (.plan all (s :: ss) :: k) stk M r)
      | some false => (match putT c.nt tm s.op.dst undefA with
        | some tm' => planA V c stk all k ss tm' M
        | none => none)
      | none => none)

noncomputable def endRangeA (V : Env) (c : ACtx) (tm : T AV) (stk : List AFrame) (M : Mem) (l : Nat) (k : List AItem) : Option St :=
  match M.heap.get l with
  | some (.loop r) => bif r.state == .busy then none else (match putG V M l (.loop { r with state := .exhausted }) with
    | some M' => goA c tm stk M' (match r.pending with | some x => .code x :: k | none => k)
    | none => none)
  | _ => none

noncomputable def beginA (V : Env) (c : ACtx) (tm : T AV) (stk : List AFrame) (M : Mem) (k : List AItem) : Option St :=
  match c.round with
  | some l => (match M.heap.get l with
    | some (.loop r) => bif r.state == .ready then (match putG V M l (.loop { r with state := .busy }) with
      | some M' => goA c tm stk M' k
      | none => none) else none
    | _ => none)
  | none => none

noncomputable def regionA (V : Env) (c : ACtx) (tm : T AV) (stk : List AFrame) (M : Mem) (ops : List Oper) (draw : Bool) (k : List AItem) : Option St :=
  match draw with
  | true => bif planOk ops then planA V c stk ops k (mkPlan ops) tm M else none
  | false => opsA V c stk ops k ops tm M

/-- A piece of code, into its first part. -/
noncomputable def codeA (V : Env) (c : ACtx) (tm : T AV) (stk : List AFrame) (M : Mem) (x : Code) (k : List AItem) : Option St :=
  Code.rec (motive := fun _ => List AItem → Option St)
    (fun k => goA c tm stk M k)
    (fun _ ops draw k => regionA V c tm stk M ops.toList draw k)
    (fun _ b ia _ k => ia (.code b :: k))
    (fun o _ _ ix iy k => match evalA tm o with
      | some (.bool t) => (match t with | true => ix k | false => iy k)
      | _ => none)
    (fun id _ ib k => ib (.inBlock id :: k))
    (fun body ib k => ib (.inLoop body :: k))
    (fun f params assign body _ _ k => rangeFuncA V c tm stk M f params assign body k)
    (fun id k => exitOr V c tm (.code (.exit id) :: k) stk M (exitA id k) (.exit id))
    (fun body ib k => ib (.inScope body :: k))
    (fun _ k => goA c tm stk M k)
    (fun l k => exitOr V c tm (.code (.goto l) :: k) stk M (gotoA l k) (.goto l))
    (fun k => leaveA V c tm (.code .ret :: k) stk M (some .ret))
    (fun _ _ => none)
    x k

noncomputable def runA1 (V : Env) (c : ACtx) (tm : T AV) (stk : List AFrame) (M : Mem) (todo : List AItem) : Option St :=
  match todo with
  | [] => leaveA V c tm [] stk M none
  | i :: k => match i with
    | .code x => codeA V c tm stk M x k
    | .inBlock _ => goA c tm stk M k
    | .inScope _ => goA c tm stk M k
    | .inLoop body => codeA V c tm stk M body (.inLoop body :: k)
    | .ops all l => opsA V c stk all k l tm M
    | .plan all l => planA V c stk all k l tm M
    | .inRangeFunc _ => none
    | .endRangeFunc l => endRangeA V c tm stk M l k
    | .beginRound => beginA V c tm stk M k

noncomputable def takeA (V : Env) (c : ACtx) (tm : T AV) (todo : List AItem) (stk : List AFrame) (M : Mem) (b : Nat) (ds : List ADef) : Option St :=
  match M.heap.get b with
  | some (.deferred true) => (match putG V M b (.deferred false) with
    | some M' => some ⟨⟨{ c with defers := ds }, tm, todo⟩, stk, M'⟩
    | none => none)
  | _ => none

noncomputable def deferredA (V : Env) (c : ACtx) (tm : T AV) (todo : List AItem) (stk : List AFrame) (M : Mem) (f : FuncId) (args : List AV) (ds : List ADef) : Option St :=
  match V.ext.get f with
  | none => mkSt (enterA V f args .deferred) (⟨{ c with defers := ds }, tm, todo⟩ :: stk) M
  | some _ => none

noncomputable def unwindA (V : Env) (c : ACtx) (tm : T AV) (todo : List AItem) (stk : List AFrame) (M : Mem) (d : ADef) (ds : List ADef) : Option St :=
  match d with
  | .collected b => takeA V c tm todo stk M b ds
  | .fn f args => deferredA V c tm todo stk M f args ds

noncomputable def panA (V : Env) (c : ACtx) (tm : T AV) (todo : List AItem) (stk : List AFrame) (M : Mem) (chain : List APan) : Option St :=
  match c.defers with
  | [] => (match stk with
    | ⟨d, tm', todo'⟩ :: rest => (match d.mode with
      | .run => some ⟨⟨{ d with mode := .pan chain }, tm', todo'⟩, rest, M⟩
      | _ => none)
    | [] => none)
  | d :: ds => unwindA V c tm todo stk M d ds

noncomputable def nextA (next : St → Option (AV × Mem)) (s : Option St) : Option (AV × Mem) :=
  match s with
  | some s => next s
  | none => none

noncomputable def retA (V : Env) (next : St → Option (AV × Mem)) (c : ACtx) (tm : T AV) (todo : List AItem) (stk : List AFrame) (M : Mem) : Option (AV × Mem) :=
  match c.defers with
  | [] => (match resultA V c.fn tm M with
    | some v => (match stk with
      | [] => some (v, M)
      | _ => nextA next (doRetA V c.kind stk M v))
    | none => none)
  | d :: ds => nextA next (unwindA V c tm todo stk M d ds)

noncomputable def stepA (V : Env) (next : St → Option (AV × Mem)) (s : St) : Option (AV × Mem) :=
  match s with
  | ⟨⟨c, tm, todo⟩, stk, M⟩ => match c.mode with
    | .run => nextA next (runA1 V c tm stk M todo)
    | .ret => retA V next c tm todo stk M
    | .pan chain => nextA next (panA V c tm todo stk M chain)

/-- Up to the return of the frame at the bottom. -/
noncomputable def runA (V : Env) : Nat → St → Option (AV × Mem)
  | 0, _ => none
  | n + 1, s => stepA V (runA V n) s

/-- A call. -/
noncomputable def evA (V : Env) (n : Nat) (f : FuncId) (args : List AV) (M : Mem) : Option (AV × Mem) :=
  match enterA V f args .normal with
  | some fr => runA V n ⟨fr, [], M⟩
  | none => none

noncomputable def tabOf (P : Program) : Tab := { fns := T.ofL 16 P.funcs.toList, tys := T.ofL 16 P.types.toList, ng := P.globals.size }

end Go.Proofs.Ytcpffiihdnecjaa.Ev
