/- The evaluator: abstract values, abstract memory, one step of the abstract machine. Definitions alone. -/
import GoSem.Step
import Derived.KernelRfl
namespace Go.Proofs.Ytcpffiihdnecjaa.Ev
set_option linter.unusedSectionVars false
set_option linter.unusedSimpArgs false
set_option linter.unusedVariables false
open Go

/-- A finite map from numbers. -/
inductive T (α : Type) where
  | nil
  | node (x : Option α) (l r : T α)

/-- By the recursor itself: so the kernel takes few steps. -/
noncomputable def T.get {α : Type} (t : T α) (i : Nat) : Option α :=
  T.rec (motive := fun _ => Nat → Option α) (fun _ => none)
    (fun x _ _ gl gr i => Bool.rec (motive := fun _ => Option α)
      (Bool.rec (motive := fun _ => Option α) (gr (i / 2 - 1)) (gl (i / 2)) (Nat.beq (i % 2) 1)) x (Nat.beq i 0)) t i

noncomputable def T.mk1 {α : Type} (y : Option α) (k : Nat) (i : Nat) : Option (T α) :=
  Nat.rec (motive := fun _ => Nat → Option (T α)) (fun _ => none)
    (fun _ m i => Bool.rec (motive := fun _ => Option (T α))
      (Bool.rec (motive := fun _ => Option (T α))
        (Option.rec (motive := fun _ => Option (T α)) none (fun r => some (.node none .nil r)) (m (i / 2 - 1)))
        (Option.rec (motive := fun _ => Option (T α)) none (fun l => some (.node none l .nil)) (m (i / 2)))
        (Nat.beq (i % 2) 1)) (some (.node y .nil .nil)) (Nat.beq i 0)) k i

noncomputable def T.set {α : Type} (t : T α) (i : Nat) (y : Option α) : Option (T α) :=
  T.rec (motive := fun _ => Nat → Option (T α)) (fun i => T.mk1 y 64 i)
    (fun x l r sl sr i => Bool.rec (motive := fun _ => Option (T α))
      (Bool.rec (motive := fun _ => Option (T α))
        (Option.rec (motive := fun _ => Option (T α)) none (fun r => some (.node x l r)) (sr (i / 2 - 1)))
        (Option.rec (motive := fun _ => Option (T α)) none (fun l => some (.node x l r)) (sl (i / 2)))
        (Nat.beq (i % 2) 1)) (some (.node y l r)) (Nat.beq i 0)) t i

noncomputable def evens {α : Type} : List α → List α
  | [] => []
  | [x] => [x]
  | x :: _ :: r => x :: evens r
noncomputable def odds {α : Type} : List α → List α
  | [] => []
  | [_] => []
  | _ :: y :: r => y :: odds r

noncomputable def T.ofL {α : Type} : Nat → List α → T α
  | 0, _ => .nil
  | _ + 1, [] => .nil
  | k + 1, x :: r => .node (some x) (T.ofL k (evens r)) (T.ofL k (odds r))

/-- A value, its addresses abstract: a block's number, a cell's place in it (gptr: a package-level variable's). A string: its length, its bytes as one number, the first lowest. A capacity of 2^64 + c: any from c on. -/
inductive AV where
  | bool (b : Bool)
  | int (k : IntKind) (n : Int)
  | str (len n : Nat)
  | ptr (b i : Nat)
  | gptr (g : Nat)
  | pnil
  | slice (b i len cap : Nat)
  | snil
  | map (b : Nat)
  | mnil
  | func (fn : Fn) (xs ys : List AV)
  | yield (b : Nat)
  | fnil
  | iface (t : TypeId) (v : AV)
  | inil
  | agg (cs : List AV)
  | tuple (vs : List AV)
  deriving Inhabited

noncomputable def AV.cells : AV → List AV
  | .agg cs => cs
  | v => [v]

noncomputable def AV.one : AV → Bool
  | .agg _ => false
  | .tuple _ => false
  | _ => true

noncomputable def unk : Nat := 18446744073709551616

/-- Are two values surely the same? -/
noncomputable def AV.same1 : AV → AV → Bool
  | .bool a, .bool b => bif a then b else (bif b then false else true)
  | .int j a, .int k b => bif decide (j = k) then decide (a = b) else false
  | .str a b, .str c d => bif Nat.beq a c then Nat.beq b d else false
  | .ptr a b, .ptr c d => bif Nat.beq a c then Nat.beq b d else false
  | .slice a b c d, .slice e f g h => bif Nat.beq a e then (bif Nat.beq b f then (bif Nat.beq c g then Nat.beq d h else false) else false) else false
  | .map a, .map b => Nat.beq a b
  | .yield a, .yield b => Nat.beq a b
  | .pnil, .pnil => true
  | .snil, .snil => true
  | .mnil, .mnil => true
  | .fnil, .fnil => true
  | .inil, .inil => true
  | _, _ => false

noncomputable def same1s : List AV → List AV → Bool
  | [], [] => true
  | x :: r, y :: l => bif AV.same1 x y then same1s r l else false
  | _, _ => false

noncomputable def AV.same : AV → AV → Bool
  | .agg xs, .agg ys => same1s xs ys
  | .func (.func f) xs ys, .func (.func g) us vs => bif Nat.beq f g then (bif same1s xs us then same1s ys vs else false) else false
  | .iface t v, .iface u w => bif Nat.beq t u then AV.same1 v w else false
  | u, v => AV.same1 u v

/-- A row of cells: what is known of them, how many there are; its class (0: it has no siblings), the class' count when it was made; from which cell on none is frozen; the type it was made at; whether it is a block, all of it; whether it was a string's bytes. -/
structure Row where
  cells : T AV
  len : Nat
  cls : Nat
  ep : Nat
  fr : Nat
  elem : TypeId
  whole : Bool
  sh : Bool
  ub : Bool := false

structure ALoop where
  state : LoopState
  pending : Option Code
  fn : FuncId
  tmps : T AV
  nt : Nat
  params : Array Tmp
  assign : Code
  body : Code
  defers : Nat

inductive Blk where
  | row (r : Row)
  | map (es : List (AV × AV × Nat)) (clock : Nat)
  | mapIter (m : Option Nat) (since : Nat) (seen : List Nat) (stepped : Nat)
  | loop (l : ALoop)
  | deferred (there : Bool)

structure Mem where
  next : Nat
  heap : T Blk
  eps : T Nat

/-- Is a row not stale? -/
noncomputable def Mem.live (M : Mem) (r : Row) : Bool :=
  bif Nat.beq r.cls 0 then true else match M.eps.get r.cls with
    | some e => Nat.beq e r.ep
    | none => false

noncomputable def Mem.row (M : Mem) (b : Nat) : Option Row :=
  match M.heap.get b with
  | some (.row r) => bif M.live r then some r else none
  | _ => none

noncomputable def Mem.load (M : Mem) (b i : Nat) : Option AV :=
  match M.row b with
  | some r => r.cells.get i
  | none => none

noncomputable def getsFrom (t : T AV) : Nat → Nat → Option (List AV)
  | _, 0 => some []
  | i, n + 1 => match t.get i with
    | some v => (match getsFrom t (i + 1) n with | some l => some (v :: l) | none => none)
    | none => none

noncomputable def setsFrom (t : T AV) : Nat → List AV → Option (T AV)
  | _, [] => some t
  | i, v :: l => match t.set i (some v) with
    | some t => setsFrom t (i + 1) l
    | none => none

noncomputable def Mem.loads (M : Mem) (b i n : Nat) : Option (List AV) :=
  bif Nat.beq n 0 then some [] else match M.row b with
  | some r => getsFrom r.cells i n
  | none => none

/-- A write to cells that stand. (Siblings are stale.) -/
noncomputable def Mem.stores2 (M : Mem) (b i : Nat) (vs : List AV) (r : Row) : Option Mem :=
  bif Nat.ble r.fr i && Nat.ble (i + vs.length) r.len && vs.all AV.one then (match setsFrom r.cells i vs with
    | some cells => (match M.heap.set b (some (.row { r with cells })) with
      | some heap => some { M with heap }
      | none => none)
    | none => none) else none
noncomputable def Mem.stores1 (G : Nat) (M : Mem) (b i : Nat) (vs : List AV) : Option Mem :=
  bif Nat.blt b G then none else match M.row b with
    | some r => M.stores2 b i vs r
    | none => none
noncomputable def Mem.stores (G : Nat) (M : Mem) (b i : Nat) (vs : List AV) : Option Mem :=
  match vs with
  | [] => some M
  | x :: l => M.stores1 G b i (x :: l)

/-- A new block. -/
noncomputable def Mem.push (M : Mem) (o : Blk) : Option Mem :=
  match M.heap.set M.next (some o) with
  | some heap => some { M with heap, next := M.next + 1 }
  | none => none

noncomputable def Mem.put (M : Mem) (b : Nat) (o : Blk) : Option Mem :=
  match M.heap.set b (some o) with
  | some heap => some { M with heap }
  | none => none

noncomputable def rowOf (elem : TypeId) (whole : Bool) (cs : List AV) : Option Row :=
  bif cs.all AV.one then (match setsFrom .nil 0 cs with
    | some cells => some { cells, len := cs.length, cls := 0, ep := 0, fr := 0, elem, whole, sh := false }
    | none => none) else none

-- numbers

noncomputable def hiK : IntKind → Nat
  | .i8 => 128 | .i16 => 32768 | .i32 => 2147483648 | .i64 => 9223372036854775808
  | .u8 => 256 | .u16 => 65536 | .u32 => 4294967296 | .u64 => 18446744073709551616
noncomputable def loK : IntKind → Nat
  | .i8 => 128 | .i16 => 32768 | .i32 => 2147483648 | .i64 => 9223372036854775808
  | _ => 0
noncomputable def wr (k : IntKind) (n : Int) : Int :=
  match n with
  | .ofNat m => bif Nat.blt m (hiK k) then .ofNat m else k.wrap (.ofNat m)
  | .negSucc m => bif Nat.blt m (loK k) then .negSucc m else k.wrap (.negSucc m)

noncomputable def bitsSlow (op : BinOp) (k : IntKind) (x y : Int) : Option Int :=
  match op with
  | .and => some (k.wrap (BitVec.ofInt k.bits x &&& BitVec.ofInt k.bits y).toNat)
  | .or => some (k.wrap (BitVec.ofInt k.bits x ||| BitVec.ofInt k.bits y).toNat)
  | .xor => some (k.wrap (BitVec.ofInt k.bits x ^^^ BitVec.ofInt k.bits y).toNat)
  | .andNot => some (k.wrap (BitVec.ofInt k.bits x &&& ~~~ BitVec.ofInt k.bits y).toNat)
  | _ => none
noncomputable def bitsFast (op : BinOp) (a b : Nat) : Option Nat :=
  match op with
  | .and => some (Nat.land a b)
  | .or => some (Nat.lor a b)
  | .xor => some (Nat.xor a b)
  | _ => none
noncomputable def bitsN (op : BinOp) (k : IntKind) (a b : Nat) : Option Int :=
  bif Nat.blt a (hiK k) && Nat.blt b (hiK k) then (match bitsFast op a b with
    | some n => some (.ofNat n)
    | none => bitsSlow op k (.ofNat a) (.ofNat b)) else bitsSlow op k (.ofNat a) (.ofNat b)
noncomputable def bitsK (op : BinOp) (k : IntKind) (x y : Int) : Option Int :=
  match x, y with
  | .ofNat a, .ofNat b => bitsN op k a b
  | x, y => bitsSlow op k x y

noncomputable def ltI (x y : Int) : Bool :=
  match x, y with
  | .ofNat a, .ofNat b => Nat.blt a b
  | .ofNat _, .negSucc _ => false
  | .negSucc _, .ofNat _ => true
  | .negSucc a, .negSucc b => Nat.blt b a
noncomputable def eqI (x y : Int) : Bool :=
  match x, y with
  | .ofNat a, .ofNat b => Nat.beq a b
  | .negSucc a, .negSucc b => Nat.beq a b
  | _, _ => false

/-- (So made that numbers that are not written out may be compared, where their form decides.) -/
noncomputable def cmpI (op : BinOp) (x y : Int) : Option Bool :=
  match op with
  | .eql => some (eqI x y)
  | .neq => some (!eqI x y)
  | .lss => some (ltI x y)
  | .leq => some (!ltI y x)
  | .gtr => some (ltI y x)
  | .geq => some (!ltI x y)
  | _ => none

noncomputable def arithK (op : BinOp) (k : IntKind) (x y : Int) : Option AV :=
  match op with
  | .add => some (.int k (wr k (x + y)))
  | .sub => some (.int k (wr k (x - y)))
  | .mul => some (.int k (wr k (x * y)))
  | .quo => if y = 0 then none else some (.int k (wr k (x.tdiv y)))
  | .rem => if y = 0 then none else some (.int k (x.tmod y))
  | .and | .or | .xor | .andNot => match bitsK op k x y with | some n => some (.int k n) | none => none
  | op => match cmpI op x y with | some b => some (.bool b) | none => none

noncomputable def shiftK (op : BinOp) (k : IntKind) (x y : Int) : Option AV :=
  match y with
  | .negSucc _ => none
  | .ofNat y =>
    let n := min y k.bits
    match op with
    | .shl => some (.int k (wr k (x * ((2 ^ n : Nat) : Int))))
    | .shr => some (.int k (x.fdiv ((2 ^ n : Nat) : Int)))
    | _ => none

-- strings

noncomputable def sIdx (n i : Nat) : Nat := n / 256 ^ i % 256
noncomputable def sExt (n l h : Nat) : Nat := n / 256 ^ l % 256 ^ (h - l)
noncomputable def sCat (l n m : Nat) : Nat := n + m * 256 ^ l
noncomputable def sLt : Nat → Nat → Nat → Nat → Nat → Bool
  | 0, _, _, _, _ => false
  | k + 1, l, n, l', n' =>
    bif Nat.beq l' 0 then false else bif Nat.beq l 0 then true
    else bif Nat.blt (n % 256) (n' % 256) then true
    else bif Nat.beq (n % 256) (n' % 256) then sLt k (l - 1) (n / 256) (l' - 1) (n' / 256) else false
noncomputable def packL : List UInt8 → Nat
  | [] => 0
  | b :: r => b.toNat + 256 * packL r
noncomputable def strOp (op : BinOp) (l n l' n' : Nat) : Option AV :=
  let eq := bif Nat.beq l l' then Nat.beq n n' else false
  match op with
  | .add => bif Nat.blt (l + l') 9223372036854775808 then some (.str (l + l') (sCat l n n')) else none
  | .eql => some (.bool eq)
  | .neq => some (.bool (!eq))
  | .lss => some (.bool (sLt (l + 1) l n l' n'))
  | .leq => some (.bool (sLt (l + 1) l n l' n' || eq))
  | .gtr => some (.bool (!(sLt (l + 1) l n l' n' || eq)))
  | .geq => some (.bool (!sLt (l + 1) l n l' n'))
  | _ => none
/-- Bytes as cells; cells as bytes. -/
noncomputable def unpackA : Nat → Nat → List AV
  | 0, _ => []
  | k + 1, n => .int .u8 (.ofNat (n % 256)) :: unpackA k (n / 256)
noncomputable def packA : List AV → Option Nat
  | [] => some 0
  | .int .u8 (.ofNat n) :: r => bif Nat.blt n 256 then (match packA r with | some m => some (n + 256 * m) | none => none) else none
  | _ :: _ => none
noncomputable def findByte (c : Nat) : Nat → Nat → Nat → Option Nat
  | 0, _, _ => none
  | k + 1, n, i => bif Nat.beq (n % 256) c then some i else findByte c k (n / 256) (i + 1)

-- types

/-- The program's tables, as trees. -/
structure Tab where
  fns : T Func
  tys : T TypeInfo
  ng : Nat

noncomputable def Tab.und (E : Tab) (t : TypeId) : Option TypeDesc :=
  match E.tys.get t with
  | some i => (match i.desc with
    | .named _ u => (match E.tys.get u with | some j => some j.desc | none => none)
    | d => some d)
  | none => none
noncomputable def Tab.size (E : Tab) (t : TypeId) : Option Nat := match E.tys.get t with | some i => some i.size | none => none
noncomputable def Tab.isAgg (E : Tab) (t : TypeId) : Option Bool :=
  match E.und t with
  | some (.struct _) => some true
  | some (.array _ _) => some true
  | some _ => some false
  | none => none

/-- A constant. -/
noncomputable def ofVal : Nat → Value → Option AV
  | 0, _ => none
  | k + 1, v => match v with
    | .bool b => some (.bool b)
    | .int k n => some (.int k n)
    | .string s => some (.str s.size (packL s.data.toList))
    | .pointer none => some .pnil
    | .slice none 0 0 => some .snil
    | .map none => some .mnil
    | .nilFunc => some .fnil
    | .nilIface => some .inil
    | .func (.func f) xs ys => bif xs.size == 0 && ys.size == 0 then some (.func (.func f) [] []) else none
    | .iface t v => (match ofVal k v with | some v => some (.iface t v) | none => none)
    | .agg cs => (match cs.toList.mapM (ofVal k) with | some l => some (.agg l) | none => none)
    | .tuple cs => (match cs.toList.mapM (ofVal k) with | some l => some (.tuple l) | none => none)
    | _ => none

noncomputable def Tab.zero (E : Tab) (t : TypeId) : Option AV :=
  match E.tys.get t with
  | some i => (match i.zero with | some v => ofVal 4 v | none => none)
  | none => none

noncomputable def partA (E : Tab) (t : TypeId) (cs : List AV) (off : Nat) : Option AV :=
  match E.isAgg t with
  | some true => (match E.size t with | some n => some (.agg ((cs.drop off).take n)) | none => none)
  | some false => cs[off]?
  | none => none

noncomputable def eqFs (eq : TypeId → AV → AV → Option Bool) (E : Tab) (xs ys : List AV) : List Field → Option Bool
  | [] => some true
  | f :: r => bif decide (f.name = "_") then eqFs eq E xs ys r else match partA E f.type xs f.offset with
    | some u => (match partA E f.type ys f.offset with
      | some v => (match eq f.type u v with
        | some b => bif b then eqFs eq E xs ys r else some false
        | none => none)
      | none => none)
    | none => none

noncomputable def eqPlain (x y : AV) (d : TypeDesc) : Option Bool :=
  match x, y with
  | .bool a, .bool b => (match d with
    | .bool => some (a == b)
    | _ => none)
  | .int k a, .int k' b => (match d with
    | .int _ => if k = k' then some (a == b) else none
    | _ => none)
  | .str l n, .str l' n' => (match d with
    | .string => some (bif Nat.beq l l' then Nat.beq n n' else false)
    | _ => none)
  | .pnil, .pnil => (match d with
    | .pointer _ => some true
    | _ => none)
  | .pnil, .ptr _ _ => (match d with
    | .pointer _ => some false
    | _ => none)
  | .ptr _ _, .pnil => (match d with
    | .pointer _ => some false
    | _ => none)
  | .inil, .inil => (match d with
    | .interface _ => some true
    | _ => none)
  | .inil, .iface _ _ => (match d with
    | .interface _ => some false
    | _ => none)
  | .iface _ _, .inil => (match d with
    | .interface _ => some false
    | _ => none)
  | .snil, .snil => (match d with
    | .slice _ => some true
    | _ => none)
  | .snil, .slice .. => (match d with
    | .slice _ => some false
    | _ => none)
  | .slice .., .snil => (match d with
    | .slice _ => some false
    | _ => none)
  | .mnil, .mnil => (match d with
    | .map _ _ => some true
    | _ => none)
  | .mnil, .map _ => (match d with
    | .map _ _ => some false
    | _ => none)
  | .map _, .mnil => (match d with
    | .map _ _ => some false
    | _ => none)
  | .fnil, .fnil => (match d with
    | .func _ _ _ => some true
    | _ => none)
  | .fnil, .func .. => (match d with
    | .func _ _ _ => some false
    | _ => none)
  | .func .., .fnil => (match d with
    | .func _ _ _ => some false
    | _ => none)
  | _, _ => none

noncomputable def eqA (E : Tab) (P : Program) : Nat → TypeId → AV → AV → Option Bool
  | 0, _, _, _ => none
  | d + 1, t, x, y =>
    match x, y with
    | .agg xs, .agg ys => (match E.und t with
      | some (.struct fs) => bif P.stoodInHeld t then none else eqFs (eqA E P d) E xs ys fs.toList
      | _ => none)
    | .ptr a i, .ptr b j => (match E.und t with
      | some (.pointer e) => (match E.size e with
        | some n => bif Nat.beq n 0 then none else bif Nat.beq a b then some (Nat.beq i j) else none
        | none => none)
      | _ => none)
    | x, y => (match E.und t with
      | some d => eqPlain x y d
      | none => none)

noncomputable def isC : Operand → Bool
  | .const _ => true
  | _ => false

noncomputable def eqOp (op : BinOp) (r : Option Bool) : Option AV :=
  match op with
  | .eql => (match r with | some r => some (.bool r) | none => none)
  | .neq => (match r with | some r => some (.bool (!r)) | none => none)
  | _ => none

noncomputable def intOp (op : BinOp) (k k' : IntKind) (m n : Int) : Option AV :=
  match op with
  | .shl => shiftK .shl k m n
  | .shr => shiftK .shr k m n
  | op => if k = k' then arithK op k m n else none

noncomputable def binA (E : Tab) (P : Program) (op : BinOp) (t : TypeId) (x y : Operand) (a b : AV) : Option AV :=
  match a, b with
  | .int k m, .int k' n => intOp op k k' m n
  | .str l n, .str l' n' => strOp op l n l' n'
  | .inil, .inil => bif isC x || isC y then eqOp op (eqA E P 20 t .inil .inil) else none
  | .agg xs, .agg ys => bif P.eqGuardType P.depth t then none else eqOp op (eqA E P 20 t (.agg xs) (.agg ys))
  | a, b => eqOp op (eqA E P 20 t a b)

noncomputable def unA (op : UnOp) (x : AV) : Option AV :=
  match op, x with
  | .neg, .int k n => some (.int k (wr k (0 - n)))
  | .xor, .int k n => (match bitsK .xor k (if k.signed then -1 else k.max) n with | some n => some (.int k n) | none => none)
  | .not, .bool b => some (.bool (!b))
  | _, _ => none

end Go.Proofs.Ytcpffiihdnecjaa.Ev
