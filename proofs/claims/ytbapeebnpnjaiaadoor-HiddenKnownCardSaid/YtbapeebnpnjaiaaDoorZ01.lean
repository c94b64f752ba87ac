/- Texts of the claim: AbsDef. -/
import Derived.Calls
import Derived.Test.YtbapeebnpnjaiaaDoorZ00
set_option linter.unusedVariables false
set_option linter.unusedSimpArgs false
/- An abstract machine for the model's programs: the definitions. Nothing is proved here. -/
namespace Go.Abs
set_option linter.unusedVariables false
noncomputable section

/-! ### Values -/
/-- bad: a value of which nothing is known. vptr, vslice: memory that nobody writes any more, given by what it holds (sz: cells of an element). slice: b the block, off its first cell there. -/
inductive AV where
  | bad
  | bool (b : Bool)
  | int (k : IntKind) (n : Int)
  | str (s : ByteArray)
  | nilp
  | ptr (b off : Nat)
  | vptr (cs : List AV)
  | nils
  | slice (b off len sz : Nat)
  | vslice (cs : List AV) (len sz : Nat)
  | nilm
  | map (b : Nat)
  | nilf
  | func (fn : FuncId) (first captured : List AV)
  | yieldf (l : Nat)
  | nili
  | iface (t : TypeId) (v : AV)
  | agg (cs : List AV)
  | tuple (vs : List AV)

def all2 {α : Type} (f : α → α → Bool) : List α → List α → Bool
  | [], [] => true
  | x :: xs, y :: ys => f x y && all2 f xs ys
  | _, _ => false

def AV.beq : Nat → AV → AV → Bool
  | 0, _, _ => false
  | f + 1, x, y => match x, y with
    | .bool a, .bool b => a == b
    | .int j a, .int k b => decide (j = k) && decide (a = b)
    | .str a, .str b => decide (a = b)
    | .nilp, .nilp => true
    | .ptr a i, .ptr b j => Nat.beq a b && Nat.beq i j
    | .vptr a, .vptr b => all2 (AV.beq f) a b
    | .nils, .nils => true
    | .slice a i m s, .slice b j n t => Nat.beq a b && Nat.beq i j && Nat.beq m n && Nat.beq s t
    | .vslice a m s, .vslice b n t => all2 (AV.beq f) a b && Nat.beq m n && Nat.beq s t
    | .nilm, .nilm => true
    | .map a, .map b => Nat.beq a b
    | .nilf, .nilf => true
    | .func a x u, .func b y v => Nat.beq a b && all2 (AV.beq f) x y && all2 (AV.beq f) u v
    | .yieldf a, .yieldf b => Nat.beq a b
    | .nili, .nili => true
    | .iface t a, .iface u b => Nat.beq t u && AV.beq f a b
    | .agg a, .agg b => all2 (AV.beq f) a b
    | .tuple a, .tuple b => all2 (AV.beq f) a b
    | _, _ => false

def ofC : Value → AV
  | .bool b => .bool b
  | .int k n => .int k n
  | .string s => .str s
  | .pointer none => .nilp
  | .slice none 0 0 => .nils
  | .map none => .nilm
  | .nilFunc => .nilf
  | .nilIface => .nili
  | _ => .bad
def ofV : Value → AV
  | .agg cs => .agg (cs.toList.map ofC)
  | .tuple vs => .tuple (vs.toList.map ofC)
  | v => ofC v

/-- Is it a value that lies in one cell? -/
def AV.one : AV → Bool
  | .agg _ | .tuple _ | .bad => false
  | _ => true
def AV.cells : AV → List AV
  | .agg cs => cs
  | v => [v]

/-! ### Machines -/
inductive ATgt where
  | func (f : FuncId)
  | collected (r : Nat)
structure ADef where
  tgt : ATgt
  args : List AV

structure ALoop where
  state : LoopState
  pending : Option Code
  fn : FuncId
  nt : Nat
  tm : Tr AV
  params : Array Tmp
  assign : Code
  body : Code
  defers : Nat

structure AEntry where
  key : AV
  val : AV
  born : Nat

inductive AObj where
  | cells (cs : List AV)
  | map (es : List AEntry) (clock : Nat)
  | loop (l : ALoop)
  | deferred (ds : Option (List ADef))

structure Heap where
  next : Nat
  t : Tr AObj

def Heap.get (h : Heap) (b : Nat) : Option AObj := h.t.get b
def Heap.set (h : Heap) (b : Nat) (o : AObj) : Heap := { h with t := h.t.set b o }
def Heap.kill (h : Heap) (b : Nat) : Heap := { h with t := h.t.erase b }
def Heap.new (h : Heap) (o : AObj) : Heap := { next := h.next + 1, t := h.t.set h.next o }

structure APanic where
  v : AV
  recovered : Bool

inductive AMode where
  | run
  | returning
  | panicking (chain : List APanic)

/-- 'reg': a region in the order of the text: 'i' is the number of the next operation, 'rest' the operations from it on. 'dreg': a region that draws its order, in the order of a plan; with each operation the numbers of those that are looked at again behind it. -/
inductive AItem where
  | code (c : Code)
  | inBlock (id : Nat)
  | inLoop (body : Code)
  | inScope (body : Code)
  | reg (ops : Array Oper) (i : Nat) (rest : List Oper)
  | dreg (ops : Array Oper) (rest : List (Nat × List Nat))
  | inRangeFunc (l : Nat)
  | endRangeFunc (l : Nat)
  | beginRound

structure AFrame where
  fn : FuncId
  nt : Nat
  tm : Tr AV
  todo : List AItem
  defers : List ADef
  mode : AMode
  deferred : Bool
  roundOf : Option Nat

structure AMach where
  fr : AFrame
  callers : List AFrame
  h : Heap

/-- The package variables that are looked at, with their cells (a constant of the claim; of the others nothing is known). -/
def gtab : List (Nat × List AV) := [(0, [.func 43 [] [], .func 173 [] []])]
def gv (g : Nat) : AV := match gtab.lookup g with
  | some cs => .vptr cs
  | none => .bad
def tmGet (tm : Tr AV) (t : Nat) : AV := match tm.get t with | some v => v | none => .bad
def evalOp (tm : Tr AV) : Operand → AV
  | .tmp t => tmGet tm t
  | .const v => ofV v
  | .global g => gv g
  | .func f => .func f [] []

def tmSet (nt : Nat) (tm : Tr AV) : Option Tmp → AV → Option (Tr AV)
  | none, _ => some tm
  | some d, v => cond (Nat.blt d nt) (some (tm.set d v)) none

/-! ### Operations that leave the heap alone -/
def sizeT (P : Program) (t : TypeId) : Option Nat := (P.info? t).map (·.size)
def isAggT (P : Program) (t : TypeId) : Option Bool :=
  match P.underlying t with
  | some (.struct _) | some (.array _ _) => some true
  | some _ => some false
  | none => none

def takeN : Nat → List AV → Option (List AV)
  | 0, _ => some []
  | n + 1, x :: xs => (takeN n xs).map (x :: ·)
  | _ + 1, [] => none

def readAt (P : Program) (t : TypeId) (cs : List AV) : Option AV :=
  match isAggT P t with
  | some true => match sizeT P t with
    | some n => (takeN n cs).map .agg
    | none => none
  | some false => match cs with
    | c :: _ => some c
    | [] => none
  | none => none

/-- The cells from an address on. -/
def rowAt (h : Heap) : AV → Option (List AV)
  | .ptr b off => match h.get b with
    | some (.cells cs) => some (cs.drop off)
    | _ => none
  | .vptr cs => some cs
  | _ => none

def aload (P : Program) (h : Heap) (t : TypeId) (a : AV) : Option AV :=
  match rowAt h a with
  | some cs => readAt P t cs
  | none => none

def ptrAdd (n : Nat) : AV → Option AV
  | .ptr b off => some (.ptr b (off + n))
  | .vptr cs => some (.vptr (cs.drop n))
  | _ => none

def fieldOf (P : Program) (s : TypeId) (f : Nat) : Option Field :=
  match P.underlying s with
  | some (.struct fields) => fields[f]?
  | _ => none

def afieldAddr (P : Program) (s : TypeId) (a : AV) (f : Nat) : Option AV :=
  match fieldOf P s f with
  | some fd => match sizeT P fd.type with
    | some (_ + 1) => ptrAdd fd.offset a
    | _ => none
  | none => none

def partA (P : Program) (t : TypeId) (cs : List AV) (off : Nat) : Option AV := readAt P t (cs.drop off)

def afield (P : Program) (s : TypeId) (x : AV) (f : Nat) : Option AV :=
  match x with
  | .agg cs => match fieldOf P s f with
    | some fd => partA P fd.type cs fd.offset
    | none => none
  | _ => none

/-- An index below a length. -/
def idx (n : Int) (len : Nat) : Option Nat :=
  match n with
  | .ofNat m => cond (Nat.blt m len) (some m) none
  | _ => none

def aindexAddr (P : Program) (t : TypeId) (x ix : AV) : Option AV :=
  match ix with
  | .int _ n => match P.underlying t with
    | some (.array len elem) => match x with
      | .ptr _ _ | .vptr _ => match idx n len, sizeT P elem with
        | some i, some s => ptrAdd (i * s) x
        | _, _ => none
      | _ => none
    | some (.slice elem) => match x with
      | .slice b off len sz => match idx n len, sizeT P elem with
        | some i, some s => cond (Nat.beq s sz) (some (.ptr b (off + i * s))) none
        | _, _ => none
      | .vslice cs len sz => match idx n len, sizeT P elem with
        | some i, some s => cond (Nat.beq s sz) (some (.vptr (cs.drop (i * s)))) none
        | _, _ => none
      | _ => none
    | _ => none
  | _ => none

def aindex (P : Program) (t : TypeId) (x ix : AV) : Option AV :=
  match ix with
  | .int _ n => match P.underlying t with
    | some (.array len elem) => match x with
      | .agg cs => match idx n len, sizeT P elem with
        | some i, some s => partA P elem cs (i * s)
        | _, _ => none
      | _ => none
    | some .string => match x with
      | .str s => match idx n s.size with
        | some i => match s[i]? with
          | some b => some (.int .u8 b.toNat)
          | none => none
        | none => none
      | _ => none
    | _ => none
  | _ => none

/-- The bounds of a slice expression, within a length. -/
def bounds (len : Nat) (lo hi : Option AV) : Option (Nat × Nat) :=
  match (match hi with | none => some len | some (.int _ n) => idx n (len + 1) | some _ => none) with
  | none => none
  | some h => match (match lo with | none => some 0 | some (.int _ n) => idx n (h + 1) | some _ => none) with
    | none => none
    | some l => some (l, h)

def aslice (P : Program) (h : Heap) (t : TypeId) (x : AV) (lo hi : Option AV) : Option AV :=
  match P.underlying t with
  | some (.array n elem) => match x with
    | .ptr b off => match h.get b, bounds n lo hi, sizeT P elem with
      | some (.cells cs), some (l, m), some s => cond (Nat.ble (off + n * s) cs.length) (some (.slice b (off + l * s) (m - l) s)) none
      | _, _, _ => none
    | _ => none
  | some .string => match x with
    | .str s => match bounds s.size lo hi with
      | some (l, m) => some (.str (s.extract l m))
      | none => none
    | _ => none
  | some (.slice elem) => match x with
    | .nils => match bounds 0 lo hi with
      | some _ => (sizeT P elem).map fun _ => .nils
      | none => none
    | .slice b off len sz => match bounds len lo hi, sizeT P elem with
      | some (l, m), some s => cond (Nat.beq s sz) (some (.slice b (off + l * s) (m - l) s)) none
      | _, _ => none
    | .vslice cs len sz => match bounds len lo hi, sizeT P elem with
      | some (l, m), some s => cond (Nat.beq s sz) (some (.vslice (cs.drop (l * s)) (m - l) s)) none
      | _, _ => none
    | _ => none
  | _ => none

/-- 'IntKind.wrap', quick where nothing wraps. -/
def awrap (k : IntKind) (n : Int) : Int :=
  match k, n with
  | .i64, .ofNat m => cond (Nat.blt m 9223372036854775808) (.ofNat m) (k.wrap n)
  | .i64, .negSucc m => cond (Nat.blt m 9223372036854775808) (.negSucc m) (k.wrap n)
  | .u64, .ofNat m => cond (Nat.blt m 18446744073709551616) (.ofNat m) (k.wrap n)
  | _, _ => k.wrap n

/-- What a pure run yields. -/
def pureV : Sem Value → Option AV
  | .pure v => some (ofV v)
  | _ => none

def abinInt (op : BinOp) (k : IntKind) (a b : Int) : Option AV :=
  match op with
  | .add => some (.int k (awrap k (Int.add a b)))
  | .sub => some (.int k (awrap k (Int.sub a b)))
  | .mul => some (.int k (awrap k (Int.mul a b)))
  | .quo => cond (decide (b = 0)) none (some (.int k (awrap k (Int.tdiv a b))))
  | .rem => cond (decide (b = 0)) none (some (.int k (Int.tmod a b)))
  | .eql => some (.bool (decide (a = b)))
  | .neq => some (.bool (!decide (a = b)))
  | .lss => some (.bool (decide (a < b)))
  | .leq => some (.bool (decide (a ≤ b)))
  | .gtr => some (.bool (decide (b < a)))
  | .geq => some (.bool (decide (b ≤ a)))
  | _ => pureV (Op.intBits op k a b)

/-- ==, where it can be told. -/
def aeqIn (P : Program) : Nat → TypeId → AV → AV → Option Bool
  | 0, _, _, _ => none
  | d + 1, t, x, y => match P.underlying t with
    | some .bool => match x, y with
      | .bool a, .bool b => some (a == b)
      | _, _ => none
    | some (.int _) => match x, y with
      | .int j a, .int k b => cond (decide (j = k)) (some (decide (a = b))) none
      | _, _ => none
    | some .string => match x, y with
      | .str a, .str b => some (decide (a = b))
      | _, _ => none
    | some (.pointer _) => match x, y with
      | .nilp, .nilp => some true
      | .nilp, .ptr _ _ | .ptr _ _, .nilp | .nilp, .vptr _ | .vptr _, .nilp => some false
      | _, _ => none
    | some (.interface _) => match x, y with
      | .nili, .nili => some true
      | .nili, .iface _ _ | .iface _ _, .nili => some false
      | _, _ => none
    | some (.struct fields) => match x, y with
      | .agg xs, .agg ys => cond (P.stoodInHeld t) none (fields.toList.foldr (fun f r =>
          cond (decide (f.name = "_")) r (match partA P f.type xs f.offset, partA P f.type ys f.offset with
            | some a, some b => match aeqIn P d f.type a b with
              | some true => r
              | some false => some false
              | none => none
            | _, _ => none)) (some true))
      | _, _ => none
    | some (.array len elem) => match x, y with
      | .agg xs, .agg ys => match sizeT P elem with
        | some n => (List.range len).foldr (fun i r => match partA P elem xs (i * n), partA P elem ys (i * n) with
            | some a, some b => match aeqIn P d elem a b with
              | some true => r
              | some false => some false
              | none => none
            | _, _ => none) (some true)
        | none => none
      | _, _ => none
    | some (.slice _) => match x, y with
      | .nils, .nils => some true
      | .nils, .slice _ _ _ _ | .slice _ _ _ _, .nils | .nils, .vslice _ _ _ | .vslice _ _ _, .nils => some false
      | _, _ => none
    | some (.map _ _) => match x, y with
      | .nilm, .nilm => some true
      | .nilm, .map _ | .map _, .nilm => some false
      | _, _ => none
    | some (.func _ _ _) => match x, y with
      | .nilf, .nilf => some true
      | .nilf, .func _ _ _ | .func _ _ _, .nilf => some false
      | _, _ => none
    | _ => none

def isConst : Operand → Bool
  | .const _ => true
  | _ => false

/-- May the guard at == be passed? -/
def guardOk (P : Program) (t : TypeId) (x y : Operand) (a b : AV) : Bool :=
  match a, b with
  | .nili, .nili => isConst x || isConst y
  | .agg _, .agg _ => !P.eqGuardType P.depth t
  | _, _ => true

def abin (P : Program) (op : BinOp) (t : TypeId) (x y : Operand) (a b : AV) : Option AV :=
  match a, b with
  | .int j m, .int k n => match op with
    | .shl => cond (decide (n < 0)) none (some (.int j (awrap j (Int.mul m (2 ^ min n.toNat j.bits)))))
    | .shr => cond (decide (n < 0)) none (some (.int j (Int.fdiv m (2 ^ min n.toNat j.bits))))
    | _ => cond (decide (j = k)) (abinInt op j m n) none
  | .str s, .str u => pureV (Op.stringOp op s u)
  | .bad, _ | _, .bad => none
  | _, _ => match op with
    | .eql => cond (guardOk P t x y a b) ((aeqIn P 10000 t a b).map .bool) none
    | .neq => cond (guardOk P t x y a b) ((aeqIn P 10000 t a b).map fun r => .bool !r) none
    | _ => none

def aun (op : UnOp) (x : AV) : Option AV :=
  match op, x with
  | .neg, .int k n => some (.int k (awrap k (Int.sub 0 n)))
  | .not, .bool b => some (.bool !b)
  | .xor, .int k n => pureV (Op.unary .xor (.int k n))
  | _, _ => none

def aconv (P : Program) (src dst : TypeId) (x : AV) : Option AV :=
  match P.underlying src, P.underlying dst with
  | some _, some (.int k) => match x with
    | .int _ n => some (.int k (awrap k n))
    | _ => none
  | some _, some .string => match x with
    | .str s => some (.str s)
    | _ => none
  | _, _ => none

def zeroA (P : Program) (t : TypeId) : Option AV :=
  match P.info? t with
  | some i => i.zero.map ofV
  | none => none

def splice (cs : List AV) (off : Nat) (vs : List AV) : List AV := cs.take off ++ vs ++ cs.drop (off + vs.length)

/-- The parts of a literal. 'place': where a part lies, and how many cells it takes. -/
def afill (place : Nat → Option (Nat × Nat)) (cells : List AV) : List (Nat × AV) → Option (List AV)
  | [] => some cells
  | (i, v) :: rest => match v with
    | .bad => none
    | _ => match place i with
      | none => none
      | some (off, size) => cond (Nat.beq v.cells.length size && Nat.ble (off + v.cells.length) cells.length)
          (afill place (splice cells off v.cells) rest) none

def placesOf (P : Program) : List Field → Option (List (Nat × Nat))
  | [] => some []
  | f :: fs => match sizeT P f.type, placesOf P fs with
    | some s, some l => some ((f.offset, s) :: l)
    | _, _ => none

def abuild (P : Program) (t : TypeId) (parts : List (Nat × AV)) : Option AV :=
  match zeroA P t with
  | some (.agg z) => match P.underlying t with
    | some (.struct fields) => match placesOf P fields.toList with
      | some l => (afill (fun i => l[i]?) z parts).map .agg
      | none => none
    | some (.array _ elem) => match sizeT P elem with
      | some s => (afill (fun i => some (i * s, s)) z parts).map .agg
      | none => none
    | _ => none
  | _ => none

def isIface (P : Program) (t : TypeId) : Option Bool :=
  match P.underlying t with
  | some (.interface _) => some true
  | some _ => some false
  | none => none

def atypeAssert (P : Program) (x : AV) (asserted : TypeId) (commaOk : Bool) : Option AV :=
  match isIface P asserted with
  | some false => match x with
    | .iface t v => cond (Nat.beq t asserted) (some (cond commaOk (.tuple [v, .bool true]) v))
        (cond commaOk ((zeroA P asserted).map fun z => .tuple [z, .bool false]) none)
    | .nili => cond commaOk ((zeroA P asserted).map fun z => .tuple [z, .bool false]) none
    | _ => none
  | _ => none

def alen (P : Program) (h : Heap) (t : TypeId) (x : AV) : Option AV :=
  match P.underlying t with
  | some .string => match x with
    | .str s => some (.int .i64 s.size)
    | _ => none
  | some (.array n _) => some (.int .i64 n)
  | some (.slice _) => match x with
    | .slice _ _ n _ | .vslice _ n _ => some (.int .i64 n)
    | .nils => some (.int .i64 0)
    | _ => none
  | some (.map _ _) => match x with
    | .nilm => some (.int .i64 0)
    | .map b => match h.get b with
      | some (.map es _) => some (.int .i64 es.length)
      | _ => none
    | _ => none
  | _ => none

def amin2 (x y : AV) : Option AV :=
  match x, y with
  | .int k a, .int _ b => some (.int k (cond (decide (b < a)) b a))
  | _, _ => none
def amax2 (x y : AV) : Option AV :=
  match x, y with
  | .int k a, .int _ b => some (.int k (cond (decide (a < b)) b a))
  | _, _ => none
def foldA (f : AV → AV → Option AV) : AV → List AV → Option AV
  | a, [] => some a
  | a, x :: xs => match f a x with
    | some b => foldA f b xs
    | none => none

def pick (c a b : AV) : Option AV :=
  match c with
  | .bool true => some a
  | .bool false => some b
  | _ => none

def optEval (tm : Tr AV) : Option Operand → Option AV
  | none => none
  | some x => some (evalOp tm x)

/-- Are two keys of a map the same? -/
def keyNow (d : TypeDesc) (x y : AV) : Option Bool :=
  match d with
  | .int _ => match x, y with
    | .int j a, .int k b => cond (decide (j = k)) (some (decide (a = b))) none
    | _, _ => none
  | .string => match x, y with
    | .str a, .str b => some (decide (a = b))
    | _, _ => none
  | .bool => match x, y with
    | .bool a, .bool b => some (a == b)
    | _, _ => none
  | _ => none
def simpleKey (d : TypeDesc) : Bool :=
  match d with
  | .int _ | .string | .bool => true
  | _ => false
def keyEq (P : Program) (kt : TypeId) (d : TypeDesc) (x y : AV) : Option Bool := cond (simpleKey d) (keyNow d x y) (aeqIn P 10000 kt x y)
/-- May it be a key? -/
def keyOk (P : Program) : Nat → TypeId → AV → Bool
  | 0, _, _ => false
  | n + 1, t, v => match P.underlying t with
    | some (.struct fields) => match v with
      | .agg cs => fields.toList.all fun f => decide (f.name = "_") || (match partA P f.type cs f.offset with
        | some x => keyOk P n f.type x
        | none => false)
      | _ => false
    | some (.array len elem) => match v with
      | .agg cs => match sizeT P elem with
        | some s => (List.range len).all fun i => match partA P elem cs (i * s) with
          | some x => keyOk P n elem x
          | none => false
        | none => false
      | _ => false
    | some (.interface _) => false
    | some _ => true
    | none => false
/-- The same to the bit. -/
def sameA : Nat → AV → AV → Bool
  | 0, _, _ => false
  | n + 1, x, y => match x, y with
    | .bool a, .bool b => a == b
    | .int j a, .int k b => decide (j = k) && decide (a = b)
    | .str a, .str b => decide (a = b)
    | .agg xs, .agg ys => all2 (sameA n) xs ys
    | _, _ => false
/-- The entry of a key: its number, its key, its value. -/
def findE (P : Program) (kt : TypeId) (d : TypeDesc) (x : AV) : List AEntry → Nat → Option (Option (Nat × AV × AV))
  | [], _ => some none
  | e :: es, i => match keyEq P kt d x e.key with
    | some true => some (some (i, e.key, e.val))
    | some false => findE P kt d x es (i + 1)
    | none => none
def entriesOf (h : Heap) : AV → Option (List AEntry)
  | .nilm => some []
  | .map b => match h.get b with
    | some (.map es _) => some es
    | _ => none
  | _ => none
/-- A map's type: the keys' type, what it is, the elements' type. -/
def mapOf (P : Program) (t : TypeId) : Option (TypeId × TypeDesc × TypeId) :=
  match P.underlying t with
  | some (.map kt et) => match P.underlying kt with
    | some d => some (kt, d, et)
    | none => none
  | _ => none
def alookup (P : Program) (h : Heap) (t : TypeId) (x ix : AV) (ok : Bool) : Option AV :=
  match mapOf P t with
  | some (kt, d, et) => match entriesOf h x with
    | some es => cond (keyOk P 10000 kt ix) (match findE P kt d ix es 0 with
      | some (some (_, _, v)) => some (cond ok (.tuple [v, .bool true]) v)
      | some none => (zeroA P et).map fun z => cond ok (.tuple [z, .bool false]) z
      | none => none) none
    | none => none
  | none => none

/-- An operation that only reads. -/
def alight (P : Program) (h : Heap) (tm : Tr AV) (o : Oper) : Option AV :=
  match o.op with
  | .move x => some (evalOp tm x)
  | .assign x => some (evalOp tm x)
  | .pick c a b => pick (evalOp tm c) (evalOp tm a) (evalOp tm b)
  | .build t parts => abuild P t (parts.toList.map fun p => (p.1, evalOp tm p.2))
  | .load t a => aload P h t (evalOp tm a)
  | .binOp op t x y _ => abin P op t x y (evalOp tm x) (evalOp tm y)
  | .unOp op _ x => aun op (evalOp tm x)
  | .convert s d x => aconv P s d (evalOp tm x)
  | .makeInterface t x => match isIface P t with
    | some false => some (.iface t (evalOp tm x))
    | _ => none
  | .makeFunc (.func f) first captured => some (.func f (first.toList.map (evalOp tm)) (captured.toList.map (evalOp tm)))
  | .slice t x lo hi none => aslice P h t (evalOp tm x) (optEval tm lo) (optEval tm hi)
  | .fieldAddr s x f => afieldAddr P s (evalOp tm x) f
  | .field s x f => afield P s (evalOp tm x) f
  | .indexAddr t x i => aindexAddr P t (evalOp tm x) (evalOp tm i)
  | .index t x i => aindex P t (evalOp tm x) (evalOp tm i)
  | .extract x i => match evalOp tm x with
    | .tuple vs => vs[i]?
    | _ => none
  | .typeAssert x _ t ok => atypeAssert P (evalOp tm x) t ok
  | .lookup t x ix ok => alookup P h t (evalOp tm x) (evalOp tm ix) ok
  | .nilCheck x => match evalOp tm x with
    | .ptr b off => some (.ptr b off)
    | .vptr cs => some (.vptr cs)
    | .func f a b => some (.func f a b)
    | .yieldf l => some (.yieldf l)
    | _ => none
  | .call { callee := .builtin b, args, argTypes } => match b, args.toList with
    | .len, [x] => match argTypes.toList with
      | t :: _ => alen P h t (evalOp tm x)
      | [] => none
    | .min, x :: xs => foldA amin2 (evalOp tm x) (xs.map (evalOp tm))
    | .max, x :: xs => foldA amax2 (evalOp tm x) (xs.map (evalOp tm))
    | _, _ => none
  | _ => none

/-! ### Operations that make a new block -/
def repl (zero : List AV) : Nat → List AV
  | 0 => []
  | n + 1 => zero ++ repl zero n

def afresh (P : Program) (next : Nat) (tm : Tr AV) (o : Oper) : Option (AObj × AV) :=
  match o.op with
  | .alloc t => match zeroA P t with
    | some z => cond (z.cells.all AV.one) (some (.cells z.cells, .ptr next 0)) none
    | none => none
  | .box _ x => match evalOp tm x with
    | .bad => none
    | v => cond (v.cells.all AV.one) (some (.cells v.cells, .ptr next 0)) none
  | .buildSlice t len parts => match P.underlying t with
    | some (.slice e) => match sizeT P e, zeroA P e with
      | some s, some z => cond (Nat.beq z.cells.length s && Nat.blt 0 s && Nat.ble (len * s) 16777216 && z.cells.all AV.one)
          (match afill (fun i => some (i * s, s)) (repl z.cells len) (parts.toList.map fun p => (p.1, evalOp tm p.2)) with
            | some cs => cond (cs.all AV.one) (some (.cells cs, .slice next 0 len s)) none
            | none => none) none
      | _, _ => none
    | _ => none
  | .makeSlice t l c => match P.underlying t with
    | some (.slice e) => match P.info? e, zeroA P e, evalOp tm l, evalOp tm c with
      | some i, some z, .int _ (.ofNat m), .int _ (.ofNat n) =>
        cond (Nat.beq z.cells.length i.size && Nat.blt 0 i.size && Nat.beq m n && Nat.ble (n * i.bytes) 140737488355328 && Nat.ble n 4611686018427387904 && z.cells.all AV.one)
          (some (.cells (repl z.cells n), .slice next 0 n i.size)) none
      | _, _, _, _ => none
    | _ => none
  | .makeMap t r => match r with
    | none => some (.map [] 0, .map next)
    | some x => match P.underlying t, evalOp tm x with
      | some (.map _ _), .int _ _ => some (.map [] 0, .map next)
      | _, _ => none
  | _ => none

/-! ### The other operations -/
inductive ANext where
  | value (v : AV)
  | enter (f : FuncId) (args : List AV)
  | round (l : Nat)
  | defer (d : ADef)
  | recover
  | panic (v : AV)

def astore (P : Program) (h : Heap) (t : TypeId) (a v : AV) : Option Heap :=
  match a with
  | .ptr b off => match h.get b with
    | some (.cells cs) => match sizeT P t with
      | some s => cond (Nat.beq v.cells.length s && Nat.ble (off + s) cs.length && v.cells.all AV.one)
          (some (h.set b (.cells (splice cs off v.cells)))) none
      | none => none
    | _ => none
  | _ => none

/-- The elements of a slice: how many, and their cells. -/
def elems (h : Heap) (sz : Nat) : AV → Option (Nat × List AV)
  | .nils => some (0, [])
  | .slice b off len s => match h.get b with
    | some (.cells cs) => cond (Nat.beq s sz) ((takeN (len * s) (cs.drop off)).map fun l => (len, l)) none
    | _ => none
  | .vslice cs len s => cond (Nat.beq s sz) ((takeN (len * s) cs).map fun l => (len, l)) none
  | _ => none

def blockOf : AV → Option Nat
  | .slice b _ _ _ => some b
  | _ => none

/-- append: n elements with these cells. -/
def appendTo (h : Heap) (size bytes : Nat) (s : AV) (n : Nat) (new : List AV) : Option (AV × Heap) :=
  match s with
  | .nils => match n with
    | 0 => some (.nils, h)
    | _ + 1 => cond (Nat.ble ((2 * n + 1024) * bytes) 140737488355328 && Nat.ble n 2305843009213693952 && new.all AV.one)
        (some (.slice h.next 0 n size, h.new (.cells new))) none
  | .slice b off len sz => match elems h size (.slice b off len sz) with
    | some (_, old) => match n with
      | 0 => some (.slice b off len sz, h)
      | _ + 1 => cond (Nat.ble ((2 * (len + n) + 1024) * bytes) 140737488355328 && Nat.ble (len + n) 2305843009213693952 && new.all AV.one)
          (some (.slice h.next 0 (len + n) size, (h.kill b).new (.cells (old ++ new)))) none
    | none => none
  | _ => none

/-- What is appended: how many elements, and their cells. -/
def appended (h : Heap) (zero : List AV) (size : Nat) (xd : TypeDesc) (x : AV) : Option (Nat × List AV) :=
  match xd with
  | .int _ => match x with
    | .int _ (.ofNat n) => cond (Nat.ble n 4611686018427387904) (some (n, repl zero n)) none
    | _ => none
  | _ => elems h size x

def aappend (P : Program) (h : Heap) (st xt : TypeId) (s x : AV) : Option (AV × Heap) :=
  match P.underlying st with
  | some (.slice e) => match P.info? e, zeroA P e, P.underlying xt with
    | some i, some z, some xd =>
      cond (Nat.beq z.cells.length i.size && Nat.blt 0 i.size && z.cells.all AV.one)
      (match appended h z.cells i.size xd x with
      | some (n, new) => appendTo h i.size i.bytes s n new
      | none => none) none
    | _, _, _ => none
  | _ => none

def acopy (P : Program) (h : Heap) (dt : TypeId) (d s : AV) : Option (AV × Heap) :=
  match P.underlying dt with
  | some (.slice e) => match sizeT P e with
    | some sz => match elems h sz s, d with
      | some (_, _), .nils => some (.int .i64 0, h)
      | some (n, new), .slice b off len sz' => match h.get b with
        | some (.cells cs) => cond (Nat.beq sz sz' && Nat.ble (off + len * sz) cs.length && new.all AV.one)
            (some (.int .i64 (Nat.min n len), h.set b (.cells (splice cs off (new.take (Nat.min n len * sz)))))) none
        | _ => none
      | _, _ => none
    | none => none
  | _ => none

def acall (P : Program) (f : AV) (args : List AV) : Option ANext :=
  match f with
  | .func f first captured => match P.funcs[f]? with
    | some fn => match fn.body with
      | some _ => some (.enter f (first ++ args ++ captured))
      | none => none
    | none => none
  | .yieldf l => some (.round l)
  | _ => none

def modE (i : Nat) (k v : AV) : List AEntry → List AEntry
  | [] => []
  | e :: es => match i with
    | 0 => { key := k, val := v, born := e.born } :: es
    | j + 1 => e :: modE j k v es
def amapUpdate (P : Program) (h : Heap) (t : TypeId) (m k v : AV) : Option Heap :=
  match mapOf P t with
  | some (kt, d, _) => match m with
    | .map b => match h.get b with
      | some (.map es clock) => cond (keyOk P 10000 kt k) (match findE P kt d k es 0 with
        | some (some (i, old, _)) => cond (sameA 10000 old k) (some (h.set b (.map (modE i k v es) clock))) none
        | some none => some (h.set b (.map (es ++ [{ key := k, val := v, born := clock }]) (clock + 1)))
        | none => none) none
      | _ => none
    | _ => none
  | none => none

def aheavy (P : Program) (h : Heap) (tm : Tr AV) (o : Oper) : Option (ANext × Heap) :=
  match o.op with
  | .store t a x => (astore P h t (evalOp tm a) (evalOp tm x)).map fun h => (.value .bad, h)
  | .call { callee := .builtin b, args, argTypes } => match b, args.toList, argTypes.toList with
    | .append, [s, x], [st, xt] => (aappend P h st xt (evalOp tm s) (evalOp tm x)).map fun r => (.value r.1, r.2)
    | .copy, [d, s], t :: _ => (acopy P h t (evalOp tm d) (evalOp tm s)).map fun r => (.value r.1, r.2)
    | .recover, [], _ => some (.recover, h)
    | _, _, _ => none
  | .call { callee := .value f, args, .. } => (acall P (evalOp tm f) (args.toList.map (evalOp tm))).map fun n => (n, h)
  | .defer { callee := .value f, args, .. } => match evalOp tm f with
    | .func f first captured => some (.defer { tgt := .func f, args := first ++ args.toList.map (evalOp tm) ++ captured }, h)
    | _ => none
  | .panic x => match evalOp tm x with
    | .iface t v => some (.panic (.iface t v), h)
    | _ => none
  | .mapUpdate t m k x => (amapUpdate P h t (evalOp tm m) (evalOp tm k) (evalOp tm x)).map fun h => (.value .bad, h)
  | .insert t m k x => (amapUpdate P h t (evalOp tm m) (evalOp tm k) (evalOp tm x)).map fun h => (.value .bad, h)
  | _ => none

/-! ### The machine -/
/-- The order in which a region that draws its order is carried out here, with the operations that are looked at again behind each. -/
abbrev Plans := List (Nat × List (Nat × List (Nat × List Nat)))
def findA {α : Type} (n : Nat) : List (Nat × α) → Option α
  | [] => none
  | (m, x) :: l => cond (Nat.beq m n) (some x) (findA n l)

def enter (P : Program) (f : FuncId) (args : List AV) (deferred : Bool) : Option AFrame :=
  match P.funcs[f]? with
  | some fn => match fn.body with
    | some c => cond (Nat.ble args.length fn.ntmps) (some { fn := f, nt := fn.ntmps, tm := setAll .nil 0 args, todo := [.code c], defers := [], mode := .run, deferred, roundOf := none }) none
    | none => none
  | none => none
where
  setAll : Tr AV → Nat → List AV → Tr AV
    | t, _, [] => t
    | t, i, v :: vs => setAll (t.set i v) (i + 1) vs

def aexitTo (id : Nat) : List AItem → Option (List AItem)
  | .inBlock n :: k => cond (Nat.beq n id) (some k) (aexitTo id k)
  | _ :: k => aexitTo id k
  | [] => none

/-- Is an operation behind a guard to be carried out? -/
def awanted (ops : Array Oper) (tm : Tr AV) (o : Oper) : Option Bool :=
  match o.guard with
  | none => some true
  | some (j, want) => match ops[j]? with
    | some g => match g.dst with
      | some d => match tmGet tm d with
        | .bool b => some (b == want)
        | .tuple [] => some false
        | _ => none
      | none => none
    | none => none

/-- Do the operations named yield again what they have yielded? -/
def again (P : Program) (h : Heap) (tm : Tr AV) (ops : Array Oper) : List Nat → Bool
  | [] => true
  | i :: l => match ops[i]? with
    | some o => match o.dst with
      | some d => match awanted ops tm o with
        | some true => match alight P h tm o with
          | some v => AV.beq 20 v (tmGet tm d) && again P h tm ops l
          | none => false
        | some false => again P h tm ops l
        | none => false
      | none => false
    | none => false

/-! A plan for a region that draws its order. -/
/-- May the model carry out this operation later than here? -/
def late (o : Oper) : Bool :=
  match o.op with
  | .move _ | .pick .. | .build .. | .load .. | .binOp .. | .unOp .. | .convert .. | .makeInterface .. | .makeFunc .. | .slice .. | .fieldAddr .. | .field .. | .indexAddr .. | .index .. | .extract .. | .typeAssert .. | .nilCheck _ | .lookup ..
  | .alloc _ | .box .. | .buildSlice .. | .makeSlice .. | .makeMap .. => true
  | .call { callee := .builtin b, .. } => match b with
    | .len | .min | .max => true
    | _ => false
  | _ => false
/-- Does it look at the heap? -/
def reads (o : Oper) : Bool :=
  match o.op with
  | .load .. | .slice .. | .lookup .. => true
  | .call _ => true
  | _ => false
def predsOf (o : Oper) : List Nat := o.after.toList.filterMap fun e => if Region.binds .any e then some e.on else none
def tmpsOf (l : List Operand) : List Nat := l.filterMap fun | .tmp t => some t | _ => none
def guardTmp (ops : Array Oper) (o : Oper) : List Nat :=
  match o.guard with
  | some (j, _) => match ops[j]? with
    | some g => g.dst.toList
    | none => []
  | none => []
/-- The temporaries that an operation looks at. -/
def looks (ops : Array Oper) (o : Oper) : List Nat := tmpsOf o.op.operands.toList ++ guardTmp ops o
def names (ops : Array Oper) (o : Oper) : List Nat := looks ops o ++ o.dst.toList
def maskOf (acc : List Nat) (ps : List Nat) : Nat := ps.foldr (fun p s => Nat.lor (Nat.lor (2 ^ p) (acc.getD p 0)) s) 0
def masks : List Oper → List Nat → List Nat
  | [], acc => acc
  | o :: os, acc => masks os (acc ++ [maskOf acc (predsOf o)])
def hasBit (m : List Nat) (k i : Nat) : Bool := (m.getD k 0).testBit i
def distinctL : List Nat → Bool
  | [] => true
  | x :: xs => !xs.contains x && distinctL xs
def planTail (ops : Array Oper) (l : List (Oper × Nat)) (m : List Nat) : List Nat → List (Nat × List Nat) → Bool
  | _, [] => true
  | pre, (i, c) :: post =>
    (match ops[i]? with
    | none => false
    | some o => (predsOf o).all pre.contains &&
      cond (late o)
        (match o.dst with
        | none => false
        | some d => !(looks ops o).contains d && l.all fun x => Nat.beq x.2 i || !(names ops x.1).contains d || hasBit m x.2 i)
        (post.all (fun x => hasBit m x.1 i) &&
         pre.all (fun k => match ops[k]? with
          | some o' => !late o' || !reads o' || hasBit m i k || c.contains k
          | none => false) &&
         (match o.dst with
          | none => true
          | some d => l.all fun x => !late x.1 || !(names ops x.1).contains d || hasBit m x.2 i || hasBit m i x.2))) &&
    planTail ops l m (pre ++ [i]) post
def planOk (ops : Array Oper) (plan : List (Nat × List Nat)) : Bool :=
  let l := ops.toList.zipIdx
  (plan.map (·.1)).all (fun i => Nat.blt i ops.size) && distinctL (plan.map (·.1)) && Nat.beq plan.length ops.size &&
  l.all (fun x => (predsOf x.1).all fun p => Nat.blt p x.2) &&
  planTail ops l (masks ops.toList []) [] plan

/-- The value of the operation that is under way. -/
def afinish (P : Program) (h : Heap) (fr : AFrame) (v : AV) : Option AFrame :=
  match fr.todo with
  | .reg ops i (o :: rest) :: k => match tmSet fr.nt fr.tm o.dst v with
    | some tm => some { fr with tm, todo := .reg ops (i + 1) rest :: k }
    | none => none
  | .dreg ops ((i, chk) :: rest) :: k => match ops[i]? with
    | some o => match tmSet fr.nt fr.tm o.dst v with
      | some tm => cond (again P h tm ops chk) (some { fr with tm, todo := .dreg ops rest :: k }) none
      | none => none
    | none => none
  | .inRangeFunc l :: k => some { fr with todo := .endRangeFunc l :: k }
  | _ => none

/-- Amid a region that draws its order nothing is known of the temporaries behind a panic. -/
def cutTm : List AItem → Tr AV → Tr AV
  | .dreg _ _ :: _, _ => .nil
  | _, tm => tm

/-- A panic comes to a frame. -/
def araise (fr : AFrame) (vs : List APanic) : AFrame :=
  { fr with
    mode := match fr.mode with
      | .panicking chain => .panicking (vs ++ chain)
      | _ => .panicking vs
    tm := cutTm fr.todo fr.tm }

/-- A loop over a function's yields. -/
def getLoop (h : Heap) (l : Nat) : Option ALoop :=
  match h.get l with
  | some (.loop r) => some r
  | _ => none

def roundFrame (l : Nat) (r : ALoop) (args : List AV) : Option AFrame :=
  cond (Nat.beq args.length r.params.size)
    (match sets r.tm r.params.toList args with
    | some tm => some { fn := r.fn, nt := r.nt, tm, todo := [.code r.assign, .beginRound, .code r.body], defers := [], mode := .run, deferred := false, roundOf := some l }
    | none => none) none
where
  sets : Tr AV → List Tmp → List AV → Option (Tr AV)
    | t, [], _ => some t
    | t, _ :: _, [] => some t
    | t, p :: ps, a :: as_ => cond (Nat.blt p r.nt) (sets (t.set p a) ps as_) none

/-- The frame goes on with what an operation has come to. -/
def apply (P : Program) (fr : AFrame) (callers : List AFrame) : ANext → Heap → List AV → Option AMach
  | .value v, h, _ => match afinish P h fr v with
    | some fr => some { fr, callers, h }
    | none => none
  | .enter f args, h, _ => match enter P f args false with
    | some g => some { fr := g, callers := fr :: callers, h }
    | none => none
  | .round l, h, args => match getLoop h l with
    | some r => match P.funcs[r.fn]? with
      | some _ => match roundFrame l r args with
        | some g => some { fr := g, callers := fr :: callers, h }
        | none => none
      | none => none
    | none => none
  | .defer d, h, _ => match fr.roundOf with
    | none => match afinish P h { fr with defers := d :: fr.defers } .bad with
      | some fr => some { fr, callers, h }
      | none => none
    | some _ => none
  | .recover, h, _ => match fr.roundOf with
    | none => match fr.deferred, callers with
      | true, c :: rest => match c.mode with
        | .panicking ({ v, recovered := false } :: older) => match afinish P h fr v with
          | some fr => some { fr, callers := { c with mode := .panicking ({ v, recovered := true } :: older) } :: rest, h }
          | none => none
        | _ => match afinish P h fr .nili with
          | some fr => some { fr, callers, h }
          | none => none
      | _, _ => none
    | some _ => none
  | .panic v, h, _ => match v with
    | .iface _ _ => some { fr := araise fr [{ v, recovered := false }], callers, h }
    | _ => none

/-- One operation. -/
def aoper (P : Program) (fr : AFrame) (callers : List AFrame) (h : Heap) (ops : Array Oper) (o : Oper) : Option AMach :=
  match awanted ops fr.tm o with
  | some true => match alight P h fr.tm o with
    | some v => match afinish P h fr v with
      | some fr => some { fr, callers, h }
      | none => none
    | none => match afresh P h.next fr.tm o with
      | some (ob, v) => match afinish P (h.new ob) fr v with
        | some fr => some { fr, callers, h := h.new ob }
        | none => none
      | none => match aheavy P h fr.tm o with
        | some (n, h) => apply P fr callers n h (match o.op with | .call c => c.args.toList.map (evalOp fr.tm) | _ => [])
        | none => none
  | some false => match afinish P h fr (.tuple []) with
    | some fr => some { fr, callers, h }
    | none => none
  | none => none

/-- A frame is left with a value. -/
def areturn (P : Program) (fr : AFrame) (callers : List AFrame) (v : AV) (h : Heap) : Option AMach :=
  match callers with
  | [] => none
  | c :: rest => cond fr.deferred
      (match c.mode with
        | .panicking ({ recovered := true, .. } :: _) => some { fr := { c with mode := .returning }, callers := rest, h }
        | .run => none
        | _ => some { fr := c, callers := rest, h })
      (match c.mode with
        | .run => match afinish P h c v with
          | some c => some { fr := c, callers := rest, h }
          | none => none
        | _ => none)

/-- The end of a round of a loop over a function. -/
def aleave (P : Program) (fr : AFrame) (callers : List AFrame) (h : Heap) (jump : Option Code) : Option AMach :=
  match fr.roundOf with
  | none => match jump with
    | none | some .ret => some { fr := { fr with mode := .returning }, callers, h }
    | _ => none
  | some l => match getLoop h l with
    | some r => cond fr.deferred none (areturn P fr callers (.bool jump.isNone) (h.set l (.loop { r with state := if jump.isNone then .ready else .done, pending := jump })))
    | none => none

def aresults (P : Program) (h : Heap) (tm : Tr AV) : List ResultVar → Option (List AV)
  | [] => some []
  | .tmp t :: l => (aresults P h tm l).map (tmGet tm t :: ·)
  | .cell a t :: l => match aload P h t (tmGet tm a), aresults P h tm l with
    | some v, some vs => some (v :: vs)
    | _, _ => none

def exec (P : Program) (pl : Plans) (fr : AFrame) (callers : List AFrame) (h : Heap) : Option AMach :=
  let to (todo : List AItem) : Option AMach := some { fr := { fr with todo }, callers, h }
  match fr.todo with
  | [] => aleave P fr callers h none
  | .code c :: k => match c with
    | .ret => aleave P fr callers h (some .ret)
    | .skip | .label _ => to k
    | .seq a b => to (.code a :: .code b :: k)
    | .cond c thn els => match evalOp fr.tm c with
      | .bool b => to (.code (cond b thn els) :: k)
      | _ => none
    | .block id body => to (.code body :: .inBlock id :: k)
    | .loop body => to (.code body :: .inLoop body :: k)
    | .scope body => to (.code body :: .inScope body :: k)
    | .exit id => match aexitTo id k with
      | some k => to k
      | none => aleave P fr callers h (some (.exit id))
    | .region _ ops false => to (.reg ops 0 ops.toList :: k)
    | .region id ops true => match findA fr.fn pl with
      | some l => match findA id l with
        | some p => cond (planOk ops p) (to (.dreg ops p :: k)) none
        | none => none
      | none => none
    | .rangeFunc f params assign body => match fr.roundOf with
      | none =>
        let h1 := h.new (.deferred (some []))
        let l := h1.next
        let h2 := h1.new (.loop { state := .ready, pending := none, fn := fr.fn, nt := fr.nt, tm := fr.tm, params, assign, body, defers := h.next })
        match acall P (evalOp fr.tm f) [.yieldf l] with
        | some n => apply P { fr with todo := .inRangeFunc l :: k, defers := { tgt := .collected h.next, args := [] } :: fr.defers } callers n h2 [.yieldf l]
        | none => none
      | some outer => match getLoop h outer with
        | some r =>
          let l := h.next
          let h2 := h.new (.loop { state := .ready, pending := none, fn := fr.fn, nt := fr.nt, tm := fr.tm, params, assign, body, defers := r.defers })
          match acall P (evalOp fr.tm f) [.yieldf l] with
          | some n => apply P { fr with todo := .inRangeFunc l :: k } callers n h2 [.yieldf l]
          | none => none
        | none => none
    | _ => none
  | .inBlock _ :: k => to k
  | .inScope _ :: k => to k
  | .inLoop body :: k => to (.code body :: .inLoop body :: k)
  | .reg _ _ [] :: k => to k
  | .reg ops _ (o :: _) :: _ => aoper P fr callers h ops o
  | .dreg _ [] :: k => to k
  | .dreg ops ((i, _) :: _) :: _ => match ops[i]? with
    | some o => aoper P fr callers h ops o
    | none => none
  | .inRangeFunc _ :: _ => none
  | .beginRound :: k => match fr.roundOf with
    | some l => match getLoop h l with
      | some r => match r.state with
        | .ready => some { fr := { fr with todo := k }, callers, h := h.set l (.loop { r with state := .busy }) }
        | _ => none
      | none => none
    | none => none
  | .endRangeFunc l :: k => match getLoop h l with
    | some r => match r.state with
      | .busy => none
      | _ => some { fr := { fr with todo := match r.pending with | some c => .code c :: k | none => k }, callers, h := h.set l (.loop { r with state := .exhausted }) }
    | none => none

/-- The deferred calls of a frame that ends, and its end. -/
def unwind (P : Program) (fr : AFrame) (callers : List AFrame) (h : Heap) : Option AMach :=
  match fr.defers with
  | { tgt := .collected r, .. } :: ds => match h.get r with
    | some (.deferred (some calls)) => some { fr := { fr with defers := calls ++ ds }, callers, h := h.set r (.deferred none) }
    | _ => none
  | { tgt := .func f, args } :: ds => match enter P f args true with
    | some g => some { fr := g, callers := { fr with defers := ds } :: callers, h }
    | none => none
  | [] => match fr.mode with
    | .run => none
    | .panicking chain => match callers with
      | c :: rest => some { fr := araise c chain, callers := rest, h }
      | [] => none
    | .returning => match P.funcs[fr.fn]? with
      | some fn => match aresults P h fr.tm fn.results.toList with
        | some [v] => areturn P fr callers v h
        | some vs => areturn P fr callers (.tuple vs) h
        | none => none
      | none => none

def astep (P : Program) (pl : Plans) (m : AMach) : Option AMach :=
  match m.fr.mode with
  | .run => exec P pl m.fr m.callers m.h
  | _ => unwind P m.fr m.callers m.h

def arun (P : Program) (pl : Plans) : Nat → AMach → Option AMach
  | 0, m => some m
  | n + 1, m => match astep P pl m with
    | some m => arun P pl n m
    | none => none

/-- Has the call of f come to its end? -/
def done (P : Program) (f : FuncId) (m : AMach) : Option AV :=
  match m.callers, m.fr.mode, m.fr.defers with
  | [], .returning, [] => cond (Nat.beq m.fr.fn f && !m.fr.deferred) (match P.funcs[m.fr.fn]? with
    | some fn => match aresults P m.h m.fr.tm fn.results.toList with
      | some [v] => some v
      | some vs => some (.tuple vs)
      | none => none
    | none => none) none
  | _, _, _ => none
end
end Go.Abs
