/- Texts of the claim: AbsDef. -/
import Derived.Calls
import Derived.Test.YtildjgdhdcoojaaDoorZ00
set_option linter.unusedVariables false
set_option linter.unusedSimpArgs false
namespace Go.a9
noncomputable section
inductive AV where
 | bad
 | bool (b : Bool)
 | int (k : IntKind) (n : Int)
 | str (s : ByteArray)
 | fe
 | ptr (b off : Nat)
 | fT (cs : List AV)
 | aV
 | slice (b off len sz : Nat)
 | bY (cs : List AV) (len sz : Nat)
 | fK
 | map (b : Nat)
 | fB
 | func (fn : FuncId) (first captured : List AV)
 | aF (l : Nat)
 | cW
 | iface (t : TypeId) (v : AV)
 | agg (cs : List AV)
 | tuple (vs : List AV)
def cO {α : Type} (f : α -> α -> Bool) : List α -> List α -> Bool
 | [], [] => true
 | x :: xs, y :: ys => f x y && cO f xs ys
 | _, _ => false
def AV.beq : Nat -> AV -> AV -> Bool
 | 0, _, _ => false
 | f + 1, x, y => match x, y with
  | .bool a, .bool b => a == b
  | .int j a, .int k b => decide (j = k) && decide (a = b)
  | .str a, .str b => decide (a = b)
  | .fe, .fe => true
  | .ptr a i, .ptr b j => Nat.beq a b && Nat.beq i j
  | .fT a, .fT b => cO (AV.beq f) a b
  | .aV, .aV => true
  | .slice a i m s, .slice b j n t => Nat.beq a b && Nat.beq i j && Nat.beq m n && Nat.beq s t
  | .bY a m s, .bY b n t => cO (AV.beq f) a b && Nat.beq m n && Nat.beq s t
  | .fK, .fK => true
  | .map a, .map b => Nat.beq a b
  | .fB, .fB => true
  | .func a x u, .func b y v => Nat.beq a b && cO (AV.beq f) x y && cO (AV.beq f) u v
  | .aF a, .aF b => Nat.beq a b
  | .cW, .cW => true
  | .iface t a, .iface u b => Nat.beq t u && AV.beq f a b
  | .agg a, .agg b => cO (AV.beq f) a b
  | .tuple a, .tuple b => cO (AV.beq f) a b
  | _, _ => false
def CK : Value -> AV
 | .bool b => .bool b
 | .int k n => .int k n
 | .string s => .str s
 | .pointer none => .fe
 | .slice none 0 0 => .aV
 | .map none => .fK
 | .nilFunc => .fB
 | .nilIface => .cW
 | _ => .bad
def x8 : Value -> AV
 | .agg cs => .agg (cs.toList.map CK)
 | .tuple vs => .tuple (vs.toList.map CK)
 | v => CK v
def AV.one : AV -> Bool
 | .agg _ | .tuple _ | .bad => false
 | _ => true
def AV.cells : AV -> List AV
 | .agg cs => cs
 | v => [v]
inductive Em where
 | func (f : FuncId)
 | collected (r : Nat)
structure iZ where
 yj : Em
 args : List AV
structure fS where
 state : LoopState
 pending : Option Code
 fn : FuncId
 nt : Nat
 tm : Tr AV
 params : Array Tmp
 assign : Code
 body : Code
 defers : Nat
structure dH where
 key : AV
 val : AV
 born : Nat
inductive fO where
 | cells (cs : List AV)
 | map (es : List dH) (clock : Nat)
 | loop (l : fS)
 | deferred (ds : Option (List iZ))
structure ah where
 next : Nat
 t : Tr fO
def ah.get (h : ah) (b : Nat) : Option fO := h.t.get b
def ah.set (h : ah) (b : Nat) (o : fO) : ah := { h with t := h.t.set b o }
def ah.kill (h : ah) (b : Nat) : ah := { h with t := h.t.erase b }
def ah.new (h : ah) (o : fO) : ah := { next := h.next + 1, t := h.t.set h.next o }
structure jK where
 v : AV
 recovered : Bool
inductive qO where
 | run
 | returning
 | panicking (chain : List jK)
inductive bu where
 | code (c : Code)
 | inBlock (id : Nat)
 | inLoop (body : Code)
 | inScope (body : Code)
 | kP (ops : Array Oper) (i : Nat) (rest : List Oper)
 | cU (ops : Array Oper) (rest : List (Nat × List Nat))
 | inRangeFunc (l : Nat)
 | endRangeFunc (l : Nat)
 | beginRound
structure ak where
 fn : FuncId
 nt : Nat
 tm : Tr AV
 todo : List bu
 defers : List iZ
 mode : qO
 deferred : Bool
 roundOf : Option Nat
structure bc where
 fr : ak
 callers : List ak
 h : ah
def CR : List (Nat × List AV) := [(0, [.func 65 [] [], .func 140 [] []])]
def gv (g : Nat) : AV := match CR.lookup g with
 | some cs => .fT cs
 | none => .bad
def bJ (tm : Tr AV) (t : Nat) : AV := match tm.get t with | some v => v | none => .bad
def evalOp (tm : Tr AV) : Operand -> AV
 | .tmp t => bJ tm t
 | .const v => x8 v
 | .global g => gv g
 | .func f => .func f [] []
def jg (nt : Nat) (tm : Tr AV) : Option Tmp -> AV -> Option (Tr AV)
 | none, _ => some tm
 | some d, v => cond (Nat.blt d nt) (some (tm.set d v)) none
def aA (P : Program) (t : TypeId) : Option Nat := (P.info? t).map (·.size)
def bB (P : Program) (t : TypeId) : Option Bool :=
 match P.underlying t with
 | some (.struct _) | some (.array _ _) => some true
 | some _ => some false
 | none => none
def takeN : Nat -> List AV -> Option (List AV)
 | 0, _ => some []
 | n + 1, x :: xs => (takeN n xs).map (x :: ·)
 | _ + 1, [] => none
def gk (P : Program) (t : TypeId) (cs : List AV) : Option AV :=
 match bB P t with
 | some true => match aA P t with
  | some n => (takeN n cs).map .agg
  | none => none
 | some false => match cs with
  | c :: _ => some c
  | [] => none
 | none => none
def rowAt (h : ah) : AV -> Option (List AV)
 | .ptr b off => match h.get b with
  | some (.cells cs) => some (cs.drop off)
  | _ => none
 | .fT cs => some cs
 | _ => none
def fE (P : Program) (h : ah) (t : TypeId) (a : AV) : Option AV :=
 match rowAt h a with
 | some cs => gk P t cs
 | none => none
def gq (n : Nat) : AV -> Option AV
 | .ptr b off => some (.ptr b (off + n))
 | .fT cs => some (.fT (cs.drop n))
 | _ => none
def jr (P : Program) (s : TypeId) (f : Nat) : Option Field :=
 match P.underlying s with
 | some (.struct fields) => fields[f]?
 | _ => none
def dX (P : Program) (s : TypeId) (a : AV) (f : Nat) : Option AV :=
 match jr P s f with
 | some fd => match aA P fd.type with
  | some (_ + 1) => gq fd.offset a
  | _ => none
 | none => none
def eD (P : Program) (t : TypeId) (cs : List AV) (off : Nat) : Option AV := gk P t (cs.drop off)
def pT (P : Program) (s : TypeId) (x : AV) (f : Nat) : Option AV :=
 match x with
 | .agg cs => match jr P s f with
  | some fd => eD P fd.type cs fd.offset
  | none => none
 | _ => none
def idx (n : Int) (len : Nat) : Option Nat :=
 match n with
 | .ofNat m => cond (Nat.blt m len) (some m) none
 | _ => none
def cE (P : Program) (t : TypeId) (x ix : AV) : Option AV :=
 match ix with
 | .int _ n => match P.underlying t with
  | some (.array len elem) => match x with
   | .ptr _ _ | .fT _ => match idx n len, aA P elem with
    | some i, some s => gq (i * s) x
    | _, _ => none
   | _ => none
  | some (.slice elem) => match x with
   | .slice b off len sz => match idx n len, aA P elem with
    | some i, some s => cond (Nat.beq s sz) (some (.ptr b (off + i * s))) none
    | _, _ => none
   | .bY cs len sz => match idx n len, aA P elem with
    | some i, some s => cond (Nat.beq s sz) (some (.fT (cs.drop (i * s)))) none
    | _, _ => none
   | _ => none
  | _ => none
 | _ => none
def pS (P : Program) (t : TypeId) (x ix : AV) : Option AV :=
 match ix with
 | .int _ n => match P.underlying t with
  | some (.array len elem) => match x with
   | .agg cs => match idx n len, aA P elem with
    | some i, some s => eD P elem cs (i * s)
    | _, _ => none
   | _ => none
  | some .string => match x with
   | .str s => match idx n s.size with
    | some i => match s[i]? with
     | some b => some (.int .u8 b.toNat)
     | none => none
    | none => none
   | _ => none
  | _ => none
 | _ => none
def bounds (len : Nat) (lo hi : Option AV) : Option (Nat × Nat) :=
 match (match hi with | none => some len | some (.int _ n) => idx n (len + 1) | some _ => none) with
 | none => none
 | some h => match (match lo with | none => some 0 | some (.int _ n) => idx n (h + 1) | some _ => none) with
  | none => none
  | some l => some (l, h)
def jJ (P : Program) (h : ah) (t : TypeId) (x : AV) (lo hi : Option AV) : Option AV :=
 match P.underlying t with
 | some (.array n elem) => match x with
  | .ptr b off => match h.get b, bounds n lo hi, aA P elem with
   | some (.cells cs), some (l, m), some s => cond (Nat.ble (off + n * s) cs.length) (some (.slice b (off + l * s) (m - l) s)) none
   | _, _, _ => none
  | _ => none
 | some .string => match x with
  | .str s => match bounds s.size lo hi with
   | some (l, m) => some (.str (s.extract l m))
   | none => none
  | _ => none
 | some (.slice elem) => match x with
  | .aV => match bounds 0 lo hi with
   | some _ => (aA P elem).map fun _ => .aV
   | none => none
  | .slice b off len sz => match bounds len lo hi, aA P elem with
   | some (l, m), some s => cond (Nat.beq s sz) (some (.slice b (off + l * s) (m - l) s)) none
   | _, _ => none
  | .bY cs len sz => match bounds len lo hi, aA P elem with
   | some (l, m), some s => cond (Nat.beq s sz) (some (.bY (cs.drop (l * s)) (m - l) s)) none
   | _, _ => none
  | _ => none
 | _ => none
def iV (k : IntKind) (n : Int) : Int :=
 match k, n with
 | .i64, .ofNat m => cond (Nat.blt m 9223372036854775808) (.ofNat m) (k.wrap n)
 | .i64, .negSucc m => cond (Nat.blt m 9223372036854775808) (.negSucc m) (k.wrap n)
 | .u64, .ofNat m => cond (Nat.blt m 18446744073709551616) (.ofNat m) (k.wrap n)
 | _, _ => k.wrap n
def wT : Sem Value -> Option AV
 | .pure v => some (x8 v)
 | _ => none
def ju (op : BinOp) (k : IntKind) (a b : Int) : Option AV :=
 match op with
 | .add => some (.int k (iV k (Int.add a b)))
 | .sub => some (.int k (iV k (Int.sub a b)))
 | .mul => some (.int k (iV k (Int.mul a b)))
 | .quo => cond (decide (b = 0)) none (some (.int k (iV k (Int.tdiv a b))))
 | .rem => cond (decide (b = 0)) none (some (.int k (Int.tmod a b)))
 | .eql => some (.bool (decide (a = b)))
 | .neq => some (.bool (!decide (a = b)))
 | .lss => some (.bool (decide (a < b)))
 | .leq => some (.bool (decide (a <= b)))
 | .gtr => some (.bool (decide (b < a)))
 | .geq => some (.bool (decide (b <= a)))
 | _ => wT (Op.intBits op k a b)
def dD (P : Program) : Nat -> TypeId -> AV -> AV -> Option Bool
 | 0, _, _, _ => none
 | d + 1, t, x, y => match P.underlying t with
  | some .bool => match x, y with
   | .bool a, .bool b => some (a == b)
   | _, _ => none
  | some (.int _) => match x, y with
   | .int j a, .int k b => cond (decide (j = k)) (some (decide (a = b))) none
   | _, _ => none
  | some .string => match x, y with
   | .str a, .str b => some (decide (a = b))
   | _, _ => none
  | some (.pointer _) => match x, y with
   | .fe, .fe => some true
   | .fe, .ptr _ _ | .ptr _ _, .fe | .fe, .fT _ | .fT _, .fe => some false
   | _, _ => none
  | some (.interface _) => match x, y with
   | .cW, .cW => some true
   | .cW, .iface _ _ | .iface _ _, .cW => some false
   | _, _ => none
  | some (.struct fields) => match x, y with
   | .agg xs, .agg ys => cond (P.stoodInHeld t) none (fields.toList.foldr (fun f r =>
     cond (decide (f.name = "_")) r (match eD P f.type xs f.offset, eD P f.type ys f.offset with
      | some a, some b => match dD P d f.type a b with
       | some true => r
       | some false => some false
       | none => none
      | _, _ => none)) (some true))
   | _, _ => none
  | some (.array len elem) => match x, y with
   | .agg xs, .agg ys => match aA P elem with
    | some n => (List.range len).foldr (fun i r => match eD P elem xs (i * n), eD P elem ys (i * n) with
      | some a, some b => match dD P d elem a b with
       | some true => r
       | some false => some false
       | none => none
      | _, _ => none) (some true)
    | none => none
   | _, _ => none
  | some (.slice _) => match x, y with
   | .aV, .aV => some true
   | .aV, .slice _ _ _ _ | .slice _ _ _ _, .aV | .aV, .bY _ _ _ | .bY _ _ _, .aV => some false
   | _, _ => none
  | some (.map _ _) => match x, y with
   | .fK, .fK => some true
   | .fK, .map _ | .map _, .fK => some false
   | _, _ => none
  | some (.func _ _ _) => match x, y with
   | .fB, .fB => some true
   | .fB, .func _ _ _ | .func _ _ _, .fB => some false
   | _, _ => none
  | _ => none
def isConst : Operand -> Bool
 | .const _ => true
 | _ => false
def iq (P : Program) (t : TypeId) (x y : Operand) (a b : AV) : Bool :=
 match a, b with
 | .cW, .cW => isConst x || isConst y
 | .agg _, .agg _ => !P.eqGuardType P.depth t
 | _, _ => true
def nQ (P : Program) (op : BinOp) (t : TypeId) (x y : Operand) (a b : AV) : Option AV :=
 match a, b with
 | .int j m, .int k n => match op with
  | .shl => cond (decide (n < 0)) none (some (.int j (iV j (Int.mul m (2 ^ min n.toNat j.bits)))))
  | .shr => cond (decide (n < 0)) none (some (.int j (Int.fdiv m (2 ^ min n.toNat j.bits))))
  | _ => cond (decide (j = k)) (ju op j m n) none
 | .str s, .str u => wT (Op.stringOp op s u)
 | .bad, _ | _, .bad => none
 | _, _ => match op with
  | .eql => cond (iq P t x y a b) ((dD P 10000 t a b).map .bool) none
  | .neq => cond (iq P t x y a b) ((dD P 10000 t a b).map fun r => .bool !r) none
  | _ => none
def Eg (op : UnOp) (x : AV) : Option AV :=
 match op, x with
 | .neg, .int k n => some (.int k (iV k (Int.sub 0 n)))
 | .not, .bool b => some (.bool !b)
 | .xor, .int k n => wT (Op.unary .xor (.int k n))
 | _, _ => none
def tp (P : Program) (src dst : TypeId) (x : AV) : Option AV :=
 match P.underlying src, P.underlying dst with
 | some _, some (.int k) => match x with
  | .int _ n => some (.int k (iV k n))
  | _ => none
 | some _, some .string => match x with
  | .str s => some (.str s)
  | _ => none
 | _, _ => none
def fP (P : Program) (t : TypeId) : Option AV :=
 match P.info? t with
 | some i => i.zero.map x8
 | none => none
def aB (cs : List AV) (off : Nat) (vs : List AV) : List AV := cs.take off ++ vs ++ cs.drop (off + vs.length)
def eP (place : Nat -> Option (Nat × Nat)) (cells : List AV) : List (Nat × AV) -> Option (List AV)
 | [] => some cells
 | (i, v) :: rest => match v with
  | .bad => none
  | _ => match place i with
   | none => none
   | some (off, size) => cond (Nat.beq v.cells.length size && Nat.ble (off + v.cells.length) cells.length)
     (eP place (aB cells off v.cells) rest) none
def placesOf (P : Program) : List Field -> Option (List (Nat × Nat))
 | [] => some []
 | f :: fs => match aA P f.type, placesOf P fs with
  | some s, some l => some ((f.offset, s) :: l)
  | _, _ => none
def tu (P : Program) (t : TypeId) (parts : List (Nat × AV)) : Option AV :=
 match fP P t with
 | some (.agg z) => match P.underlying t with
  | some (.struct fields) => match placesOf P fields.toList with
   | some l => (eP (fun i => l[i]?) z parts).map .agg
   | none => none
  | some (.array _ elem) => match aA P elem with
   | some s => (eP (fun i => some (i * s, s)) z parts).map .agg
   | none => none
  | _ => none
 | _ => none
def isIface (P : Program) (t : TypeId) : Option Bool :=
 match P.underlying t with
 | some (.interface _) => some true
 | some _ => some false
 | none => none
def fk (P : Program) (x : AV) (asserted : TypeId) (commaOk : Bool) : Option AV :=
 match isIface P asserted with
 | some false => match x with
  | .iface t v => cond (Nat.beq t asserted) (some (cond commaOk (.tuple [v, .bool true]) v))
    (cond commaOk ((fP P asserted).map fun z => .tuple [z, .bool false]) none)
  | .cW => cond commaOk ((fP P asserted).map fun z => .tuple [z, .bool false]) none
  | _ => none
 | _ => none
def rf (P : Program) (h : ah) (t : TypeId) (x : AV) : Option AV :=
 match P.underlying t with
 | some .string => match x with
  | .str s => some (.int .i64 s.size)
  | _ => none
 | some (.array n _) => some (.int .i64 n)
 | some (.slice _) => match x with
  | .slice _ _ n _ | .bY _ n _ => some (.int .i64 n)
  | .aV => some (.int .i64 0)
  | _ => none
 | some (.map _ _) => match x with
  | .fK => some (.int .i64 0)
  | .map b => match h.get b with
   | some (.map es _) => some (.int .i64 es.length)
   | _ => none
  | _ => none
 | _ => none
def Ab (x y : AV) : Option AV :=
 match x, y with
 | .int k a, .int _ b => some (.int k (cond (decide (b < a)) b a))
 | _, _ => none
def Ac (x y : AV) : Option AV :=
 match x, y with
 | .int k a, .int _ b => some (.int k (cond (decide (a < b)) b a))
 | _, _ => none
def qC (f : AV -> AV -> Option AV) : AV -> List AV -> Option AV
 | a, [] => some a
 | a, x :: xs => match f a x with
  | some b => qC f b xs
  | none => none
def pick (c a b : AV) : Option AV :=
 match c with
 | .bool true => some a
 | .bool false => some b
 | _ => none
def fA (tm : Tr AV) : Option Operand -> Option AV
 | none => none
 | some x => some (evalOp tm x)
def vF (d : TypeDesc) (x y : AV) : Option Bool :=
 match d with
 | .int _ => match x, y with
  | .int j a, .int k b => cond (decide (j = k)) (some (decide (a = b))) none
  | _, _ => none
 | .string => match x, y with
  | .str a, .str b => some (decide (a = b))
  | _, _ => none
 | .bool => match x, y with
  | .bool a, .bool b => some (a == b)
  | _, _ => none
 | _ => none
def iC (d : TypeDesc) : Bool :=
 match d with
 | .int _ | .string | .bool => true
 | _ => false
def BH (P : Program) (kt : TypeId) (d : TypeDesc) (x y : AV) : Option Bool := cond (iC d) (vF d x y) (dD P 10000 kt x y)
def sQ (P : Program) : Nat -> TypeId -> AV -> Bool
 | 0, _, _ => false
 | n + 1, t, v => match P.underlying t with
  | some (.struct fields) => match v with
   | .agg cs => fields.toList.all fun f => decide (f.name = "_") || (match eD P f.type cs f.offset with
    | some x => sQ P n f.type x
    | none => false)
   | _ => false
  | some (.array len elem) => match v with
   | .agg cs => match aA P elem with
    | some s => (List.range len).all fun i => match eD P elem cs (i * s) with
     | some x => sQ P n elem x
     | none => false
    | none => false
   | _ => false
  | some (.interface _) => false
  | some _ => true
  | none => false
def wL : Nat -> AV -> AV -> Bool
 | 0, _, _ => false
 | n + 1, x, y => match x, y with
  | .bool a, .bool b => a == b
  | .int j a, .int k b => decide (j = k) && decide (a = b)
  | .str a, .str b => decide (a = b)
  | .agg xs, .agg ys => cO (wL n) xs ys
  | _, _ => false
def j5 (P : Program) (kt : TypeId) (d : TypeDesc) (x : AV) : List dH -> Nat -> Option (Option (Nat × AV × AV))
 | [], _ => some none
 | e :: es, i => match BH P kt d x e.key with
  | some true => some (some (i, e.key, e.val))
  | some false => j5 P kt d x es (i + 1)
  | none => none
def entriesOf (h : ah) : AV -> Option (List dH)
 | .fK => some []
 | .map b => match h.get b with
  | some (.map es _) => some es
  | _ => none
 | _ => none
def mapOf (P : Program) (t : TypeId) : Option (TypeId × TypeDesc × TypeId) :=
 match P.underlying t with
 | some (.map kt et) => match P.underlying kt with
  | some d => some (kt, d, et)
  | none => none
 | _ => none
def mI (P : Program) (h : ah) (t : TypeId) (x ix : AV) (ok : Bool) : Option AV :=
 match mapOf P t with
 | some (kt, d, et) => match entriesOf h x with
  | some es => cond (sQ P 10000 kt ix) (match j5 P kt d ix es 0 with
   | some (some (_, _, v)) => some (cond ok (.tuple [v, .bool true]) v)
   | some none => (fP P et).map fun z => cond ok (.tuple [z, .bool false]) z
   | none => none) none
  | none => none
 | none => none
def bz (P : Program) (h : ah) (tm : Tr AV) (o : Oper) : Option AV :=
 match o.op with
 | .move x => some (evalOp tm x)
 | .assign x => some (evalOp tm x)
 | .pick c a b => pick (evalOp tm c) (evalOp tm a) (evalOp tm b)
 | .build t parts => tu P t (parts.toList.map fun p => (p.1, evalOp tm p.2))
 | .load t a => fE P h t (evalOp tm a)
 | .binOp op t x y _ => nQ P op t x y (evalOp tm x) (evalOp tm y)
 | .unOp op _ x => Eg op (evalOp tm x)
 | .convert s d x => tp P s d (evalOp tm x)
 | .makeInterface t x => match isIface P t with
  | some false => some (.iface t (evalOp tm x))
  | _ => none
 | .makeFunc (.func f) first captured => some (.func f (first.toList.map (evalOp tm)) (captured.toList.map (evalOp tm)))
 | .slice t x lo hi none => jJ P h t (evalOp tm x) (fA tm lo) (fA tm hi)
 | .fieldAddr s x f => dX P s (evalOp tm x) f
 | .field s x f => pT P s (evalOp tm x) f
 | .indexAddr t x i => cE P t (evalOp tm x) (evalOp tm i)
 | .index t x i => pS P t (evalOp tm x) (evalOp tm i)
 | .extract x i => match evalOp tm x with
  | .tuple vs => vs[i]?
  | _ => none
 | .typeAssert x _ t ok => fk P (evalOp tm x) t ok
 | .lookup t x ix ok => mI P h t (evalOp tm x) (evalOp tm ix) ok
 | .nilCheck x => match evalOp tm x with
  | .ptr b off => some (.ptr b off)
  | .fT cs => some (.fT cs)
  | .func f a b => some (.func f a b)
  | .aF l => some (.aF l)
  | _ => none
 | .call { callee := .builtin b, args, argTypes } => match b, args.toList with
  | .len, [x] => match argTypes.toList with
   | t :: _ => rf P h t (evalOp tm x)
   | [] => none
  | .min, x :: xs => qC Ab (evalOp tm x) (xs.map (evalOp tm))
  | .max, x :: xs => qC Ac (evalOp tm x) (xs.map (evalOp tm))
  | _, _ => none
 | _ => none
def dE (zero : List AV) : Nat -> List AV
 | 0 => []
 | n + 1 => zero ++ dE zero n
def bH (P : Program) (next : Nat) (tm : Tr AV) (o : Oper) : Option (fO × AV) :=
 match o.op with
 | .alloc t => match fP P t with
  | some z => cond (z.cells.all AV.one) (some (.cells z.cells, .ptr next 0)) none
  | none => none
 | .box _ x => match evalOp tm x with
  | .bad => none
  | v => cond (v.cells.all AV.one) (some (.cells v.cells, .ptr next 0)) none
 | .buildSlice t len parts => match P.underlying t with
  | some (.slice e) => match aA P e, fP P e with
   | some s, some z => cond (Nat.beq z.cells.length s && Nat.blt 0 s && Nat.ble (len * s) 16777216 && z.cells.all AV.one)
     (match eP (fun i => some (i * s, s)) (dE z.cells len) (parts.toList.map fun p => (p.1, evalOp tm p.2)) with
      | some cs => cond (cs.all AV.one) (some (.cells cs, .slice next 0 len s)) none
      | none => none) none
   | _, _ => none
  | _ => none
 | .makeSlice t l c => match P.underlying t with
  | some (.slice e) => match P.info? e, fP P e, evalOp tm l, evalOp tm c with
   | some i, some z, .int _ (.ofNat m), .int _ (.ofNat n) =>
    cond (Nat.beq z.cells.length i.size && Nat.blt 0 i.size && Nat.beq m n && Nat.ble (n * i.bytes) 140737488355328 && Nat.ble n 4611686018427387904 && z.cells.all AV.one)
     (some (.cells (dE z.cells n), .slice next 0 n i.size)) none
   | _, _, _, _ => none
  | _ => none
 | .makeMap t r => match r with
  | none => some (.map [] 0, .map next)
  | some x => match P.underlying t, evalOp tm x with
   | some (.map _ _), .int _ _ => some (.map [] 0, .map next)
   | _, _ => none
 | _ => none
inductive j9 where
 | value (v : AV)
 | enter (f : FuncId) (args : List AV)
 | round (l : Nat)
 | defer (d : iZ)
 | recover
 | panic (v : AV)
def gA (P : Program) (h : ah) (t : TypeId) (a v : AV) : Option ah :=
 match a with
 | .ptr b off => match h.get b with
  | some (.cells cs) => match aA P t with
   | some s => cond (Nat.beq v.cells.length s && Nat.ble (off + s) cs.length && v.cells.all AV.one)
     (some (h.set b (.cells (aB cs off v.cells)))) none
   | none => none
  | _ => none
 | _ => none
def elems (h : ah) (sz : Nat) : AV -> Option (Nat × List AV)
 | .aV => some (0, [])
 | .slice b off len s => match h.get b with
  | some (.cells cs) => cond (Nat.beq s sz) ((takeN (len * s) (cs.drop off)).map fun l => (len, l)) none
  | _ => none
 | .bY cs len s => cond (Nat.beq s sz) ((takeN (len * s) cs).map fun l => (len, l)) none
 | _ => none
def Eo : AV -> Option Nat
 | .slice b _ _ _ => some b
 | _ => none
def da (h : ah) (size bytes : Nat) (s : AV) (n : Nat) (new : List AV) : Option (AV × ah) :=
 match s with
 | .aV => match n with
  | 0 => some (.aV, h)
  | _ + 1 => cond (Nat.ble ((2 * n + 1024) * bytes) 140737488355328 && Nat.ble n 2305843009213693952 && new.all AV.one)
    (some (.slice h.next 0 n size, h.new (.cells new))) none
 | .slice b off len sz => match elems h size (.slice b off len sz) with
  | some (_, old) => match n with
   | 0 => some (.slice b off len sz, h)
   | _ + 1 => cond (Nat.ble ((2 * (len + n) + 1024) * bytes) 140737488355328 && Nat.ble (len + n) 2305843009213693952 && new.all AV.one)
     (some (.slice h.next 0 (len + n) size, (h.kill b).new (.cells (old ++ new)))) none
  | none => none
 | _ => none
def appended (h : ah) (zero : List AV) (size : Nat) (xd : TypeDesc) (x : AV) : Option (Nat × List AV) :=
 match xd with
 | .int _ => match x with
  | .int _ (.ofNat n) => cond (Nat.ble n 4611686018427387904) (some (n, dE zero n)) none
  | _ => none
 | _ => elems h size x
def gR (P : Program) (h : ah) (st xt : TypeId) (s x : AV) : Option (AV × ah) :=
 match P.underlying st with
 | some (.slice e) => match P.info? e, fP P e, P.underlying xt with
  | some i, some z, some xd =>
   cond (Nat.beq z.cells.length i.size && Nat.blt 0 i.size && z.cells.all AV.one)
   (match appended h z.cells i.size xd x with
   | some (n, new) => da h i.size i.bytes s n new
   | none => none) none
  | _, _, _ => none
 | _ => none
def uX (P : Program) (h : ah) (dt : TypeId) (d s : AV) : Option (AV × ah) :=
 match P.underlying dt with
 | some (.slice e) => match aA P e with
  | some sz => match elems h sz s, d with
   | some (_, _), .aV => some (.int .i64 0, h)
   | some (n, new), .slice b off len sz' => match h.get b with
    | some (.cells cs) => cond (Nat.beq sz sz' && Nat.ble (off + len * sz) cs.length && new.all AV.one)
      (some (.int .i64 (Nat.min n len), h.set b (.cells (aB cs off (new.take (Nat.min n len * sz)))))) none
    | _ => none
   | _, _ => none
  | none => none
 | _ => none
def me (P : Program) (f : AV) (args : List AV) : Option j9 :=
 match f with
 | .func f first captured => match P.funcs[f]? with
  | some fn => match fn.body with
   | some _ => some (.enter f (first ++ args ++ captured))
   | none => none
  | none => none
 | .aF l => some (.round l)
 | _ => none
def BE (i : Nat) (k v : AV) : List dH -> List dH
 | [] => []
 | e :: es => match i with
  | 0 => { key := k, val := v, born := e.born } :: es
  | j + 1 => e :: BE j k v es
def gC (P : Program) (h : ah) (t : TypeId) (m k v : AV) : Option ah :=
 match mapOf P t with
 | some (kt, d, _) => match m with
  | .map b => match h.get b with
   | some (.map es clock) => cond (sQ P 10000 kt k) (match j5 P kt d k es 0 with
    | some (some (i, old, _)) => cond (wL 10000 old k) (some (h.set b (.map (BE i k v es) clock))) none
    | some none => some (h.set b (.map (es ++ [{ key := k, val := v, born := clock }]) (clock + 1)))
    | none => none) none
   | _ => none
  | _ => none
 | none => none
def cQ (P : Program) (h : ah) (tm : Tr AV) (o : Oper) : Option (j9 × ah) :=
 match o.op with
 | .store t a x => (gA P h t (evalOp tm a) (evalOp tm x)).map fun h => (.value .bad, h)
 | .call { callee := .builtin b, args, argTypes } => match b, args.toList, argTypes.toList with
  | .append, [s, x], [st, xt] => (gR P h st xt (evalOp tm s) (evalOp tm x)).map fun r => (.value r.1, r.2)
  | .copy, [d, s], t :: _ => (uX P h t (evalOp tm d) (evalOp tm s)).map fun r => (.value r.1, r.2)
  | .recover, [], _ => some (.recover, h)
  | _, _, _ => none
 | .call { callee := .value f, args, .. } => (me P (evalOp tm f) (args.toList.map (evalOp tm))).map fun n => (n, h)
 | .defer { callee := .value f, args, .. } => match evalOp tm f with
  | .func f first captured => some (.defer { yj := .func f, args := first ++ args.toList.map (evalOp tm) ++ captured }, h)
  | _ => none
 | .panic x => match evalOp tm x with
  | .iface t v => some (.panic (.iface t v), h)
  | _ => none
 | .mapUpdate t m k x => (gC P h t (evalOp tm m) (evalOp tm k) (evalOp tm x)).map fun h => (.value .bad, h)
 | .insert t m k x => (gC P h t (evalOp tm m) (evalOp tm k) (evalOp tm x)).map fun h => (.value .bad, h)
 | _ => none
abbrev fR := List (Nat × List (Nat × List (Nat × List Nat)))
def b9 {α : Type} (n : Nat) : List (Nat × α) -> Option α
 | [] => none
 | (m, x) :: l => cond (Nat.beq m n) (some x) (b9 n l)
def enter (P : Program) (f : FuncId) (args : List AV) (deferred : Bool) : Option ak :=
 match P.funcs[f]? with
 | some fn => match fn.body with
  | some c => cond (Nat.ble args.length fn.ntmps) (some { fn := f, nt := fn.ntmps, tm := fc .nil 0 args, todo := [.code c], defers := [], mode := .run, deferred, roundOf := none }) none
  | none => none
 | none => none
where
 fc : Tr AV -> Nat -> List AV -> Tr AV
  | t, _, [] => t
  | t, i, v :: vs => fc (t.set i v) (i + 1) vs
def cS (id : Nat) : List bu -> Option (List bu)
 | .inBlock n :: k => cond (Nat.beq n id) (some k) (cS id k)
 | _ :: k => cS id k
 | [] => none
def aY (ops : Array Oper) (tm : Tr AV) (o : Oper) : Option Bool :=
 match o.guard with
 | none => some true
 | some (j, want) => match ops[j]? with
  | some g => match g.dst with
   | some d => match bJ tm d with
    | .bool b => some (b == want)
    | .tuple [] => some false
    | _ => none
   | none => none
  | none => none
def again (P : Program) (h : ah) (tm : Tr AV) (ops : Array Oper) : List Nat -> Bool
 | [] => true
 | i :: l => match ops[i]? with
  | some o => match o.dst with
   | some d => match aY ops tm o with
    | some true => match bz P h tm o with
     | some v => AV.beq 20 v (bJ tm d) && again P h tm ops l
     | none => false
    | some false => again P h tm ops l
    | none => false
   | none => false
  | none => false
def late (o : Oper) : Bool :=
 match o.op with
 | .move _ | .pick .. | .build .. | .load .. | .binOp .. | .unOp .. | .convert .. | .makeInterface .. | .makeFunc .. | .slice .. | .fieldAddr .. | .field .. | .indexAddr .. | .index .. | .extract .. | .typeAssert .. | .nilCheck _ | .lookup ..
 | .alloc _ | .box .. | .buildSlice .. | .makeSlice .. | .makeMap .. => true
 | .call { callee := .builtin b, .. } => match b with
  | .len | .min | .max => true
  | _ => false
 | _ => false
def reads (o : Oper) : Bool :=
 match o.op with
 | .load .. | .slice .. | .lookup .. => true
 | .call _ => true
 | _ => false
def cI (o : Oper) : List Nat := o.after.toList.filterMap fun e => if Region.binds .any e then some e.on else none
def tmpsOf (l : List Operand) : List Nat := l.filterMap fun | .tmp t => some t | _ => none
def jY (ops : Array Oper) (o : Oper) : List Nat :=
 match o.guard with
 | some (j, _) => match ops[j]? with
  | some g => g.dst.toList
  | none => []
 | none => []
def looks (ops : Array Oper) (o : Oper) : List Nat := tmpsOf o.op.operands.toList ++ jY ops o
def names (ops : Array Oper) (o : Oper) : List Nat := looks ops o ++ o.dst.toList
def sL (acc : List Nat) (ps : List Nat) : Nat := ps.foldr (fun p s => Nat.lor (Nat.lor (2 ^ p) (acc.getD p 0)) s) 0
def xb : List Oper -> List Nat -> List Nat
 | [], acc => acc
 | o :: os, acc => xb os (acc ++ [sL acc (cI o)])
def nH (m : List Nat) (k i : Nat) : Bool := (m.getD k 0).testBit i
def cz : List Nat -> Bool
 | [] => true
 | x :: xs => !xs.contains x && cz xs
def oe (ops : Array Oper) (l : List (Oper × Nat)) (m : List Nat) : List Nat -> List (Nat × List Nat) -> Bool
 | _, [] => true
 | pre, (i, c) :: post =>
  (match ops[i]? with
  | none => false
  | some o => (cI o).all pre.contains &&
   cond (late o)
    (match o.dst with
    | none => false
    | some d => !(looks ops o).contains d && l.all fun x => Nat.beq x.2 i || !(names ops x.1).contains d || nH m x.2 i)
    (post.all (fun x => nH m x.1 i) &&
     pre.all (fun k => match ops[k]? with
     | some o' => !late o' || !reads o' || nH m i k || c.contains k
     | none => false) &&
     (match o.dst with
     | none => true
     | some d => l.all fun x => !late x.1 || !(names ops x.1).contains d || nH m x.2 i || nH m i x.2))) &&
  oe ops l m (pre ++ [i]) post
def sy (ops : Array Oper) (plan : List (Nat × List Nat)) : Bool :=
 let l := ops.toList.zipIdx
 (plan.map (·.1)).all (fun i => Nat.blt i ops.size) && cz (plan.map (·.1)) && Nat.beq plan.length ops.size &&
 l.all (fun x => (cI x.1).all fun p => Nat.blt p x.2) &&
 oe ops l (xb ops.toList []) [] plan
def bF (P : Program) (h : ah) (fr : ak) (v : AV) : Option ak :=
 match fr.todo with
 | .kP ops i (o :: rest) :: k => match jg fr.nt fr.tm o.dst v with
  | some tm => some { fr with tm, todo := .kP ops (i + 1) rest :: k }
  | none => none
 | .cU ops ((i, chk) :: rest) :: k => match ops[i]? with
  | some o => match jg fr.nt fr.tm o.dst v with
   | some tm => cond (again P h tm ops chk) (some { fr with tm, todo := .cU ops rest :: k }) none
   | none => none
  | none => none
 | .inRangeFunc l :: k => some { fr with todo := .endRangeFunc l :: k }
 | _ => none
def qF : List bu -> Tr AV -> Tr AV
 | .cU _ _ :: _, _ => .nil
 | _, tm => tm
def zk (fr : ak) (vs : List jK) : ak :=
 { fr with
  mode := match fr.mode with
   | .panicking chain => .panicking (vs ++ chain)
   | _ => .panicking vs
  tm := qF fr.todo fr.tm }
def getLoop (h : ah) (l : Nat) : Option fS :=
 match h.get l with
 | some (.loop r) => some r
 | _ => none
def cD (l : Nat) (r : fS) (args : List AV) : Option ak :=
 cond (Nat.beq args.length r.params.size)
  (match o7 r.tm r.params.toList args with
  | some tm => some { fn := r.fn, nt := r.nt, tm, todo := [.code r.assign, .beginRound, .code r.body], defers := [], mode := .run, deferred := false, roundOf := some l }
  | none => none) none
where
 o7 : Tr AV -> List Tmp -> List AV -> Option (Tr AV)
  | t, [], _ => some t
  | t, _ :: _, [] => some t
  | t, p :: ps, a :: as_ => cond (Nat.blt p r.nt) (o7 (t.set p a) ps as_) none
def apply (P : Program) (fr : ak) (callers : List ak) : j9 -> ah -> List AV -> Option bc
 | .value v, h, _ => match bF P h fr v with
  | some fr => some { fr, callers, h }
  | none => none
 | .enter f args, h, _ => match enter P f args false with
  | some g => some { fr := g, callers := fr :: callers, h }
  | none => none
 | .round l, h, args => match getLoop h l with
  | some r => match P.funcs[r.fn]? with
   | some _ => match cD l r args with
    | some g => some { fr := g, callers := fr :: callers, h }
    | none => none
   | none => none
  | none => none
 | .defer d, h, _ => match fr.roundOf with
  | none => match bF P h { fr with defers := d :: fr.defers } .bad with
   | some fr => some { fr, callers, h }
   | none => none
  | some _ => none
 | .recover, h, _ => match fr.roundOf with
  | none => match fr.deferred, callers with
   | true, c :: rest => match c.mode with
    | .panicking ({ v, recovered := false } :: older) => match bF P h fr v with
     | some fr => some { fr, callers := { c with mode := .panicking ({ v, recovered := true } :: older) } :: rest, h }
     | none => none
    | _ => match bF P h fr .cW with
     | some fr => some { fr, callers, h }
     | none => none
   | _, _ => none
  | some _ => none
 | .panic v, h, _ => match v with
  | .iface _ _ => some { fr := zk fr [{ v, recovered := false }], callers, h }
  | _ => none
def iW (P : Program) (fr : ak) (callers : List ak) (h : ah) (ops : Array Oper) (o : Oper) : Option bc :=
 match aY ops fr.tm o with
 | some true => match bz P h fr.tm o with
  | some v => match bF P h fr v with
   | some fr => some { fr, callers, h }
   | none => none
  | none => match bH P h.next fr.tm o with
   | some (ob, v) => match bF P (h.new ob) fr v with
    | some fr => some { fr, callers, h := h.new ob }
    | none => none
   | none => match cQ P h fr.tm o with
    | some (n, h) => apply P fr callers n h (match o.op with | .call c => c.args.toList.map (evalOp fr.tm) | _ => [])
    | none => none
 | some false => match bF P h fr (.tuple []) with
  | some fr => some { fr, callers, h }
  | none => none
 | none => none
def dp (P : Program) (fr : ak) (callers : List ak) (v : AV) (h : ah) : Option bc :=
 match callers with
 | [] => none
 | c :: rest => cond fr.deferred
   (match c.mode with
    | .panicking ({ recovered := true, .. } :: _) => some { fr := { c with mode := .returning }, callers := rest, h }
    | .run => none
    | _ => some { fr := c, callers := rest, h })
   (match c.mode with
    | .run => match bF P h c v with
     | some c => some { fr := c, callers := rest, h }
     | none => none
    | _ => none)
def fF (P : Program) (fr : ak) (callers : List ak) (h : ah) (jump : Option Code) : Option bc :=
 match fr.roundOf with
 | none => match jump with
  | none | some .ret => some { fr := { fr with mode := .returning }, callers, h }
  | _ => none
 | some l => match getLoop h l with
  | some r => cond fr.deferred none (dp P fr callers (.bool jump.isNone) (h.set l (.loop { r with state := if jump.isNone then .ready else .done, pending := jump })))
  | none => none
def bq (P : Program) (h : ah) (tm : Tr AV) : List ResultVar -> Option (List AV)
 | [] => some []
 | .tmp t :: l => (bq P h tm l).map (bJ tm t :: ·)
 | .cell a t :: l => match fE P h t (bJ tm a), bq P h tm l with
  | some v, some vs => some (v :: vs)
  | _, _ => none
def exec (P : Program) (pl : fR) (fr : ak) (callers : List ak) (h : ah) : Option bc :=
 let to (todo : List bu) : Option bc := some { fr := { fr with todo }, callers, h }
 match fr.todo with
 | [] => fF P fr callers h none
 | .code c :: k => match c with
  | .ret => fF P fr callers h (some .ret)
  | .skip | .label _ => to k
  | .seq a b => to (.code a :: .code b :: k)
  | .cond c thn bx => match evalOp fr.tm c with
   | .bool b => to (.code (cond b thn bx) :: k)
   | _ => none
  | .block id body => to (.code body :: .inBlock id :: k)
  | .loop body => to (.code body :: .inLoop body :: k)
  | .scope body => to (.code body :: .inScope body :: k)
  | .exit id => match cS id k with
   | some k => to k
   | none => fF P fr callers h (some (.exit id))
  | .region _ ops false => to (.kP ops 0 ops.toList :: k)
  | .region id ops true => match b9 fr.fn pl with
   | some l => match b9 id l with
    | some p => cond (sy ops p) (to (.cU ops p :: k)) none
    | none => none
   | none => none
  | .rangeFunc f params assign body => match fr.roundOf with
   | none =>
    let h1 := h.new (.deferred (some []))
    let l := h1.next
    let h2 := h1.new (.loop { state := .ready, pending := none, fn := fr.fn, nt := fr.nt, tm := fr.tm, params, assign, body, defers := h.next })
    match me P (evalOp fr.tm f) [.aF l] with
    | some n => apply P { fr with todo := .inRangeFunc l :: k, defers := { yj := .collected h.next, args := [] } :: fr.defers } callers n h2 [.aF l]
    | none => none
   | some outer => match getLoop h outer with
    | some r =>
     let l := h.next
     let h2 := h.new (.loop { state := .ready, pending := none, fn := fr.fn, nt := fr.nt, tm := fr.tm, params, assign, body, defers := r.defers })
     match me P (evalOp fr.tm f) [.aF l] with
     | some n => apply P { fr with todo := .inRangeFunc l :: k } callers n h2 [.aF l]
     | none => none
    | none => none
  | _ => none
 | .inBlock _ :: k => to k
 | .inScope _ :: k => to k
 | .inLoop body :: k => to (.code body :: .inLoop body :: k)
 | .kP _ _ [] :: k => to k
 | .kP ops _ (o :: _) :: _ => iW P fr callers h ops o
 | .cU _ [] :: k => to k
 | .cU ops ((i, _) :: _) :: _ => match ops[i]? with
  | some o => iW P fr callers h ops o
  | none => none
 | .inRangeFunc _ :: _ => none
 | .beginRound :: k => match fr.roundOf with
  | some l => match getLoop h l with
   | some r => match r.state with
    | .ready => some { fr := { fr with todo := k }, callers, h := h.set l (.loop { r with state := .busy }) }
    | _ => none
   | none => none
  | none => none
 | .endRangeFunc l :: k => match getLoop h l with
  | some r => match r.state with
   | .busy => none
   | _ => some { fr := { fr with todo := match r.pending with | some c => .code c :: k | none => k }, callers, h := h.set l (.loop { r with state := .exhausted }) }
  | none => none
def unwind (P : Program) (fr : ak) (callers : List ak) (h : ah) : Option bc :=
 match fr.defers with
 | { yj := .collected r, .. } :: ds => match h.get r with
  | some (.deferred (some calls)) => some { fr := { fr with defers := calls ++ ds }, callers, h := h.set r (.deferred none) }
  | _ => none
 | { yj := .func f, args } :: ds => match enter P f args true with
  | some g => some { fr := g, callers := { fr with defers := ds } :: callers, h }
  | none => none
 | [] => match fr.mode with
  | .run => none
  | .panicking chain => match callers with
   | c :: rest => some { fr := zk c chain, callers := rest, h }
   | [] => none
  | .returning => match P.funcs[fr.fn]? with
   | some fn => match bq P h fr.tm fn.results.toList with
    | some [v] => dp P fr callers v h
    | some vs => dp P fr callers (.tuple vs) h
    | none => none
   | none => none
def kM (P : Program) (pl : fR) (m : bc) : Option bc :=
 match m.fr.mode with
 | .run => exec P pl m.fr m.callers m.h
 | _ => unwind P m.fr m.callers m.h
def AZ (P : Program) (pl : fR) : Nat -> bc -> Option bc
 | 0, m => some m
 | n + 1, m => match kM P pl m with
  | some m => AZ P pl n m
  | none => none
def done (P : Program) (f : FuncId) (m : bc) : Option AV :=
 match m.callers, m.fr.mode, m.fr.defers with
 | [], .returning, [] => cond (Nat.beq m.fr.fn f && !m.fr.deferred) (match P.funcs[m.fr.fn]? with
  | some fn => match bq P m.h m.fr.tm fn.results.toList with
   | some [v] => some v
   | some vs => some (.tuple vs)
   | none => none
  | none => none) none
 | _, _, _ => none
end
end Go.a9
